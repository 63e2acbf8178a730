/- MY OWN LAYER: structs built as values; two operations of a region that may come up, one as well as the other. P is a variable. -/
import Derived.Test.YthbcfamfaicneaaSv
import Derived.Lib.SliceRun
namespace Go.Proofs.Ythbcfamfaicneaa.E
open Go Go.RowKit Go.Proofs
section
variable {P : Program} {ρ : Env} {d : Nat} {ty : TypeId} {pos : String} {after : Array Edge} {Sw : World → Prop} {tab : List TR}
theorem PV.build {t : TypeId} {ps : List (Nat × Operand)} {r : TR} {fs : List Field} {pls : List (Nat × Nat)} {qs : List (Nat × Nat × List Value)} {l : List Value} (hT : TabsOk P tab) (ht : tab[t]? = some r) (hq : r.und = .struct fs.toArray) (hp : placesOf tab fs = some pls)
    (hqs : partsOf (fun i => pls[i]?) ρ ps = some qs) (hf : fitL r.zero.cells.size qs = true) (hl : fillL r.zero.cells.toList (qs.map fun q => (q.1, q.2.2)) = l) : PV P ρ Sw ⟨some d, .build t ps.toArray, ty, pos, after, none⟩ (.agg l.toArray) := fun w _ => by
  have hr := hT _ _ ht
  have h1 := run_places hT w fs pls hp
  have h2 := fill_eq (fun i => pls.toArray[i]?) _ (ps.map fun p => (p.1, ev ρ p.2)) qs r.zero.cells rfl (by simpa using parts_map ps qs hqs) hf
  simp only [execOp, Instr.build, Sem.run_bind, hr.run_zero, Result.andThen_ok, hr.run_und, hq, Array.mapM_eq_mapM_toList, Sem.run_map, h1, List.map_toArray]
  simp only [h2, hl]
  rfl
end
section
variable {cx : Cx} {ops : Array Oper} {Γ₀ : List HP} {fuel : Nat} {listed : Array Bool} {k : List Item} {ρ : Env} {ds : List Deferred} {Γ : List HP}
/-- Two operations may come up, one as well as the other: behind both the walk goes on once. -/
theorem TA.twoJ (i j : Nat) (J : Env → List HP → Prop) {o o' : Oper} (hr : Region.ready .any ops listed = [i, j]) (hi : ops[i]? = some o) (hj : ops[j]? = some o') (hij : (i == j) = false)
    (hA : (∀ ρ' Γ', J ρ' Γ' → TA cx ops Γ₀ fuel ((listed.setIfInBounds i true).setIfInBounds j true) k ρ' ds Γ') → TL cx ops (KA cx ops Γ₀ (fuel + 1) (listed.setIfInBounds i true) k) [o] ρ ds Γ)
    (hB : (∀ ρ' Γ', J ρ' Γ' → TA cx ops Γ₀ fuel ((listed.setIfInBounds j true).setIfInBounds i true) k ρ' ds Γ') → TL cx ops (KA cx ops Γ₀ (fuel + 1) (listed.setIfInBounds j true) k) [o'] ρ ds Γ)
    (tail : ∀ ρ' Γ', J ρ' Γ' → TA cx ops Γ₀ fuel ((listed.setIfInBounds i true).setIfInBounds j true) k ρ' ds Γ') : TA cx ops Γ₀ (fuel + 2) listed k ρ ds Γ := by
  refine TA.two i j hr hi hj (hA tail) (hB fun ρ' Γ' h => ?_)
  have hne : i ≠ j := by simpa using hij
  have hc : (listed.setIfInBounds j true).setIfInBounds i true = (listed.setIfInBounds i true).setIfInBounds j true := by
    apply Array.ext'
    simp only [Array.toList_setIfInBounds]
    exact (List.set_comm true true (Ne.symm hne)).symm ▸ rfl
  rw [hc]
  exact tail ρ' Γ' h
end
section
variable {cx : Cx} {ops : Array Oper} {K : Act → World → Prop} {rest : List Oper} {ρ : Env} {ds : List Deferred} {Γ : List HP} {ty : TypeId} {pos : String} {after : Array Edge}
/-- Part of a slice of one's own is cleared. -/
theorem TL.clearOwn {t e : TypeId} {x : Operand} {b o m n c c' : Nat} {cs : List Value} {r r' : TR} (i : Nat) (hi : Γ[i]? = some (own e 1 (.slice (some ⟨b, 0, none⟩) n c) n cs)) (ea : ev ρ x = .slice (some ⟨b, o, none⟩) m c') (ht : TabOk cx.P t r) (hq : r.und = .slice e) (ht' : TabOk cx.P e r')
    (hz : r'.zero.cells = #[r'.zero]) (h1 : r'.zero.oneCell' = true) (hm : 0 < m) (hom : o + m ≤ n)
    (h : TL cx ops K rest ρ ds (Γ.set i (own e 1 (.slice (some ⟨b, 0, none⟩) n c) n (cs.take o ++ List.replicate m r'.zero ++ cs.drop (o + m))))) : TL cx ops K (⟨none, .call ⟨.builtin .clear, #[x], #[t]⟩, ty, pos, after, none⟩ :: rest) ρ ds Γ := by
  intro a w hr hs
  obtain ⟨cur, ⟨hcl, hcn, hcc, hct⟩, hs1⟩ := hs.at hi (X := List Value) (φ := fun cur => cs.length = n ∧ n ≤ cur.length ∧ (cur.length = c ∧ c ≤ maxLen) ∧ cur.take n = cs) (K := fun cur => row b cur e) (fun mm hmm => by
    obtain ⟨h1, ⟨hv, _⟩ | ⟨g, cap, cur, hv, hn, hcap, hl, htk, hrow⟩⟩ := hmm
    · cases hv
    · injection hv with hv1 _ hv2
      injection hv1 with hv1
      injection hv1 with hv1 _
      subst hv1; subst hv2
      rw [Nat.mul_one] at h1 hl htk
      exact ⟨cur, ⟨h1, by omega, ⟨hl, hcap⟩, htk⟩, hrow⟩)
  have hlt := (List.getElem?_eq_some_iff.1 hi).1
  have hi2 : (Γ.set i (row b cur e))[i]? = some (row b cur e) := by simp [hlt]
  have hb := hs1.block hi2
  have hst := run_storeCells_at cx.P b o e (List.replicate m r'.zero) 0 cur.toArray w hb (by simp; omega) (by intro v hv; rw [List.eq_of_mem_replicate hv]; exact h1)
  have hzc : (Builtin.zeroCells r'.zero.cells m).toList = List.replicate m r'.zero := by
    rw [hz]
    simp [Builtin.zeroCells]
    apply List.ext_getElem
    · simp
    · intro i h1 h2
      simp [Nat.mod_one]
  simp only [Nat.add_zero, List.length_replicate] at hst
  obtain ⟨m', rfl⟩ : ∃ k, m = k + 1 := ⟨m - 1, by omega⟩
  have hx : (execOp a.eval ⟨none, .call ⟨.builtin .clear, #[x], #[t]⟩, ty, pos, after, none⟩).run cx.P w = .ok (.value (.tuple #[])) (w.setRow b (cur.take o ++ List.replicate (m' + 1) r'.zero ++ cur.drop (o + (m' + 1))).toArray) := by
    rw [hr.ev]
    simp [execOp, resolve, invoke, builtin, ea, Builtin.clear_, ht.run_und, hq, ht'.run_zero, hzc, hst]
  refine wpL_value rfl hx (h _ _ (hr.none _) ?_)
  have hp := hs1.put (w' := w.setRow b (cur.take o ++ List.replicate (m' + 1) r'.zero ++ cur.drop (o + (m' + 1))).toArray) hi2 rfl rfl rfl (setRow_heap w b _ _ e _ hb) fun k hk q hq => (setRow_other w b _ k hk).trans hq
  rw [List.set_set] at hp
  refine hp.imp fun mm hmm => ?_
  refine all_perm (perm_set _ hi).symm ?_
  refine sep_mono (all_perm (perm_set _ hi) hmm) (fun q hq => ?_) (fun _ => id)
  have hl2 : (cur.take o ++ List.replicate (m' + 1) r'.zero ++ cur.drop (o + (m' + 1))).length = c := by simp; omega
  refine ⟨by simp; omega, .inr ⟨b, c, cur.take o ++ List.replicate (m' + 1) r'.zero ++ cur.drop (o + (m' + 1)), rfl, by omega, hcc.2, by rw [Nat.mul_one]; exact hl2, ?_, hq⟩⟩
  have hAB : (cur.take o ++ List.replicate (m' + 1) r'.zero).length = o + (m' + 1) := by simp; omega
  rw [Nat.mul_one, ← hct, List.take_append, hAB, List.take_of_length_le (by omega), List.take_take, Nat.min_eq_left (by omega), List.drop_take]
end
end Go.Proofs.Ythbcfamfaicneaa.E
