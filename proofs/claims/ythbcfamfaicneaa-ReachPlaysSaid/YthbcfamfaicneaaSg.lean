/- MY OWN LAYER: []byte(s), which is written to. P is a variable. -/
import Derived.Test.YthbcfamfaicneaaSb
import Derived.Lib.FrozenHead
namespace Go.Proofs.Ythbcfamfaicneaa.E
open Go Go.RowKit
/-- Cells at the beginning of a block that was made of a string. -/
def rowF (b : Nat) (l : List Value) (e : TypeId) : HP := fun m => ∃ (l2 : List Value) (k : Nat), l.length ≤ k ∧ pt b (.cells (l ++ l2).toArray e (k, k + 1)) m
theorem rowF_src {b : Nat} {vs : List Value} {e : TypeId} {m : Mem} (h : rowF b vs e m) {n : Nat} (hn : vs.length = n) : srcAt 1 (some ⟨b, 0, none⟩) n vs m := by
  obtain ⟨l, k, _, h⟩ := h
  refine ⟨by omega, .inr ⟨b, 0, rfl, fun j v hj => ⟨(vs ++ l).toArray, e, (k, k + 1), by rw [h b]; simp, ?_⟩⟩⟩
  have := (List.getElem?_eq_some_iff.1 hj).1
  simp [List.getElem?_append_left this, hj]
theorem run_store1 (P : Program) (b o e : Nat) (fz : Nat × Nat) (cur : Array Value) (w : World) {v : Value} (hg : w.heap[b]? = some (.cells cur e fz)) (ho : o < cur.size) (hf : o < fz.1) (h1 : v.oneCell' = true) :
    (storeCells ⟨b, o, none⟩ [v] 0).run P w = .ok () (w.setRow b (cur.setIfInBounds o v)) := by
  have hadd : (⟨b, o, none⟩ : Addr).add 0 = ⟨b, o, none⟩ := by unfold Addr.add; split <;> simp_all
  have hcell : w.cell? ⟨b, o, none⟩ = some cur[o] := by simp [World.cell?, hg, ho]
  have hfro : w.frozen? ⟨b, o, none⟩ = false := by
    obtain ⟨lo, hi'⟩ := fz
    simp only [World.frozen?, hg, Bool.and_eq_false_iff, decide_eq_false_iff_not]
    left
    simp only at hf
    omega
  have hst : (store ((⟨b, o, none⟩ : Addr).add 0) v).run P w = .ok () (w.setRow b (cur.setIfInBounds o v)) := by
    rw [hadd, run_store P w _ v _ h1, hcell]
    simp [hfro, setCell_eq_setRow w b o cur e fz v hg]
  simp only [storeCells, Sem.run_bind, hst, Result.andThen_ok]
  rfl
section
variable {cx : Cx} {ops : Array Oper} {K : Act → World → Prop} {rest : List Oper} {ρ : Env} {ds : List Deferred} {Γ : List HP} {d : Nat} {ty : TypeId} {pos : String} {after : Array Edge}
/-- []byte(s), to be written to. -/
theorem TL.convSBw {t t' e : TypeId} {x : Operand} {a : List UInt8} {r r' r'' : TR} (hd : Nat.blt d cx.n = true) (ea : ev ρ x = .string (S a)) (ht : TabOk cx.P t r) (ht' : TabOk cx.P t' r') (hq : r'.und = .slice e) (he : TabOk cx.P e r'') (hu : r''.und = .int .u8)
    (h : ∀ b c, a.length ≤ c → TL cx ops K rest ((d, .slice (some ⟨b, 0, none⟩) a.length c) :: ρ) ds (rowF b (bytesV a) e :: Γ)) : TL cx ops K (⟨some d, .convert t t' x, ty, pos, after, none⟩ :: rest) ρ ds Γ :=
  .act (X := Nat × Nat) (φ := fun p => a.length ≤ p.2) (v := fun p => .slice (some ⟨p.1, 0, none⟩) a.length p.2) (Δ := fun p => rowF p.1 (bytesV a) e :: Γ) hd (fun w hs => by
    have h1 := Lib.run_convert_string_bytes (P := cx.P) w t t' e (S a) ht.1 (by rw [ht'.1, hq]) (by rw [he.1, hu])
    refine ⟨(w.heap.size, grownCap w (S a).size 0 e), _, grownCap_ge w _ _ e, ?_, by rw [show execOp (ev ρ) ⟨some d, .convert t t' x, ty, pos, after, none⟩ = (do pure (.value (← convert t t' (ev ρ x)))) from rfl, ea]; simp only [Sem.run_bind, h1, Result.andThen_ok]; rfl⟩
    have hnew : Sat cx.E (pt w.heap.size (.cells (Lib.bytesCells w e (S a)) e ((Lib.bytesCells w e (S a)).size, (Lib.bytesCells w e (S a)).size + 1)) :: Γ) (Lib.bytesWorld w e (S a)) :=
      hs.new rfl rfl rfl (by simp) (Lib.bytesWorld_at_new w e (S a)) fun k q hq => by
        have hk : k < w.heap.size := (Array.getElem?_eq_some_iff.1 hq).1
        rw [Lib.bytesWorld_at_old w e (S a) k hk]; exact hq
    have heq : (bytesV a ++ List.replicate (grownCap w (S a).size 0 e - (S a).size) (Value.int .u8 0)).toArray = Lib.bytesCells w e (S a) := by
      unfold Lib.bytesCells bytesV S
      apply Array.ext'
      simp
    refine hnew.imp fun m hm => sep_mono hm (fun q hq => ⟨List.replicate (grownCap w (S a).size 0 e - (S a).size) (.int .u8 0), (Lib.bytesCells w e (S a)).size, ?_, ?_⟩) (fun _ => id)
    · rw [← heq]; simp
    · rw [heq]; exact hq) (fun p hp => h p.1 p.2 hp)
/-- A store into it. -/
theorem TL.storeF {t e : TypeId} {x y : Operand} {b o : Nat} {v : Value} {l l' : List Value} {r : TR} {Δ : List HP} (i : Nat) (hi : Γ[i]? = some (rowF b l e)) (ea : ev ρ x = .pointer (some ⟨b, o, none⟩)) (eb : ev ρ y = v) (h1 : v.oneCell' = true) (ht : TabOk cx.P t r) (hr1 : (r.size == 1) = true) (ho : o < l.length)
    (hl : l.set o v = l') (hΔ : Γ.set i (rowF b l' e) = Δ) (h : TL cx ops K rest ρ ds Δ) : TL cx ops K (⟨none, .store t x y, ty, pos, after, none⟩ :: rest) ρ ds Γ := by
  subst hl; subst hΔ
  intro a w hr hs
  obtain ⟨⟨l2, k⟩, hk, hs1⟩ := hs.at hi (X := List Value × Nat) (φ := fun p => l.length ≤ p.2) (K := fun p => pt b (.cells (l ++ p.1).toArray e (p.2, p.2 + 1))) (fun m hm => by
    obtain ⟨l2, k, h2, h3⟩ := hm
    exact ⟨(l2, k), h2, h3⟩)
  simp only at hk hs1
  have hlt := (List.getElem?_eq_some_iff.1 hi).1
  have hi2 : (Γ.set i (pt b (.cells (l ++ l2).toArray e (k, k + 1))))[i]? = some (pt b (.cells (l ++ l2).toArray e (k, k + 1))) := by simp [hlt]
  refine TL.act0 (Γ := Γ.set i (pt b (.cells (l ++ l2).toArray e (k, k + 1)))) (Δ := Γ.set i (rowF b (l.set o v) e)) (fun w hs => ?_) h a w hr hs1
  have hb := hs.block hi2
  have hc : v.cells = #[v] := by cases v <;> simp [Value.cells, Value.oneCell'] at h1 ⊢
  have hst := run_store1 cx.P b o e (k, k + 1) (l ++ l2).toArray w hb (by simp; omega) (by show o < k; omega) h1
  have hr1' : r.size = 1 := by simpa using hr1
  refine ⟨w.setRow b ((l ++ l2).toArray.setIfInBounds o v), ?_, by simp only [execOp, ea, eb, Instr.storeAt, Instr.sureAddr, storeVar, hc, ht.run_size, hr1', Sem.run_bind, Result.andThen_ok, Sem.run_pure]; simp [hst]⟩
  have hp := hs.put (w' := w.setRow b ((l ++ l2).toArray.setIfInBounds o v)) hi2 rfl rfl rfl (setRow_heap w b _ _ e _ hb) fun k hk q hq => (setRow_other w b _ k hk).trans hq
  rw [List.set_set] at hp
  refine hp.imp fun m hm => ?_
  refine all_perm (perm_set (rowF b (l.set o v) e) hi).symm ?_
  refine sep_mono (all_perm (perm_set _ hi) hm) (fun q hq => ⟨l2, k, by rw [List.length_set]; exact hk, ?_⟩) (fun _ => id)
  rw [show (l.set o v ++ l2).toArray = (l ++ l2).toArray.setIfInBounds o v by simp [List.set_append_left _ _ ho]]
  exact hq
end
end Go.Proofs.Ythbcfamfaicneaa.E
