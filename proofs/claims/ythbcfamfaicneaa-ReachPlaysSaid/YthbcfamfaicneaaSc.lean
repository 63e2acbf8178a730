/- MY OWN LAYER: append of a made slice of any element's size. P is a variable. -/
import Derived.Test.YthbcfamfaicneaaSb
namespace Go.Proofs.Ythbcfamfaicneaa.E
open Go Go.RowKit
section
variable {cx : Cx} {ops : Array Oper} {K : Act → World → Prop} {rest : List Oper} {ρ : Env} {ds : List Deferred} {Γ : List HP} {d : Nat} {ty : TypeId} {pos : String} {after : Array Edge}
/-- append(nil, make(.., k)...) -/
theorem TL.appZG {t tn e : TypeId} {x y : Operand} {k : Nat} {kq kn : IntKind} {r r' rn : TR} (hd : Nat.blt d cx.n = true) (ht : TabOk cx.P t r) (hq : r.und = .slice e) (ht' : TabOk cx.P e r') (htn : TabOk cx.P tn rn) (hqn : rn.und = .int kn) (hb : Nat.ble r'.bytes 64 = true) (hzs : (r'.zero.cells.size == r'.size) = true) (hsz : Nat.blt 0 r'.size = true)
    (ea : ev ρ x = .slice none 0 0) (eb : ev ρ y = .int kq (k : Int)) (h0 : 0 < k) (hlim : k ≤ 1099511627776)
    (h : ∀ A c Z, k ≤ c → TL cx ops K rest ((d, .slice A k c) :: ρ) ds (own e r'.size (.slice A k c) k Z :: Γ)) : TL cx ops K (⟨some d, .call ⟨.builtin .append, #[x, y], #[t, tn]⟩, ty, pos, after, none⟩ :: rest) ρ ds Γ :=
  .act (X := Nat × Nat) (φ := fun p => k ≤ p.2) (v := fun p => .slice (some ⟨p.1, 0, none⟩) k p.2) (Δ := fun p => own e r'.size (.slice (some ⟨p.1, 0, none⟩) k p.2) k (Builtin.zeroCells r'.zero.cells k).toList :: Γ) hd (fun w hS => by
    obtain ⟨_, i, hi, h1, h2, h3⟩ := id ht'
    have hb' : r'.bytes ≤ 64 := by simpa using hb
    have hbi : i.bytes ≤ 64 := by omega
    have hzs' : r'.zero.cells.size = r'.size := by simpa using hzs
    have hsz' : 0 < r'.size := by simpa using hsz
    have hcap : Builtin.nextslicecap (0 + k) 0 * i.bytes ≤ 281474976710656 := growslice_fits (need := 0 + k) (old := 0) (bytes := i.bytes) (by omega) (by
      have : (0 + k) * i.bytes ≤ 1099511627776 * 64 := Nat.mul_le_mul (by omega) hbi
      omega)
    have hrun := Go.Lib.run_append_grow_zeros (P := cx.P) w t tn ty e i r'.zero kq kn (by rw [ht.1, hq]) (by rw [htn.1, hqn]) hi h3 none 0 0 [] (run_firstCells_none w.drew i.size 0 0 0) k h0 (by omega) (by omega) (by omega) (by
      have : k * i.bytes ≤ 1099511627776 * 64 := Nat.mul_le_mul hlim hbi
      omega) hcap
    have hge := grownCap_ge w (0 + k) 0 e
    rw [Nat.zero_add] at hrun hge
    have hrun2 : (execOp (ev ρ) ⟨some d, .call ⟨.builtin .append, #[x, y], #[t, tn]⟩, ty, pos, after, none⟩).run cx.P w = .ok (.value (.slice (some ⟨w.heap.size, 0, none⟩) k (grownCap w k 0 e))) (w.drew.alloc (.cells (#[] ++ Builtin.zeroCells r'.zero.cells k ++ Builtin.zeroCells r'.zero.cells (grownCap w k 0 e - k)) e)) := by
      simp only [execOp, resolve, invoke, builtin, List.map_toArray, List.map_cons, List.map_nil, ea, eb, Sem.run_bind, Sem.run_pure, Result.andThen_ok]
      rw [hrun]
      rfl
    refine ⟨(w.heap.size, grownCap w k 0 e), _, hge, ?_, hrun2⟩
    have h5 := hS.drew.alloc (.cells (#[] ++ Builtin.zeroCells r'.zero.cells k ++ Builtin.zeroCells r'.zero.cells (grownCap w k 0 e - k)) e)
    have h63 := grownCap_le_maxLen w k 0 e (by unfold maxLen; omega)
    have hl1 : (Builtin.zeroCells r'.zero.cells k).toList.length = k * r'.size := by rw [size_zeroCells', hzs']
    refine h5.imp fun m hm => sep_mono hm (fun q hq => ⟨hl1, .inr ⟨_, grownCap w k 0 e, (Builtin.zeroCells r'.zero.cells k).toList ++ (Builtin.zeroCells r'.zero.cells (grownCap w k 0 e - k)).toList, rfl, hge, h63, ?_, ?_, ?_⟩⟩) (fun _ => id)
    · rw [List.length_append, hl1, size_zeroCells', hzs', ← Nat.add_mul]
      congr 1
      omega
    · rw [← hl1, List.take_left']
      rfl
    · have e1 : ((Builtin.zeroCells r'.zero.cells k).toList ++ (Builtin.zeroCells r'.zero.cells (grownCap w k 0 e - k)).toList).toArray = #[] ++ Builtin.zeroCells r'.zero.cells k ++ Builtin.zeroCells r'.zero.cells (grownCap w k 0 e - k) := by simp
      show pt _ _ q
      rw [e1]
      exact hq) (fun p hp => h _ p.2 _ hp)
end
end Go.Proofs.Ythbcfamfaicneaa.E
