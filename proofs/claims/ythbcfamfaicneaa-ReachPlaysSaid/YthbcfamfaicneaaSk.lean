/- MY OWN LAYER: stores of structs into what one owns. P is a variable. -/
import Derived.Test.YthbcfamfaicneaaSi
namespace Go.Proofs.Ythbcfamfaicneaa.E
open Go Go.RowKit
section
variable {cx : Cx} {ops : Array Oper} {K : Act → World → Prop} {rest : List Oper} {ρ : Env} {ds : List Deferred} {Γ : List HP} {ty : TypeId} {pos : String} {after : Array Edge}
/-- A struct is stored into memory that an assertion at place i owns. -/
theorem TL.storeAggIn {t e : TypeId} {x y : Operand} {b o : Nat} {vs : List Value} {r : TR} {H H' : HP} (i : Nat) (hi : Γ[i]? = some H) (ea : ev ρ x = .pointer (some ⟨b, o, none⟩)) (eb : ev ρ y = .agg vs.toArray) (h1 : allOne vs = true) (ht : TabOk cx.P t r) (hn : (vs.length == r.size) = true)
    (hH : ∀ m, H m → ∃ (l : List Value) (F : HP), sep (row b l e) F m ∧ o + vs.length ≤ l.length ∧ ∀ m', sep (row b (l.take o ++ vs ++ l.drop (o + vs.length)) e) F m' → H' m')
    (h : TL cx ops K rest ρ ds (Γ.set i H')) : TL cx ops K (⟨none, .store t x y, ty, pos, after, none⟩ :: rest) ρ ds Γ := by
  intro a w hr hs
  obtain ⟨⟨l, F⟩, ⟨ho, hF⟩, hs1⟩ := hs.at hi (X := List Value × HP) (φ := fun p => o + vs.length ≤ p.1.length ∧ ∀ m', sep (row b (p.1.take o ++ vs ++ p.1.drop (o + vs.length)) e) p.2 m' → H' m') (K := fun p => sep (row b p.1 e) p.2) (fun m hm => by
    obtain ⟨l, F, h2, h3, h4⟩ := hH m hm
    exact ⟨(l, F), ⟨h3, h4⟩, h2⟩)
  have hi2 : (Γ.set i (sep (row b l e) F))[i]? = some (sep (row b l e) F) := by
    have := (List.getElem?_eq_some_iff.1 hi).1
    simp [this]
  have hs2 : Sat cx.E (row b l e :: F :: Γ.eraseIdx i) w := hs1.imp fun m hm => by
    have := all_front hi2 hm
    rw [List.eraseIdx_set_eq] at this
    exact sep_assoc this
  refine TL.storeAgg (Γ := row b l e :: F :: Γ.eraseIdx i) (pos := pos) (ty := ty) (after := after) 0 rfl ea eb (by simpa [allOne] using h1) ht (by simpa using hn) ho ?_ a w hr hs2
  refine TL.imp (fun m hm => ?_) h
  refine all_perm (perm_set H' hi).symm ?_
  exact sep_mono (sep_assoc' hm) hF (fun _ => id)
/-- The j-th struct of a slice of one's own is put anew. -/
theorem TL.storeOwnA {t e : TypeId} {x y : Operand} {b o' c n sz : Nat} {vs cs cs' : List Value} {r : TR} {Δ : List HP} (i j : Nat) (hi : Γ[i]? = some (own e sz (.slice (some ⟨b, 0, none⟩) n c) n cs)) (ea : ev ρ x = .pointer (some ⟨b, o', none⟩)) (eb : ev ρ y = .agg vs.toArray) (h1 : allOne vs = true) (ht : TabOk cx.P t r) (hn : (vs.length == r.size) = true)
    (hsz : vs.length = sz) (ho : o' = j * sz) (hj : j < n) (hcs : cs.take (j * sz) ++ vs ++ cs.drop (j * sz + sz) = cs') (hΔ : Γ.set i (own e sz (.slice (some ⟨b, 0, none⟩) n c) n cs') = Δ) (h : TL cx ops K rest ρ ds Δ) : TL cx ops K (⟨none, .store t x y, ty, pos, after, none⟩ :: rest) ρ ds Γ := by
  subst hcs; subst hΔ; subst ho
  refine TL.storeAggIn (e := e) i hi ea eb h1 ht hn (fun m hm => ?_) h
  obtain ⟨hcl, ⟨hv, _⟩ | ⟨g, cap, cur, hv, hnc, hcap, hl, htk, hrow⟩⟩ := hm
  · cases hv
  · injection hv with hv1 _ hv2
    injection hv1 with hv1
    injection hv1 with hv1 _
    subst hv1; subst hv2
    have hb : j * sz + sz ≤ n * sz := by
      have := Nat.mul_le_mul_right sz (Nat.succ_le_of_lt hj)
      rw [Nat.succ_mul] at this; exact this
    have hb2 : n * sz ≤ cur.length := by rw [hl]; exact Nat.mul_le_mul_right _ hnc
    have hl2 : sz ≤ cur.length := by omega
    generalize j * sz = a at hb ⊢
    refine ⟨cur, emp, sep_emp hrow, by rw [hsz]; omega, fun m' hm' => ⟨by rw [List.length_append, List.length_append, List.length_take, List.length_drop, hcl, hsz]; omega, .inr ⟨b, c, cur.take a ++ vs ++ cur.drop (a + sz), rfl, hnc, hcap, by rw [List.length_append, List.length_append, List.length_take, List.length_drop, hsz]; omega, ?_, ?_⟩⟩⟩
    · have h2 : (cur.take a ++ vs).length = a + sz := by rw [List.length_append, List.length_take, hsz]; omega
      rw [← htk, List.take_append, h2, List.take_of_length_le (by rw [h2]; exact hb), List.take_take, Nat.min_eq_left (by omega), List.drop_take]
    · have := sep_of_emp hm'
      rw [hsz] at this
      exact this
end
end Go.Proofs.Ythbcfamfaicneaa.E
