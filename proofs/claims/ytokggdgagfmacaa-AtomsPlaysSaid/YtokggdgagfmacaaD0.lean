/- slices.Index of terms; what variables stand for, of whatever numbers: walked. -/
import Derived.Test.YtokggdgagfmacaaC3
namespace Go.Proofs.Ytokggdgagfmacaa.E
open Go Go.RowKit Go.Proofs
attribute [local irreducible] TK TL TQ TA Fn PV
/-- The first place of a term. -/
def idxT (l : List Tm) (t : Tm) : Int := match l.findIdx? (fun x => decide (x = t)) with | some k => (k : Int) | none => -1
theorem idxT_none {l : List Tm} {t : Tm} (h : t ∉ l) : idxT l t = -1 := by
  have h1 : l.findIdx? (fun x => decide (x = t)) = none := List.findIdx?_eq_none_iff.2 fun x hx => decide_eq_false fun e : x = t => h (e ▸ hx)
  unfold idxT
  rw [h1]
theorem idxT_some {l : List Tm} {t : Tm} (h : t ∈ l) : ∃ k : Nat, idxT l t = (k : Int) ∧ l[k]? = some t := by
  unfold idxT
  cases hk : l.findIdx? (fun x => decide (x = t)) with
  | none => exact absurd h (fun hm => by have := List.findIdx?_eq_none_iff.1 hk t hm; simp at this)
  | some k =>
    obtain ⟨h1, h2, _⟩ := List.findIdx?_eq_some_iff_getElem.1 hk
    exact ⟨k, rfl, by rw [List.getElem?_eq_getElem h1, of_decide_eq_true h2]⟩
theorem idxT_at {l : List Tm} {t : Tm} {i : Nat} (hno : ∀ k, k < i → l[k]? ≠ some t) (h : l[i]? = some t) : idxT l t = (i : Int) := by
  obtain ⟨hi, he⟩ := List.getElem?_eq_some_iff.1 h
  have : l.findIdx? (fun x => decide (x = t)) = some i := List.findIdx?_eq_some_iff_getElem.2 ⟨hi, decide_eq_true he, fun j hj => by
    have := hno j hj
    rw [List.getElem?_eq_getElem (by omega)] at this
    simpa using this⟩
  unfold idxT
  rw [this]
set_option maxRecDepth 100000 in
set_option maxHeartbeats 1000000 in
theorem idx_t (A : Option Addr) (c : Nat) (l : List Tm) (t : Tm) (Γ : List HP) (hs : has Γ (srcAt 2 A l.length (tmsC l))) (hn : l.length ≤ 1000000) :
    FnV Try.prog 117 [.slice A l.length c, .agg (tmC t).toArray] Γ fun v Γ' => v = .int .i64 (idxT l t) ∧ Γ' = Γ := by
  refine Fn.enter Try.func117 rfl rfl rfl fun E => ?_
  refine m_run ?_
  (apply TL.box; exact rfl; exact rfl; (exact m_lst))
  intro b3
  refine m_run ?_
  refine TK.imp (Δ := row b3 (tmC t) 54 :: Γ) (fun _ h => h) ?_
  apply TK.iter (fun j ρ' Γ' => ∃ (i : Nat), i + j = l.length ∧ (∀ k, k < i → l[k]? ≠ some t) ∧ lk ρ' 0 = .slice A l.length c ∧ lk ρ' 3 = .pointer (some ⟨b3, 0, none⟩) ∧ lk ρ' 7 = .int .i64 (l.length : Int) ∧ lk ρ' 8 = .int .i64 (i : Int) ∧ Γ' = row b3 (tmC t) 54 :: Γ) l.length
  · exact ⟨0, Nat.zero_add _, fun k h => absurd h (Nat.not_lt_zero k), rfl, rfl, rfl, rfl, rfl⟩
  rintro j IH ρ' _ ⟨i, hij, hno, e0, e3, e7, e8, rfl⟩
  refine TK.know4 e0 e3 e7 e8 ?_
  by_cases hi : i < l.length
  · obtain ⟨x, hx⟩ : ∃ x, l[i]? = some x := ⟨l[i], List.getElem?_eq_getElem hi⟩
    refine TK.mem fun m0 hm0 => ?_
    obtain ⟨b, o, rfl⟩ := src_some (has_tls hs m0 hm0) (by rw [tmsC_len]; omega)
    clear hm0 m0
    have hel := has_el (f := tmC) (fun _ => rfl) (by decide) hs hx
    refine m_run ?_
    refine TK.drawS mixed rfl ?_
    refine m_take (At.mk : At 0) ?_; refine m_take (At.mk : At 1) ?_; refine m_take (At.mk : At 2) ?_; refine m_take (At.mk : At 3) ?_; refine m_take (At.mk : At 4) ?_
    (apply TA.takeA (At.mk : At 5); exact rfl; exact rfl; kernel_rfl; ((focus ((repeat (first | assumption | exact Ent.refl _ | apply Ent.tail)); done))); (apply PV.eqSt (xs := tmC t) (ys := tmC x) tabs; exact rfl; exact rfl; exact rfl; exact rfl; kernel_rfl; kernel_rfl; exact congrArg some (tm_eq t x)))
    by_cases htx : t = x
    · refine TA.isT 16 rfl (decide_eq_true htx) ?_
      refine TA.done (by kernel_rfl) ?_
      have := idxT_at hno (by rw [hx, htx])
      refine m_run ?_
      (apply TK.retS1; exact rfl; exact rfl; (exact m_val))
      · exact ⟨_, rfl, congrArg (Value.int .i64) this.symm, rfl⟩
      · (repeat (first | exact List.Sublist.refl _ | apply List.Sublist.cons_cons | apply List.Sublist.cons))
    · refine TA.isF 16 rfl (decide_eq_false htx) ?_
      refine TA.done (by kernel_rfl) ?_
      refine m_run ?_
      refine IH (j - 1) _ _ (by omega) ⟨i + 1, by omega, fun k hk => ?_, rfl, rfl, rfl, congrArg (Value.int .i64) (i64_succ i (by omega)), rfl⟩
      rcases Nat.lt_or_ge k i with h1 | h1
      · exact hno k h1
      · rw [show k = i by omega, hx]; exact fun e => htx (Option.some.inj e).symm
  obtain rfl : i = l.length := by omega
  have hni : t ∉ l := fun hm => by
    obtain ⟨k, hk, hke⟩ := List.getElem_of_mem hm
    exact hno k hk (by rw [List.getElem?_eq_getElem hk, hke])
  have := idxT_none hni
  refine m_run ?_
  (apply TK.retS1; exact rfl; exact rfl; (exact m_val))
  · exact ⟨_, rfl, congrArg (Value.int .i64) this.symm, rfl⟩
  · (repeat (first | exact List.Sublist.refl _ | apply List.Sublist.cons_cons | apply List.Sublist.cons))
end Go.Proofs.Ytokggdgagfmacaa.E
