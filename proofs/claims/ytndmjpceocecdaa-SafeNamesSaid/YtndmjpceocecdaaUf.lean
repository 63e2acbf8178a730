/- What a clause holds, as the program finds it: held$1 and held, walked. -/
import Derived.Test.YtndmjpceocecdaaUe
namespace Go.Proofs.Ytndmjpceocecdaa.E
open Go Go.RowKit Go.Proofs
attribute [local irreducible] TK TL TQ TA Fn PV
def oneN (_ : Unit) : Value := .int .i64 1
theorem all_comp {D l : List Nat} (h : D.Perm l) (p : Nat → Bool) : (compL D).all p = l.all p := by
  rw [Bool.eq_iff_iff, List.all_eq_true, List.all_eq_true]
  exact ⟨fun g x hx => g x ((compL_mem D x).2 (h.mem_iff.2 hx)), fun g x hx => g x (h.mem_iff.1 ((compL_mem D x).1 hx))⟩
/-- The map has just these. -/
def Holds (es : List (Nat × Unit)) (V : List Nat) : Prop := ∀ v, (lookE es v).isSome = decide (v ∈ V)
set_option maxRecDepth 100000 in
set_option maxHeartbeats 1000000 in
theorem all_t (b3 mb : Nat) (V : List Nat) (es : List (Nat × Unit)) (a : Atm) (Γ : List HP) (ha : a.ok Γ) (hn : a.l.length ≤ 1000000) (hc : has Γ (fun m => cellAt m b3 0 (.map (some mb)))) (hm : has Γ (mapAt u32N oneN mb es)) (hV : Holds es V) :
    FnV Try.prog 65 [.agg a.cells.toArray, .pointer (some ⟨b3, 0, none⟩)] Γ fun v Γ' => v = .bool (heldA V a.l) ∧ Γ' = Γ := by
  refine Fn.enter Try.func65 rfl rfl rfl fun E => ?_
  refine m_run ?_
  (apply TL.box; exact rfl; exact rfl; (exact m_lst))
  intro b
  refine m_run ?_
  (apply TL.callV; exact rfl; exact callB_of (by kernel_rfl); exact rfl; exact fun _ h => h)
  exact varsG_t a _ (Atm.ok_tl ha) hn
  rintro _ _ ⟨D, B, k, hp, hs, hk, rfl, rfl⟩
  have hall := all_comp hp (fun v => decide (v ∈ V))
  have hlen : (compL D).length ≤ 1000000 := by
    have h1 := compL_len D
    have h2 := hp.length_eq
    have h3 := varsOf_len a.l
    omega
  generalize compL D = C at *
  refine m_run ?_
  apply TK.iter (fun j ρ' Γ' => ∃ i : Nat, C.length = i + j ∧ (C.take i).all (fun v => decide (v ∈ V)) = true ∧ lk ρ' 1 = .pointer (some ⟨b3, 0, none⟩) ∧ lk ρ' 7 = .slice B C.length k ∧ lk ρ' 8 = .int .i64 (C.length : Int) ∧ lk ρ' 9 = .int .i64 (i : Int) ∧ Γ' = own 30 1 (.slice B C.length k) C.length (u32s C) :: row b a.cells 33 :: Γ) C.length
  · exact ⟨0, by omega, by simp, rfl, rfl, rfl, rfl, rfl⟩
  rintro j IH ρ' _ ⟨i, hj, hi0, e1, e7, e8, e9, rfl⟩
  refine TK.know4 e1 e7 e8 e9 ?_
  by_cases hi : i < C.length
  · obtain ⟨x, hx⟩ : ∃ x, C[i]? = some x := ⟨C[i], List.getElem?_eq_getElem hi⟩
    refine TK.mem fun m0 hm0 => ?_
    obtain ⟨g, rfl⟩ := own_addr hm0 (by omega)
    clear hm0 m0
    have hown : has (own 30 1 (.slice (some ⟨g, 0, none⟩) C.length k) C.length (u32s C) :: row b a.cells 33 :: Γ) (srcAt 1 (some ⟨g, 0, none⟩) C.length (u32s C)) := has_at (up_src _ _ _ _) 0 rfl fun _ h => own_src h
    have hw := has_u32 hown hx
    rw [Nat.zero_add] at hw
    have hm2 : has (own 30 1 (.slice (some ⟨g, 0, none⟩) C.length k) C.length (u32s C) :: row b a.cells 33 :: Γ) (mapAt u32N oneN mb es) := has_tail (up_map _ _ _ _) (has_tail (up_map _ _ _ _) hm)
    have hVx := hV x
    refine m_run ?_
    cases hl : lookE es x with
    | some u =>
      (apply TL.pv; exact rfl; (apply PV.look1S keyU; exact tb rfl; exact rfl; exact ⟨_, (tb rfl : TabOk Try.prog 30 _).1⟩; exact (tb rfl : TabOk Try.prog 3 _); exact rfl; exact (rfl : _ = u32N x); exact hm2; exact hl))
      refine m_run ?_
      rw [hl] at hVx
      refine IH (j - 1) _ _ (by omega) ⟨i + 1, by omega, ?_, rfl, rfl, rfl, congrArg (Value.int .i64) (i64_succ i (by omega)), rfl⟩
      rw [List.take_add_one, hx, List.all_append, hi0]
      simpa using hVx.symm
    | none =>
      (apply TL.pv; exact rfl; (apply PV.look1N keyU; exact tb rfl; exact rfl; exact ⟨_, (tb rfl : TabOk Try.prog 30 _).1⟩; exact (tb rfl : TabOk Try.prog 3 _); exact rfl; exact (rfl : _ = u32N x); exact hm2; exact hl))
      rw [hl] at hVx
      have hno : heldA V a.l = false := by
        unfold heldA
        rw [← hall, ← Bool.not_eq_true, List.all_eq_true]
        intro hf
        have := hf x (List.mem_of_getElem? hx)
        rw [← hVx] at this
        cases this
      rw [hno]
      refine m_run ?_
      (apply TK.retS1; exact rfl; exact rfl; (exact m_val))
      exact ⟨_, rfl, rfl, rfl⟩
      (repeat (first | exact List.Sublist.refl _ | apply List.Sublist.cons_cons | apply List.Sublist.cons))
  · rw [List.take_of_length_le (by omega)] at hi0
    have hyes : heldA V a.l = true := by unfold heldA; rw [← hall, hi0]
    rw [hyes]
    refine m_run ?_
    (apply TK.retS1; exact rfl; exact rfl; (exact m_val))
    exact ⟨_, rfl, rfl, rfl⟩
    (repeat (first | exact List.Sublist.refl _ | apply List.Sublist.cons_cons | apply List.Sublist.cons))
end Go.Proofs.Ytndmjpceocecdaa.E
