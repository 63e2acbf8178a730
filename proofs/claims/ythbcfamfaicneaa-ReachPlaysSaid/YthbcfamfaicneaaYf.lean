/- Which credentials may be, as the program tells it: give and May, walked. -/
import Derived.Test.YthbcfamfaicneaaYe
namespace Go.Proofs.Ythbcfamfaicneaa.E
open Go Go.RowKit Go.Proofs
attribute [local irreducible] TK TL TQ TA TB Fn PV
set_option maxRecDepth 100000 in
set_option maxHeartbeats 4000000 in
theorem give_t (c : Cr) (Γ : List HP) (hn : c.few) : FnV Try.prog 49 [.agg c.cells.toArray] Γ fun v Γ' => v = .bool (giveB c) ∧ Γ' = Γ := by
  refine Fn.enter Try.func49 rfl rfl rfl fun E => ?_
  refine m_run ?_
  (apply TL.box; exact rfl; exact rfl; (exact m_lst))
  intro b1
  refine TL.imp (Δ := crRow b1 c :: Γ) (fun _ h => h) ?_
  have hby : has (crRow b1 c :: Γ) (fun m => cellsAt m b1 5 c.r.h.cells) := has_rows 0 rfl rfl
  have hh30 : c.r.h.a.l.length ≤ 30 := hn.2.1
  have hl30 : c.r.l.length ≤ 30 := hn.1
  refine m_run ?_
  (apply TL.alloc; exact rfl; exact tb rfl; exact (rfl : _ = [_, _, _, _, _]))
  intro b3
  refine m_run ?_
  (apply TL.callV; exact rfl; exact callB_of (by kernel_rfl); exact rfl; exact fun _ h => h)
  exact plain_t c.r.h _
  rintro _ _ ⟨rfl, rfl⟩
  have hsum : IntKind.i64.wrap ((c.r.h.a.l.length : Int) + (c.r.l.length : Int)) = ((c.r.h.a.l.length + c.r.l.length : Nat) : Int) := i64_nat (by omega)
  cases hp0 : plainS c.r.h with
  | false =>
    refine m_run ?_
    (apply TK.retS1; exact rfl; exact rfl; (exact m_val))
    exact ⟨_, rfl, by unfold giveB; rw [hp0]; rfl, rfl⟩
    (repeat (first | exact List.Sublist.refl _ | apply List.Sublist.cons_cons | apply List.Sublist.cons))
  | true =>
  by_cases h1 : c.r.h.a.p = 0
  rotate_left
  · refine m_run ?_
    (apply TK.retS1; exact rfl; exact rfl; (exact m_val))
    exact ⟨_, rfl, by unfold giveB; rw [decide_eq_false h1]; simp, rfl⟩
    (repeat (first | exact List.Sublist.refl _ | apply List.Sublist.cons_cons | apply List.Sublist.cons))
  refine m_run ?_
  rw [hsum]
  by_cases h2 : c.r.h.a.l.length + c.r.l.length = 0
  rotate_left
  · refine m_run ?_
    (apply TK.retS1; exact rfl; exact rfl; (exact m_val))
    refine ⟨_, rfl, ?_, rfl⟩
    have : giveB c = false := by
      unfold giveB
      rw [← Bool.not_eq_true]
      simp only [Bool.and_eq_true, decide_eq_true_eq]
      omega
    rw [this]
    (repeat (first | exact List.Sublist.refl _ | apply List.Sublist.cons_cons | apply List.Sublist.cons))
  have hB : giveB c = (decide (0 ≤ c.args) && decide (c.args < 6) && decide (0 ≤ c.dep) && decide (c.dep ≤ 3)) := by
    unfold giveB
    rw [hp0, decide_eq_true h1, decide_eq_true (show c.r.h.a.l.length = 0 by omega), decide_eq_true (show c.r.l.length = 0 by omega)]
    simp
  rw [hB]
  by_cases h3 : 0 ≤ c.args
  · by_cases h4 : c.args < 6
    · by_cases h5 : 0 ≤ c.dep
      · rw [decide_eq_true h3, decide_eq_true h4, decide_eq_true h5]
        refine m_run ?_
        (apply TK.retS1; exact rfl; exact rfl; (exact m_val))
        exact ⟨_, rfl, rfl, rfl⟩
        (repeat (first | exact List.Sublist.refl _ | apply List.Sublist.cons_cons | apply List.Sublist.cons))
      · rw [decide_eq_false h5]
        refine m_run ?_
        (apply TK.retS1; exact rfl; exact rfl; (exact m_val))
        exact ⟨_, rfl, by simp, rfl⟩
        (repeat (first | exact List.Sublist.refl _ | apply List.Sublist.cons_cons | apply List.Sublist.cons))
    · rw [decide_eq_false h4]
      refine m_run ?_
      (apply TK.retS1; exact rfl; exact rfl; (exact m_val))
      exact ⟨_, rfl, by simp, rfl⟩
      (repeat (first | exact List.Sublist.refl _ | apply List.Sublist.cons_cons | apply List.Sublist.cons))
  · rw [decide_eq_false h3]
    refine m_run ?_
    (apply TK.retS1; exact rfl; exact rfl; (exact m_val))
    exact ⟨_, rfl, by simp, rfl⟩
    (repeat (first | exact List.Sublist.refl _ | apply List.Sublist.cons_cons | apply List.Sublist.cons))
set_option maxRecDepth 100000 in
set_option maxHeartbeats 4000000 in
theorem credMay_t (c : Cr) (Γ : List HP) (h : c.ok Γ) (hn : c.few) : FnV Try.prog 31 [.agg c.cells.toArray] Γ fun v Γ' => v = .bool (mayCr c) ∧ Γ' = Γ := by
  refine Fn.enter Try.func31 rfl rfl rfl fun E => ?_
  refine m_run ?_
  (apply TL.box; exact rfl; exact rfl; (exact m_lst))
  intro b1
  refine TL.imp (Δ := crRow b1 c :: Γ) (fun _ h => h) ?_
  have hb0 : has (crRow b1 c :: Γ) (fun m => cellsAt m b1 0 c.cells) := has_rows 0 rfl rfl
  by_cases h1 : c.frm < c.til
  rotate_left
  · refine m_run ?_
    (apply TK.retS1; exact rfl; exact rfl; (exact m_val))
    exact ⟨_, rfl, by unfold mayCr; rw [decide_eq_false h1]; simp, rfl⟩
    (repeat (first | exact List.Sublist.refl _ | apply List.Sublist.cons_cons | apply List.Sublist.cons))
  by_cases h2 : c.til ≤ 1099511627776
  rotate_left
  · refine m_run ?_
    (apply TK.retS1; exact rfl; exact rfl; (exact m_val))
    exact ⟨_, rfl, by unfold mayCr; rw [decide_eq_false h2]; simp, rfl⟩
    (repeat (first | exact List.Sublist.refl _ | apply List.Sublist.cons_cons | apply List.Sublist.cons))
  unfold mayCr
  rw [decide_eq_true h1, decide_eq_true h2, Bool.true_and, Bool.true_and]
  by_cases hk : c.kind = 1
  · refine m_run ?_
    (apply TL.callV; exact rfl; exact callB_of (by kernel_rfl); exact rfl; exact fun _ h => h)
    exact rule_t c _ (Cr.ok_tl h) hn
    rintro _ _ ⟨rfl, rfl⟩
    cases hr : ruleB c <;> (refine m_run ?_)
    all_goals (apply TK.retS1; exact rfl; exact rfl; (exact m_val))
    all_goals first | exact ⟨_, rfl, by simp [hk], rfl⟩ | ((repeat (first | exact List.Sublist.refl _ | apply List.Sublist.cons_cons | apply List.Sublist.cons)))
  · by_cases hk2 : c.kind = 2
    · refine m_run ?_
      (apply TL.callV; exact rfl; exact callB_of (by kernel_rfl); exact rfl; exact fun _ h => h)
      exact give_t c _ hn
      rintro _ _ ⟨rfl, rfl⟩
      refine m_run ?_
      (apply TK.retS1; exact rfl; exact rfl; (exact m_val))
      exact ⟨_, rfl, by simp [hk2], rfl⟩
      (repeat (first | exact List.Sublist.refl _ | apply List.Sublist.cons_cons | apply List.Sublist.cons))
    · refine m_run ?_
      (apply TK.retS1; exact rfl; exact rfl; (exact m_val))
      exact ⟨_, rfl, by simp [hk, hk2], rfl⟩
      (repeat (first | exact List.Sublist.refl _ | apply List.Sublist.cons_cons | apply List.Sublist.cons))
end Go.Proofs.Ythbcfamfaicneaa.E
