/- The document on which credentials may be: rule and May, walked. -/
import Derived.Test.YthbcfamfaicneaaYi
namespace Go.Proofs.Ythbcfamfaicneaa.E
open Go Go.RowKit Go.Proofs
attribute [local irreducible] TK TL TQ TA TB Fn PV
set_option maxRecDepth 100000 in
set_option maxHeartbeats 8000000 in
theorem rrule_t (c : Cr) (Γ : List HP) (h : c.ok Γ) (hn : c.few) : FnV Try.prog 123 [.agg c.cells.toArray] Γ fun v Γ' => v = .bool (ruleB c) ∧ Γ' = Γ := by
  refine Fn.enter Try.func123 rfl rfl rfl fun E => ?_
  obtain ⟨iss, ser, frm, til, kind, ⟨⟨hs, hw, ⟨hp, hA, hc, hl⟩⟩, RA, Rc, L⟩, p, args, to, dep⟩ := c
  have hRo : Rl.ok ⟨⟨hs, hw, ⟨hp, hA, hc, hl⟩⟩, RA, Rc, L⟩ Γ := h
  have hLo : has Γ (srcAt 6 RA L.length (cdsC L)) := hRo.2.1
  have hh30 : hl.length ≤ 30 := hn.2.1
  have hl30 : L.length ≤ 30 := hn.1
  have hx30 : ∀ x ∈ L, x.y.a.l.length ≤ 30 := hn.2.2
  clear hn h
  refine m_run ?_
  (apply TL.box; exact rfl; exact rfl; (exact m_lst))
  intro b1
  refine TL.imp (Δ := row b1 [.int .u32 (iss : Int), .int .u64 (ser : Int), .int .u64 (frm : Int), .int .u64 (til : Int), .int .u8 (kind : Int), .bool hs, .bool hw.v, .int .u32 (hw.n : Int), .int .u32 (hp : Int), .slice hA hl.length hc, .slice RA L.length Rc, .int .u32 (p : Int), .int .i64 args, .int .u32 (to : Int), .int .i64 dep] 48 :: Γ) (fun _ h => h) ?_
  have hbw : has (row b1 [.int .u32 (iss : Int), .int .u64 (ser : Int), .int .u64 (frm : Int), .int .u64 (til : Int), .int .u8 (kind : Int), .bool hs, .bool hw.v, .int .u32 (hw.n : Int), .int .u32 (hp : Int), .slice hA hl.length hc, .slice RA L.length Rc, .int .u32 (p : Int), .int .i64 args, .int .u32 (to : Int), .int .i64 dep] 48 :: Γ) (fun m => cellsAt m b1 6 (tmC hw)) := has_rows 0 rfl rfl
  by_cases hs0 : hs = true
  · subst hs0
    refine m_run ?_
    (apply TK.retS1; exact rfl; exact rfl; (exact m_val))
    exact ⟨_, rfl, rfl, rfl⟩
    (repeat (first | exact List.Sublist.refl _ | apply List.Sublist.cons_cons | apply List.Sublist.cons))
  obtain rfl : hs = false := by simpa using hs0
  refine m_run ?_
  (apply TL.pv; exact rfl; (apply PV.build tabs; exact rfl; exact rfl; exact rfl; exact rfl; exact rfl; exact (rfl : _ = tmC ⟨false, 0⟩)))
  refine TL.guard_yes rfl rfl rfl rfl ?_
  (apply TL.pv; exact rfl; (apply PV.neSt (xs := tmC hw) (ys := tmC ⟨false, 0⟩) tabs; exact rfl; exact rfl; exact rfl; exact rfl; kernel_rfl; kernel_rfl; exact congrArg some (tm0 hw)))
  by_cases hw0 : hw = ⟨false, 0⟩
  rotate_left
  · have hB : ruleB ⟨iss, ser, frm, til, kind, ⟨⟨false, hw, ⟨hp, hA, hc, hl⟩⟩, RA, Rc, L⟩, p, args, to, dep⟩ = false := by
      simp [ruleB, plainS, noWho, hw0]
    rw [hB]
    refine m_run ?_
    (apply TK.retS1; exact rfl; exact rfl; (exact m_val))
    exact ⟨_, rfl, rfl, rfl⟩
    (repeat (first | exact List.Sublist.refl _ | apply List.Sublist.cons_cons | apply List.Sublist.cons))
  have hB : ruleB ⟨iss, ser, frm, til, kind, ⟨⟨false, hw, ⟨hp, hA, hc, hl⟩⟩, RA, Rc, L⟩, p, args, to, dep⟩ = (decide (p = 0) && decide (args = 0) && decide (to = 0) && decide (dep = 0) && (L.all fun x => !x.no && x.y.s) && mayP (ruleC ⟨iss, ser, frm, til, kind, ⟨⟨false, hw, ⟨hp, hA, hc, hl⟩⟩, RA, Rc, L⟩, p, args, to, dep⟩) && heldP (ruleC ⟨iss, ser, frm, til, kind, ⟨⟨false, hw, ⟨hp, hA, hc, hl⟩⟩, RA, Rc, L⟩, p, args, to, dep⟩)) := by
    simp [ruleB, plainS, noWho, hw0]
  rw [hB]
  clear hB
  rw [decide_eq_true hw0]
  by_cases h1 : p = 0
  rotate_left
  · rw [decide_eq_false h1]
    refine m_run ?_
    (apply TK.retS1; exact rfl; exact rfl; (exact m_val))
    exact ⟨_, rfl, by simp, rfl⟩
    (repeat (first | exact List.Sublist.refl _ | apply List.Sublist.cons_cons | apply List.Sublist.cons))
  by_cases h2 : args = 0
  rotate_left
  · rw [decide_eq_false h2]
    refine m_run ?_
    (apply TK.retS1; exact rfl; exact rfl; (exact m_val))
    exact ⟨_, rfl, by simp, rfl⟩
    (repeat (first | exact List.Sublist.refl _ | apply List.Sublist.cons_cons | apply List.Sublist.cons))
  by_cases h3 : to = 0
  rotate_left
  · rw [decide_eq_false h3]
    refine m_run ?_
    (apply TK.retS1; exact rfl; exact rfl; (exact m_val))
    exact ⟨_, rfl, by simp, rfl⟩
    (repeat (first | exact List.Sublist.refl _ | apply List.Sublist.cons_cons | apply List.Sublist.cons))
  by_cases h4 : dep = 0
  rotate_left
  · rw [decide_eq_false h4]
    have h4' : (dep != 0) = true := by simpa using h4
    refine m_run ?_
    (apply TK.retS1; exact rfl; exact rfl; (exact m_val))
    exact ⟨_, rfl, by simp, rfl⟩
    (repeat (first | exact List.Sublist.refl _ | apply List.Sublist.cons_cons | apply List.Sublist.cons))
  subst h1
  subst h2
  subst h3
  subst h4
  refine m_run ?_
  apply TK.iter (fun j ρ' Γ' => ∃ i : Nat, i + j = L.length ∧ ((L.take i).all fun x => !x.no && x.y.s) = true ∧ lk ρ' 1 = .pointer (some ⟨b1, 0, none⟩) ∧ lk ρ' 3 = .int .i64 (i : Int) ∧ Γ' = row b1 [.int .u32 (iss : Int), .int .u64 (ser : Int), .int .u64 (frm : Int), .int .u64 (til : Int), .int .u8 (kind : Int), .bool false, .bool hw.v, .int .u32 (hw.n : Int), .int .u32 (hp : Int), .slice hA hl.length hc, .slice RA L.length Rc, .int .u32 ((0 : Nat) : Int), .int .i64 0, .int .u32 ((0 : Nat) : Int), .int .i64 0] 48 :: Γ) L.length
  · exact ⟨0, Nat.zero_add _, rfl, rfl, rfl, rfl⟩
  rintro j IH ρ' _ ⟨i, hij, hall, e1, e3, rfl⟩
  refine TK.know2 e1 e3 ?_
  by_cases hi : i < L.length
  · obtain ⟨⟨no, ⟨said, who, a⟩⟩, hx⟩ : ∃ x, L[i]? = some x := ⟨L[i], List.getElem?_eq_getElem hi⟩
    have hxm := List.mem_of_getElem? hx
    refine TK.mem fun m0 hm0 => ?_
    obtain ⟨g, u, rfl⟩ := src_some ((has_tls hLo : has (_ :: Γ) _) m0 hm0) (by rw [cdsC_len]; omega)
    clear hm0 m0
    have hel : has Γ (fun m => cellsAt m g (u + i * 6) [.bool no, .bool said, .bool who.v, .int .u32 (who.n : Int), .int .u32 (a.p : Int), .slice a.A a.l.length a.c]) := has_el (sz := 6) (f := Cd.cells) (fun _ => rfl) (by decide) hLo hx
    have hno : has Γ (fun m => cellAt m g (u + i * 6) (.bool no)) := has_imp hel fun m h => h 0 _ rfl
    have hsd : has Γ (fun m => cellAt m g (u + i * 6 + 1) (.bool said)) := has_imp hel fun m h => h 1 _ rfl
    clear hel
    have hbad : no = true ∨ said = false → (L.all fun x => !x.no && x.y.s) = false := fun hb => by
      rw [← Bool.not_eq_true, List.all_eq_true]
      intro h1
      have := h1 _ hxm
      rcases hb with hb | hb <;> simp [hb] at this
    cases no with
    | true =>
      rw [hbad (.inl rfl)]
      refine m_run ?_
      (apply TK.retS1; exact rfl; exact rfl; (exact m_val))
      exact ⟨_, rfl, by simp, rfl⟩
      (repeat (first | exact List.Sublist.refl _ | apply List.Sublist.cons_cons | apply List.Sublist.cons))
    | false =>
    cases said with
    | false =>
      rw [hbad (.inr rfl)]
      refine m_run ?_
      (apply TK.retS1; exact rfl; exact rfl; (exact m_val))
      exact ⟨_, rfl, by simp, rfl⟩
      (repeat (first | exact List.Sublist.refl _ | apply List.Sublist.cons_cons | apply List.Sublist.cons))
    | true =>
    refine m_run ?_
    exact IH (j - 1) _ _ (by omega) ⟨i + 1, by omega, by rw [List.take_add_one, hx, List.all_append, hall]; rfl, rfl, congrArg (Value.int .i64) (i64_succ i (by omega)), rfl⟩
  obtain rfl : i = L.length := by omega
  rw [List.take_length] at hall
  rw [hall]
  have hbr : has (row b1 [.int .u32 (iss : Int), .int .u64 (ser : Int), .int .u64 (frm : Int), .int .u64 (til : Int), .int .u8 (kind : Int), .bool false, .bool hw.v, .int .u32 (hw.n : Int), .int .u32 (hp : Int), .slice hA hl.length hc, .slice RA L.length Rc, .int .u32 ((0 : Nat) : Int), .int .i64 0, .int .u32 ((0 : Nat) : Int), .int .i64 0] 48 :: Γ) (fun m => cellsAt m b1 5 (Rl.cells ⟨⟨false, hw, ⟨hp, hA, hc, hl⟩⟩, RA, Rc, L⟩)) := has_rows 0 rfl rfl
  refine m_run ?_
  (apply TL.callV; exact rfl; exact callB_of (by kernel_rfl); exact rfl; exact fun _ h => h)
  exact rclause_t iss ⟨⟨false, hw, ⟨hp, hA, hc, hl⟩⟩, RA, Rc, L⟩ _ (Rl.ok_tl hRo) hh30 hl30 hx30
  rintro _ Γ3 ⟨X, rfl, hsub, hXo, hXs, hXp⟩
  have hXp' : pureC X = ruleC ⟨iss, ser, frm, til, kind, ⟨⟨false, hw, ⟨hp, hA, hc, hl⟩⟩, RA, Rc, L⟩, 0, 0, 0, 0⟩ := hXp
  rw [← hXp', ← mayC_pure, ← heldC_pure]
  obtain ⟨⟨xp, xA, xc, xl⟩, D, kd, M⟩ := X
  refine m_run ?_
  (apply TL.alloc; exact rfl; exact tb rfl; exact (rfl : _ = [_, _, _]))
  intro b4
  refine m_run ?_
  have hb4 : has (row b4 [.int .u32 (xp : Int), .slice xA xl.length xc, .slice D M.length kd] 68 :: Γ3) (fun m => cellsAt m b4 0 (Cl.cells ⟨⟨xp, xA, xc, xl⟩, D, kd, M⟩)) := has_rows 0 rfl rfl
  refine m_run ?_
  (apply TL.callV; exact rfl; exact callB_of (by kernel_rfl); exact rfl; exact fun _ h => h)
  exact rmay_t ⟨⟨xp, xA, xc, xl⟩, D, kd, M⟩ _ (Cl.ok_tl hXo) hXs
  rintro _ _ ⟨rfl, rfl⟩
  cases hm : mayC ⟨⟨xp, xA, xc, xl⟩, D, kd, M⟩ with
  | false =>
    refine m_run ?_
    (apply TK.retS1; exact rfl; exact rfl; (exact m_val))
    exact ⟨_, rfl, by simp, rfl⟩
    exact .cons _ ((List.sublist_cons_self _ _).trans hsub)
  | true =>
  refine m_run ?_
  (apply TL.callV; exact rfl; exact callB_of (by kernel_rfl); exact rfl; exact fun _ h => h)
  exact rsafe_t ⟨⟨xp, xA, xc, xl⟩, D, kd, M⟩ _ (Cl.ok_tl hXo) hXs
  rintro _ _ ⟨rfl, rfl⟩
  refine m_run ?_
  (apply TK.retS1; exact rfl; exact rfl; (exact m_val))
  exact ⟨_, rfl, by simp, rfl⟩
  exact .cons _ ((List.sublist_cons_self _ _).trans hsub)
set_option maxRecDepth 100000 in
set_option maxHeartbeats 8000000 in
theorem rcredMay_t (c : Cr) (Γ : List HP) (h : c.ok Γ) (hn : c.few) : FnV Try.prog 106 [.agg c.cells.toArray] Γ fun v Γ' => v = .bool (mayCr c) ∧ Γ' = Γ := by
  refine Fn.enter Try.func106 rfl rfl rfl fun E => ?_
  have hh30 : c.r.h.a.l.length ≤ 30 := hn.2.1
  have hl30 : c.r.l.length ≤ 30 := hn.1
  refine m_run ?_
  (apply TL.box; exact rfl; exact rfl; (exact m_lst))
  intro b1
  refine TL.imp (Δ := crRow b1 c :: Γ) (fun _ h => h) ?_
  have hb0 : has (crRow b1 c :: Γ) (fun m => cellsAt m b1 0 c.cells) := has_rows 0 rfl rfl
  by_cases h1 : c.frm < c.til
  rotate_left
  · refine m_run ?_
    (apply TK.retS1; exact rfl; exact rfl; (exact m_val))
    exact ⟨_, rfl, by unfold mayCr; rw [decide_eq_false h1]; simp, rfl⟩
    (repeat (first | exact List.Sublist.refl _ | apply List.Sublist.cons_cons | apply List.Sublist.cons))
  by_cases h2 : c.til ≤ 1099511627776
  rotate_left
  · refine m_run ?_
    (apply TK.retS1; exact rfl; exact rfl; (exact m_val))
    exact ⟨_, rfl, by unfold mayCr; rw [decide_eq_false h2]; simp, rfl⟩
    (repeat (first | exact List.Sublist.refl _ | apply List.Sublist.cons_cons | apply List.Sublist.cons))
  unfold mayCr
  rw [decide_eq_true h1, decide_eq_true h2, Bool.true_and, Bool.true_and]
  by_cases hk : c.kind = 1
  · refine m_run ?_
    (apply TL.callV; exact rfl; exact callB_of (by kernel_rfl); exact rfl; exact fun _ h => h)
    exact rrule_t c _ (Cr.ok_tl h) hn
    rintro _ _ ⟨rfl, rfl⟩
    refine m_run ?_
    (apply TK.retS1; exact rfl; exact rfl; (exact m_val))
    exact ⟨_, rfl, by simp [hk], rfl⟩
    (repeat (first | exact List.Sublist.refl _ | apply List.Sublist.cons_cons | apply List.Sublist.cons))
  by_cases hk2 : c.kind = 2
  rotate_left
  · refine m_run ?_
    (apply TK.retS1; exact rfl; exact rfl; (exact m_val))
    exact ⟨_, rfl, by simp [hk, hk2], rfl⟩
    (repeat (first | exact List.Sublist.refl _ | apply List.Sublist.cons_cons | apply List.Sublist.cons))
  rw [decide_eq_false hk, decide_eq_true hk2, Bool.false_and, Bool.false_or, Bool.true_and]
  have hby : has (crRow b1 c :: Γ) (fun m => cellsAt m b1 5 c.r.h.cells) := has_rows 0 rfl rfl
  refine m_run ?_
  (apply TL.alloc; exact rfl; exact tb rfl; exact (rfl : _ = [_, _, _, _, _]))
  intro b3
  refine m_rrun ?_
  refine TL.nil ?_
  refine TK.imp (Δ := row b3 [.bool c.r.h.s, .bool c.r.h.w.v, .int .u32 (c.r.h.w.n : Int), .int .u32 (c.r.h.a.p : Int), .slice c.r.h.a.A c.r.h.a.l.length c.r.h.a.c] 43 :: crRow b1 c :: Γ) (fun _ h => h) ?_
  have hbw : has (row b3 [.bool c.r.h.s, .bool c.r.h.w.v, .int .u32 (c.r.h.w.n : Int), .int .u32 (c.r.h.a.p : Int), .slice c.r.h.a.A c.r.h.a.l.length c.r.h.a.c] 43 :: crRow b1 c :: Γ) (fun m => cellsAt m b3 1 (tmC c.r.h.w)) := has_rows 0 rfl rfl
  cases hs : c.r.h.s with
  | true =>
    have hB : giveB c = false := by simp [giveB, plainS, hs]
    rw [hB]
    rw [hs] at hbw
    refine m_run ?_
    (apply TK.retS1; exact rfl; exact rfl; (exact m_val))
    exact ⟨_, rfl, rfl, rfl⟩
    (repeat (first | exact List.Sublist.refl _ | apply List.Sublist.cons_cons | apply List.Sublist.cons))
  | false =>
  rw [hs] at hbw
  refine m_run ?_
  (apply TL.pv; exact rfl; (apply PV.build tabs; exact rfl; exact rfl; exact rfl; exact rfl; exact rfl; exact (rfl : _ = tmC ⟨false, 0⟩)))
  refine TL.guard_yes rfl rfl rfl rfl ?_
  (apply TL.pv; exact rfl; (apply PV.eqSt (xs := tmC c.r.h.w) (ys := tmC ⟨false, 0⟩) tabs; exact rfl; exact rfl; exact rfl; exact rfl; kernel_rfl; kernel_rfl; exact congrArg some (tm0 c.r.h.w)))
  have hB : giveB c = (decide (c.r.h.w = ⟨false, 0⟩) && decide (c.r.h.a.p = 0) && decide (c.r.h.a.l.length = 0) && decide (c.r.l.length = 0) && decide (0 ≤ c.args) && decide (c.args < 6) && decide (0 ≤ c.dep) && decide (c.dep ≤ 3)) := by
    simp [giveB, plainS, noWho, hs]
  rw [hB]
  clear hB
  by_cases hw0 : c.r.h.w = ⟨false, 0⟩
  rotate_left
  · rw [decide_eq_false hw0]
    refine m_run ?_
    (apply TK.retS1; exact rfl; exact rfl; (exact m_val))
    exact ⟨_, rfl, by simp, rfl⟩
    (repeat (first | exact List.Sublist.refl _ | apply List.Sublist.cons_cons | apply List.Sublist.cons))
  rw [decide_eq_true hw0]
  by_cases h3 : c.r.h.a.p = 0
  rotate_left
  · rw [decide_eq_false h3]
    refine m_run ?_
    (apply TK.retS1; exact rfl; exact rfl; (exact m_val))
    exact ⟨_, rfl, by simp, rfl⟩
    (repeat (first | exact List.Sublist.refl _ | apply List.Sublist.cons_cons | apply List.Sublist.cons))
  rw [decide_eq_true h3]
  by_cases h4 : c.r.h.a.l.length = 0
  rotate_left
  · rw [decide_eq_false h4]
    refine m_run ?_
    (apply TK.retS1; exact rfl; exact rfl; (exact m_val))
    exact ⟨_, rfl, by simp, rfl⟩
    (repeat (first | exact List.Sublist.refl _ | apply List.Sublist.cons_cons | apply List.Sublist.cons))
  rw [decide_eq_true h4]
  by_cases h5 : c.r.l.length = 0
  rotate_left
  · rw [decide_eq_false h5]
    refine m_run ?_
    (apply TK.retS1; exact rfl; exact rfl; (exact m_val))
    exact ⟨_, rfl, by simp, rfl⟩
    (repeat (first | exact List.Sublist.refl _ | apply List.Sublist.cons_cons | apply List.Sublist.cons))
  rw [decide_eq_true h5]
  by_cases h6 : 0 ≤ c.args
  rotate_left
  · rw [decide_eq_false h6]
    refine m_run ?_
    (apply TK.retS1; exact rfl; exact rfl; (exact m_val))
    exact ⟨_, rfl, by simp, rfl⟩
    (repeat (first | exact List.Sublist.refl _ | apply List.Sublist.cons_cons | apply List.Sublist.cons))
  by_cases h7 : c.args < 6
  rotate_left
  · rw [decide_eq_false h7]
    refine m_run ?_
    (apply TK.retS1; exact rfl; exact rfl; (exact m_val))
    exact ⟨_, rfl, by simp, rfl⟩
    (repeat (first | exact List.Sublist.refl _ | apply List.Sublist.cons_cons | apply List.Sublist.cons))
  by_cases h8 : 0 ≤ c.dep
  rotate_left
  · rw [decide_eq_false h8]
    refine m_run ?_
    (apply TK.retS1; exact rfl; exact rfl; (exact m_val))
    exact ⟨_, rfl, by simp, rfl⟩
    (repeat (first | exact List.Sublist.refl _ | apply List.Sublist.cons_cons | apply List.Sublist.cons))
  rw [decide_eq_true h6, decide_eq_true h7, decide_eq_true h8]
  refine m_run ?_
  (apply TK.retS1; exact rfl; exact rfl; (exact m_val))
  exact ⟨_, rfl, by simp, rfl⟩
  (repeat (first | exact List.Sublist.refl _ | apply List.Sublist.cons_cons | apply List.Sublist.cons))
end Go.Proofs.Ythbcfamfaicneaa.E
