/- AtomsMay, walked; how terms, atoms, clauses are read as data. -/
import Derived.Test.YtokggdgagfmacaaC0
namespace Go.Proofs.Ytokggdgagfmacaa.E
open Go Go.RowKit Go.Proofs
attribute [local irreducible] TK TL TQ TA Fn PV
theorem small_of {c : Cl} (h : bigC c = false) : c.small := by
  unfold bigC at h
  simp only [Bool.or_eq_false_iff, decide_eq_false_iff_not] at h
  obtain ⟨⟨h1, h2⟩, h3⟩ := h
  refine ⟨by omega, by omega, fun x hx => ?_⟩
  have := List.any_eq_false.1 h3 x hx
  simp only [decide_eq_true_eq] at this
  omega
set_option maxRecDepth 100000 in
set_option maxHeartbeats 4000000 in
theorem may5_t (a b : Cl) (Γ : List HP) (ha : a.ok Γ) (hb : b.ok Γ) :
    FnV Try.prog 12 [.agg a.cells.toArray, .agg b.cells.toArray] Γ fun v Γ' => v = .bool true ∧ Γ' = Γ := by
  refine Fn.enter Try.func12 rfl rfl rfl fun E => ?_
  refine m_run ?_
  (apply TL.box; exact rfl; exact rfl; (exact m_lst))
  intro b2
  refine m_run ?_
  (apply TL.box; exact rfl; exact rfl; (exact m_lst))
  intro b3
  refine TL.imp (Δ := row b3 b.cells 45 :: row b2 a.cells 45 :: Γ) (fun _ h => h) ?_
  have ha2 : a.ok (row b3 b.cells 45 :: row b2 a.cells 45 :: Γ) := Cl.ok_tl (Cl.ok_tl ha)
  have hb2 : b.ok (row b3 b.cells 45 :: row b2 a.cells 45 :: Γ) := Cl.ok_tl (Cl.ok_tl hb)
  have ga : has (row b3 b.cells 45 :: row b2 a.cells 45 :: Γ) (fun m => cellsAt m b2 0 a.cells) := has_rows 1 rfl rfl
  have gb : has (row b3 b.cells 45 :: row b2 a.cells 45 :: Γ) (fun m => cellsAt m b3 0 b.cells) := has_rows 0 rfl rfl
  refine m_run ?_
  (apply TL.callV; exact rfl; exact callB_of (by kernel_rfl); exact rfl; exact fun _ h => h)
  exact rbigC_t a _ ha2
  rintro _ _ ⟨rfl, rfl⟩
  cases hba : bigC a with
  | true =>
    refine m_run ?_
    (apply TL.callV; exact rfl; exact callB_of (by kernel_rfl); exact rfl; exact fun _ h => h)
    exact works5_t _
    rintro _ _ ⟨rfl, rfl⟩
    refine m_run ?_
    (apply TK.retS1; exact rfl; exact rfl; (exact m_val))
    · exact ⟨_, rfl, rfl, rfl⟩
    · (repeat (first | exact List.Sublist.refl _ | apply List.Sublist.cons_cons | apply List.Sublist.cons))
  | false =>
    refine m_run ?_
    (apply TL.callV; exact rfl; exact callB_of (by kernel_rfl); exact rfl; exact fun _ h => h)
    exact rbigC_t b _ hb2
    rintro _ _ ⟨rfl, rfl⟩
    cases hbb : bigC b with
    | true =>
      refine m_run ?_
      (apply TL.callV; exact rfl; exact callB_of (by kernel_rfl); exact rfl; exact fun _ h => h)
      exact works5_t _
      rintro _ _ ⟨rfl, rfl⟩
      refine m_run ?_
      (apply TK.retS1; exact rfl; exact rfl; (exact m_val))
      · exact ⟨_, rfl, rfl, rfl⟩
      · (repeat (first | exact List.Sublist.refl _ | apply List.Sublist.cons_cons | apply List.Sublist.cons))
    | false =>
      have sa := small_of hba
      have sb := small_of hbb
      refine m_run ?_
      refine TK.drawS mixed rfl ?_
      refine m_take (At.mk : At 0) ?_; refine m_take (At.mk : At 2) ?_
      (apply TA.one 1; kernel_rfl; exact rfl)
      (apply TL.callV; exact rfl; exact callB_of (by kernel_rfl); exact rfl; exact fun _ h => h)
      exact may_t a _ ha2 sa
      rintro _ _ ⟨rfl, rfl⟩
      refine TL.back (by (focus ((repeat (first | assumption | exact Ent.refl _ | apply Ent.tail)); done))) ?_
      (apply TA.one 3; kernel_rfl; exact rfl)
      (apply TL.callV; exact rfl; exact callB_of (by kernel_rfl); exact rfl; exact fun _ h => h)
      exact rmay_t a _ ha2 sa
      rintro _ _ ⟨rfl, rfl⟩
      refine TL.back (by (focus ((repeat (first | assumption | exact Ent.refl _ | apply Ent.tail)); done))) ?_
      refine m_take (At.mk : At 4) ?_
      refine TA.isT 16 rfl (beq_self_eq_true _) ?_
      refine m_take (At.mk : At 5) ?_; refine m_take (At.mk : At 6) ?_; refine m_take (At.mk : At 7) ?_; refine m_take (At.mk : At 9) ?_; refine m_take (At.mk : At 10) ?_
      (apply TA.one 8; kernel_rfl; exact rfl)
      refine m_rrun ?_
      (apply TL.callV; exact rfl; exact callB_of (by kernel_rfl); exact rfl; exact fun _ h => h)
      exact same_t a b _ ha2 hb2 sa
      rintro _ _ ⟨rfl, rfl⟩
      refine TL.back (by (focus ((repeat (first | assumption | exact Ent.refl _ | apply Ent.tail)); done))) ?_
      (apply TA.one 11; kernel_rfl; exact rfl)
      refine m_rrun ?_
      (apply TL.callV; exact rfl; exact callB_of (by kernel_rfl); exact rfl; exact fun _ h => h)
      exact rsame_t a b _ ha2 hb2 sa
      rintro _ _ ⟨rfl, rfl⟩
      refine TL.back (by (focus ((repeat (first | assumption | exact Ent.refl _ | apply Ent.tail)); done))) ?_
      refine m_take (At.mk : At 12) ?_
      refine TA.isT 24 rfl (beq_self_eq_true _) ?_
      refine m_take (At.mk : At 13) ?_; refine m_take (At.mk : At 14) ?_; refine m_take (At.mk : At 15) ?_; refine m_take (At.mk : At 16) ?_
      (apply TA.one 17; kernel_rfl; exact rfl)
      refine m_rrun ?_
      (apply TL.callV; exact rfl; exact callB_of (by kernel_rfl); exact rfl; exact fun _ h => h)
      exact same_t a a _ ha2 ha2 sa
      rintro _ _ ⟨rfl, rfl⟩
      rw [sameC_self]
      refine TL.back (by (focus ((repeat (first | assumption | exact Ent.refl _ | apply Ent.tail)); done))) ?_
      refine m_take (At.mk : At 18) ?_; refine m_take (At.mk : At 19) ?_; refine m_take (At.mk : At 20) ?_; refine m_take (At.mk : At 21) ?_; refine m_take (At.mk : At 23) ?_; refine m_take (At.mk : At 24) ?_
      (apply TA.one 22; kernel_rfl; exact rfl)
      refine m_rrun ?_
      (apply TL.callV; exact rfl; exact callB_of (by kernel_rfl); exact rfl; exact fun _ h => h)
      exact same_t b a _ hb2 ha2 sb
      rintro _ _ ⟨rfl, rfl⟩
      refine TL.back (by (focus ((repeat (first | assumption | exact Ent.refl _ | apply Ent.tail)); done))) ?_
      (apply TA.one 25; kernel_rfl; exact rfl)
      refine m_rrun ?_
      (apply TL.callV; exact rfl; exact callB_of (by kernel_rfl); exact rfl; exact fun _ h => h)
      exact same_t a b _ ha2 hb2 sa
      rintro _ _ ⟨rfl, rfl⟩
      refine TL.back (by (focus ((repeat (first | assumption | exact Ent.refl _ | apply Ent.tail)); done))) ?_
      refine m_take (At.mk : At 26) ?_
      refine TA.isT 38 rfl (by rw [sameC_comm]; exact beq_self_eq_true _) ?_
      refine m_take (At.mk : At 27) ?_; refine m_take (At.mk : At 28) ?_
      (apply TA.one 29; kernel_rfl; exact rfl)
      refine m_rrun ?_
      (apply TL.callV; exact rfl; exact callB_of (by kernel_rfl); exact rfl; exact fun _ h => h)
      exact works5_t _
      rintro _ _ ⟨rfl, rfl⟩
      refine TL.back (by (focus ((repeat (first | assumption | exact Ent.refl _ | apply Ent.tail)); done))) ?_
      refine m_take (At.mk : At 30) ?_; refine m_take (At.mk : At 31) ?_
      refine TA.done (by kernel_rfl) ?_
      refine m_run ?_
      (apply TK.retS1; exact rfl; exact rfl; (exact m_val))
      · exact ⟨_, rfl, rfl, rfl⟩
      · (repeat (first | exact List.Sublist.refl _ | apply List.Sublist.cons_cons | apply List.Sublist.cons))
/-! ### how they are read -/
def rU32 : Rd Nat := rNat .u32 4294967295
theorem reads_u32 : Reads Try.prog 23 rU32 := reads_nat (tb rfl : TabOk Try.prog 23 _) rfl rfl rfl rfl
def rTm : Rd Tm := ⟨2, tmC, fun t _ => t.n ≤ 4294967295⟩
theorem reads_tm : Reads Try.prog 54 rTm :=
  have ht : TabOk Try.prog 54 _ := tb rfl
  ⟨by rw [ht.cellsOf]; rfl, fun _ => rfl, fun _ _ _ _ h => h, fun enc w fuel cs x h => by
    obtain ⟨v, h1, _⟩ := read_field ht rfl h (R := rBool) 0 _ rfl (reads_bool (tb rfl) rfl rfl)
    obtain ⟨n, h3, h4⟩ := read_field ht rfl h (R := rU32) 1 _ rfl reads_u32
    exact ⟨⟨v, n⟩, cut2 h1 h3 (trod_field ht rfl h).1 rfl, h4⟩⟩
theorem reads_tms : Reads Try.prog 40 (rSl rTm) := reads_sl reads_tm (tb rfl) rfl rfl
def atmAt (a : Atm) (m : Mem) : Prop := a.p ≤ 4294967295 ∧ a.l.length ≤ a.c ∧ srcAt 2 a.A a.l.length (tmsC a.l) m ∧ ∀ t ∈ a.l, t.n ≤ 4294967295
def rAtm : Rd Atm := ⟨2, Atm.cells, atmAt⟩
theorem reads_atm : Reads Try.prog 42 rAtm :=
  have ht : TabOk Try.prog 42 _ := tb rfl
  ⟨by rw [ht.cellsOf]; rfl, fun _ => rfl, fun a x y hxy h => ⟨h.1, h.2.1, up_src _ _ _ _ x y hxy h.2.2.1, h.2.2.2⟩, fun enc w fuel cs x h => by
    obtain ⟨p, h1, h2⟩ := read_field ht rfl h (R := rU32) 0 _ rfl reads_u32
    obtain ⟨s, h3, h4⟩ := read_field ht rfl h (R := rSl rTm) 1 _ rfl reads_tms
    exact ⟨⟨p, s.A, s.c, s.l⟩, cut2 h1 h3 (trod_field ht rfl h).1 rfl, h2, h4.1, h4.2.2.1, h4.2.2.2⟩⟩
def rLt : Rd Lt := ⟨3, Lt.cells, fun x m => atmAt x.a m⟩
theorem reads_lt : Reads Try.prog 86 rLt :=
  have ht : TabOk Try.prog 86 _ := tb rfl
  ⟨by rw [ht.cellsOf]; rfl, fun _ => rfl, fun a x y hxy h => reads_atm.up _ x y hxy h, fun enc w fuel cs x h => by
    obtain ⟨v, h1, _⟩ := read_field ht rfl h (R := rBool) 0 _ rfl (reads_bool (tb rfl) rfl rfl)
    obtain ⟨a, h3, h4⟩ := read_field ht rfl h (R := rAtm) 1 _ rfl reads_atm
    exact ⟨⟨v, a⟩, cut2 h1 h3 (trod_field ht rfl h).1 rfl, h4⟩⟩
theorem reads_lts : Reads Try.prog 43 (rSl rLt) := reads_sl reads_lt (tb rfl) rfl rfl
def clAt (c : Cl) (m : Mem) : Prop := atmAt c.h m ∧ c.l.length ≤ c.c ∧ srcAt 3 c.A c.l.length (ltsC c.l) m ∧ ∀ x ∈ c.l, atmAt x.a m
def rCl : Rd Cl := ⟨3, Cl.cells, clAt⟩
theorem reads_cl : Reads Try.prog 45 rCl :=
  have ht : TabOk Try.prog 45 _ := tb rfl
  ⟨by rw [ht.cellsOf]; rfl, fun _ => rfl, fun a x y hxy h => ⟨reads_atm.up _ x y hxy h.1, h.2.1, up_src _ _ _ _ x y hxy h.2.2.1, fun z hz => reads_atm.up _ x y hxy (h.2.2.2 z hz)⟩, fun enc w fuel cs x h => by
    obtain ⟨a, h1, h2⟩ := read_field ht rfl h (R := rAtm) 0 _ rfl reads_atm
    obtain ⟨s, h3, h4⟩ := read_field ht rfl h (R := rSl rLt) 1 _ rfl reads_lts
    exact ⟨⟨a, s.A, s.c, s.l⟩, cut2 h1 h3 (trod_field ht rfl h).1 rfl, h2, h4.1, h4.2.2.1, h4.2.2.2⟩⟩
theorem atm_exact {a : Atm} {W : World} (h : atmAt a (memOf W)) : a.ok [exact_ W] := ⟨has_exact h.2.2.1, h.2.1⟩
theorem cl_exact {c : Cl} {W : World} (h : clAt c (memOf W)) : c.ok [exact_ W] := ⟨atm_exact h.1, has_exact h.2.2.1, h.2.1, fun x hx => atm_exact (h.2.2.2 x hx)⟩
end Go.Proofs.Ytokggdgagfmacaa.E
