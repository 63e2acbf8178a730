/- AuditNil, whatever record and number are handed in: it answers true, and what was handed in reads as it did. No conditions. -/
import Derived.Test.YtoccilnobgoncaaA3
import Derived.Test.YtoccilnobgoncaaRows
namespace Go.Proofs.Ytoccilnobgoncaa.E
open Go Go.RowKit Go.Proofs
attribute [local irreducible] TK TL TQ TA Fn PV
theorem nil_t (r : Rec) (n : Int) (Γ : List HP) : FnV Try.prog 4 [recV r, .int .i64 n] Γ fun v Γ' => v = .bool true ∧ Γ' = Γ := by
  refine Fn.enter Try.func4 rfl rfl rfl fun E => ?_
  refine m_run ?_
  (apply TL.box; exact rfl; exact rfl; (exact m_lst))
  intro b1
  by_cases h : 30 < r.q.args.l.length
  · refine m_run ?_
    (apply TL.callV; exact rfl; exact callB_of (by kernel_rfl); exact rfl; exact fun _ h => h)
    exact works_t _
    rintro _ _ ⟨rfl, rfl⟩
    refine m_run ?_
    (apply TK.retS1; exact rfl; (exact m_val))
    · exact ⟨_, rfl, rfl, rfl⟩
    · (repeat (first | exact List.Sublist.refl _ | apply List.Sublist.cons_cons | apply List.Sublist.cons))
  · refine m_run ?_
    (apply TL.callV; exact rfl; exact callB_of (by kernel_rfl); exact rfl; exact fun _ h => h)
    exact put_nil r _
    rintro _ _ ⟨rfl, rfl⟩
    refine m_run ?_
    (apply TL.callV; exact rfl; exact callB_of (by kernel_rfl); exact rfl; exact fun _ h => h)
    exact last_nil n _
    rintro _ _ ⟨rfl, rfl⟩
    refine m_run ?_
    (apply TL.callV; exact rfl; exact callB_of (by kernel_rfl); exact rfl; exact fun _ h => h)
    exact count_nil _
    rintro _ _ ⟨rfl, rfl⟩
    refine m_run ?_
    (apply TL.callV; exact rfl; exact callB_of (by kernel_rfl); exact rfl; exact fun _ h => h)
    exact works_t _
    rintro _ _ ⟨rfl, rfl⟩
    refine m_run ?_
    (apply TK.retS1; exact rfl; (exact m_val))
    · exact ⟨_, rfl, rfl, rfl⟩
    · (repeat (first | exact List.Sublist.refl _ | apply List.Sublist.cons_cons | apply List.Sublist.cons))
/-! ### how records are read -/
def rFct : Rd Fct := ⟨2, fun f => [.int .u32 f.p, f.args.v], fun f m => (rInt .u32).ok f.p m ∧ (rSl (rInt .u32)).ok f.args m⟩
theorem reads_args : Reads Try.prog 29 (rSl (rInt .u32)) := reads_sl (reads_int (tb rfl : TabOk Try.prog 28 _) rfl rfl) (tb rfl) rfl rfl
theorem reads_fct : Reads Try.prog 31 rFct :=
  have ht : TabOk Try.prog 31 _ := tb rfl
  ⟨by rw [ht.cellsOf]; rfl, fun _ => rfl, fun f x y hxy h => ⟨h.1, reads_args.up _ x y hxy h.2⟩, fun enc w fuel cs x h => by
    obtain ⟨p, h1, h2⟩ := read_field ht rfl h (R := rInt .u32) 0 _ rfl (reads_int (tb rfl) rfl rfl)
    obtain ⟨a, h3, h4⟩ := read_field ht rfl h (R := rSl (rInt .u32)) 1 _ rfl reads_args
    exact ⟨⟨p, a⟩, cut2 h1 h3 (trod_field ht rfl h).1 rfl, h2, h4⟩⟩
def rRec : Rd Rec := ⟨4, recCells, fun r m => (rInt .u64).ok r.t m ∧ rFct.ok r.q m ∧ (rInt .u8).ok r.w m⟩
theorem reads_rec : Reads Try.prog 33 rRec :=
  have ht : TabOk Try.prog 33 _ := tb rfl
  ⟨by rw [ht.cellsOf]; rfl, fun _ => rfl, fun f x y hxy h => ⟨h.1, reads_fct.up _ x y hxy h.2.1, h.2.2⟩, fun enc w fuel cs x h => by
    obtain ⟨t, h1, h2⟩ := read_field ht rfl h (R := rInt .u64) 0 _ rfl (reads_int (tb rfl) rfl rfl)
    obtain ⟨q, h3, h4⟩ := read_field ht rfl h (R := rFct) 1 _ rfl reads_fct
    obtain ⟨v, h5, h6⟩ := read_field ht rfl h (R := rInt .u8) 2 _ rfl (reads_int (tb rfl) rfl rfl)
    exact ⟨⟨t, q, v⟩, cut3 h1 h3 h5 (trod_field ht rfl h).1 rfl, h2, h4, h6⟩⟩
end Go.Proofs.Ytoccilnobgoncaa.E
namespace Go.Proofs.Ytoccilnobgoncaa
open Go.ChangeShapes Go.WideShapes Go.ChangeAt Go.RowKit E
theorem Try.own : ownKnob Try.prog.godebug = none := by kernel_rfl
theorem Try.laidOut : laidOutB Try.prog = true := by kernel_rfl
set_option maxRecDepth 100000 in
theorem auditNil_lifted (os : Os) (started : os.Started) (H : Type) (enc : TypeId × Value → H) :
    ReturnsInHanded {} Try.checked os 4 .any (Rows.auditNilSpec.pre6 enc Try.prog Try.f4 Rows.auditNilRow.domain false) (Rows.auditNilSpec.post enc Try.prog Try.f4 false true false false) := by
  refine returnsInHanded_of_change (C := Try.checked) Try.own started (by kernel_rfl) Try.func4
    (ChangeSpec.witness6 (enc := enc) (C := Try.checked) false ⟨#[], #[.agg #[.int .u64 0, .int .u32 0, .slice none 0 0, .int .u8 0], .int .i64 0], []⟩ 8 (by kernel_rfl) (by kernel_rfl) (by kernel_rfl) (by kernel_rfl)) ?_
  intro W base args ds gs before hval0 hW _ _
  refine law_contract (C := Try.checked) Try.laidOut rfl (tb rfl : TabOk Try.prog 4 _).1 rfl (by kernel_rfl) (fun H ds hd => ?_) enc W args ds gs before hW ?_
  · match ds, hd with
    | [_, _], _ => rfl
  have hval : ∀ (j : Nat) t v, Try.f4.params[j]? = some t → args[j]? = some v → Value.okWide Try.prog W .any base t v := hval0
  obtain ⟨p, q, hA0, hV, rfl, hfz, hnd⟩ := hW
  have hA : DataW.TrodAll enc Try.prog W 0 (fun _ => true) true Try.f4.params.toList args.toList ds p := hA0
  rw [Try.params4] at hA hval
  obtain ⟨v0, v1, d0, d1, p0, p1, rfl, rfl, rfl, h0, h1⟩ := trodAll_two hA
  obtain ⟨r, rfl, hr⟩ := open_agg reads_rec (tb rfl) rfl (hval 0 33 v0 rfl rfl) h0
  obtain ⟨n, hn, hn2⟩ := open_cell (reads_int (q := .i64) (tb rfl : TabOk Try.prog 3 _) rfl rfl) (tb rfl) rfl (hval 1 3 v1 rfl rfl) h1
  injection hn with hn _
  subst hn
  exact nil_t r n _
theorem auditNil_holds : Rows.AuditNilSaid :=
  OpenClaim.holds_of_wide 4 Try.f4 rfl rfl rfl rfl rfl rfl rfl ⟨rfl, rfl, rfl, rfl, rfl⟩ rfl rfl rfl rfl rfl (by kernel_rfl) Try.func4 (by kernel_rfl)
    (of_decide_eq_true (by kernel_rfl)) (by unfold Func.isWrapper; rw [if_neg (by decide +kernel)]; exact ⟨rfl, rfl⟩)
    (fun os started H enc _ => auditNil_lifted os started H enc)
end Go.Proofs.Ytoccilnobgoncaa
namespace Go.Proofs.Ytoccilnobgoncaa.E
end Go.Proofs.Ytoccilnobgoncaa.E
