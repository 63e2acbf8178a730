/- What the document's answer for the audit computes: 'few', 'Last', 'Same', as the program does. -/
import Derived.Test.YtoccilnobgoncaaA3
import Derived.Test.YtoccilnobgoncaaSr
namespace Go.Proofs.Ytoccilnobgoncaa.E
open Go Go.RowKit Go.Proofs
attribute [local irreducible] TK TL TQ TA Fn PV
theorem src_some {sz n : Nat} {A : Option Addr} {news : List Value} {m : Mem} (h : srcAt sz A n news m) (hn : 0 < news.length) : ∃ b o, A = some ⟨b, o, none⟩ := by
  rcases h.2 with h | ⟨b, o, e, _⟩
  · rw [h] at hn; simp at hn
  · exact ⟨b, o, e⟩
theorem has_sub {Γ : List HP} {g o : Nat} {vs : List Value} (h : has Γ (fun m => cellsAt m g o vs)) (i n : Nat) {ws : List Value} (hw : (vs.drop i).take n = ws) {o' : Nat} (ho : o + i = o') : has Γ (fun m => cellsAt m g o' ws) := fun m hm j v hj => by
  rw [← hw] at hj
  simp [List.getElem?_take] at hj
  have := h m hm (i + j) v hj.2
  rw [← ho, Nat.add_assoc]; exact this
def Rec.abs (r : Rec) : Int × Int × List Int × Int := (r.t, r.q.p, r.q.args.l, r.w)
abbrev recsIn (l : Sl Rec) (Γ : List HP) : Prop := has Γ (srcAt 4 l.A l.l.length (l.l.flatMap recCells))
theorem few_t (l : Sl Rec) (Γ : List HP) (h : recsIn l Γ) :
    FnV Try.prog 15 [l.v] Γ fun v Γ' => ∃ c, v = .bool c ∧ Γ' = Γ ∧ (c = true → l.l.length ≤ 200 ∧ ∀ x ∈ l.l, x.q.args.l.length ≤ 30) := by
  obtain ⟨A, c, ls⟩ := l
  show FnV _ _ [.slice A ls.length c] _ _
  refine Fn.enter Try.func15 rfl rfl rfl fun E => ?_
  by_cases hlen : 200 < ls.length
  · refine m_run ?_
    (apply TK.retS1; exact rfl; (exact m_val))
    · exact ⟨_, rfl, false, rfl, rfl, by simp⟩
    · (repeat (first | exact List.Sublist.refl _ | apply List.Sublist.cons_cons | apply List.Sublist.cons))
  · refine m_run ?_
    apply TK.iter (fun j ρ' Γ' => ∃ i : Nat, i + j = ls.length ∧ (∀ x ∈ ls.take i, x.q.args.l.length ≤ 30) ∧ lk ρ' 0 = .slice A ls.length c ∧ lk ρ' 3 = .int .i64 i ∧ Γ' = Γ) ls.length
    · exact ⟨0, by omega, by simp, rfl, rfl, rfl⟩
    rintro j IH ρ' Γ' ⟨i, hij, hall, e0, e3, rfl⟩
    refine TK.know2 e0 e3 ?_
    by_cases hi : i < ls.length
    · have hx : ls[i]? = some ls[i] := by simp [hi]
      have hall' : ls[i].q.args.l.length ≤ 30 → ∀ x ∈ ls.take (i + 1), x.q.args.l.length ≤ 30 := fun h5 x hx => by
        rw [List.take_succ_eq_append_getElem hi] at hx
        rcases List.mem_append.1 hx with hx | hx
        · exact hall x hx
        · simp at hx; subst hx; exact h5
      generalize ls[i] = x at hx hall'
      refine TK.mem fun m hm => ?_
      obtain ⟨b, o, rfl⟩ := src_some (h m hm) (by rw [recCells_len]; show 0 < ls.length * 4; omega)
      have hcell := has_cell (o' := o + i * 4 + 1 + 1) (recs_get h hx) 2 rfl rfl
      by_cases h30 : 30 < x.q.args.l.length
      · refine m_run ?_
        (apply TK.retS1; exact rfl; (exact m_val))
        · exact ⟨_, rfl, false, rfl, rfl, by simp⟩
        · (repeat (first | exact List.Sublist.refl _ | apply List.Sublist.cons_cons | apply List.Sublist.cons))
      · refine m_run ?_
        refine IH (j - 1) _ _ (by omega) ⟨i + 1, by omega, hall' (by omega), rfl, congrArg (Value.int .i64) (i64_succ i (by omega)), rfl⟩
    · refine m_run ?_
      (apply TK.retS1; exact rfl; (exact m_val))
      · refine ⟨_, rfl, true, rfl, rfl, fun _ => ⟨by show ls.length ≤ 200; omega, ?_⟩⟩
        rw [List.take_of_length_le (by omega)] at hall
        exact hall
      · (repeat (first | exact List.Sublist.refl _ | apply List.Sublist.cons_cons | apply List.Sublist.cons))
theorem cmp_self (xs : List Int) (p : Int) : cmpFact ⟨p, xs⟩ ⟨p, xs⟩ = 0 := by
  unfold cmpFact
  rw [if_neg (by simp), if_neg (by simp)]
  induction xs with
  | nil => rfl
  | cons a xs ih => simp only [cmpArgs, Int.lt_irrefl, if_false]; exact ih
theorem same_t (a b : Sl Rec) (Γ : List HP) (ha : recsIn a Γ) (hb : recsIn b Γ) (haa : ∀ x ∈ a.l, has Γ (argsAt x.q.args)) (hbb : ∀ x ∈ b.l, has Γ (argsAt x.q.args)) (habs : a.l.map Rec.abs = b.l.map Rec.abs) (hla : ∀ x ∈ a.l, x.q.args.l.length ≤ 1000000) (hlen : a.l.length ≤ 1000000) :
    FnV Try.prog 20 [a.v, b.v] Γ fun v Γ' => v = .bool true ∧ Γ' = Γ := by
  obtain ⟨A, c, ls⟩ := a
  obtain ⟨B, d, ms⟩ := b
  show FnV _ _ [.slice A ls.length c, .slice B ms.length d] _ _
  have hl : ls.length = ms.length := by simpa using congrArg List.length habs
  replace hlen : ls.length ≤ 1000000 := hlen
  refine Fn.enter Try.func20 rfl rfl rfl fun E => ?_
  refine m_run ?_
  apply TK.iter (fun j ρ' Γ' => ∃ i : Nat, i + j = ls.length ∧ lk ρ' 0 = .slice A ls.length c ∧ lk ρ' 1 = .slice B ms.length d ∧ lk ρ' 5 = .int .i64 i ∧ Γ' = Γ) ls.length
  · exact ⟨0, by omega, rfl, rfl, rfl, rfl⟩
  rintro j IH ρ' Γ' ⟨i, hij, e0, e1, e5, rfl⟩
  refine TK.know3 e0 e1 e5 ?_
  by_cases hi : i < ls.length
  · have hx : ls[i]? = some ls[i] := by simp [hi]
    have hy : ms[i]? = some (ms[i]'(by omega)) := by simp [← hl, hi]
    have hxy : ls[i].abs = (ms[i]'(by omega)).abs := by
      have := congrArg (fun l => l[i]?) habs
      simp only [List.getElem?_map, hx, hy, Option.map_some, Option.some.injEq] at this
      exact this
    have hxm : ls[i] ∈ ls := by simp
    have hym : (ms[i]'(by omega)) ∈ ms := by simp
    generalize ls[i] = x at hx hxy hxm
    generalize (ms[i]'(by omega)) = y at hy hxy hym
    refine TK.mem fun m hm => ?_
    obtain ⟨ba, oa, rfl⟩ := src_some (ha m hm) (by rw [recCells_len]; show 0 < ls.length * 4; omega)
    obtain ⟨bb, ob, rfl⟩ := src_some (hb m hm) (by rw [recCells_len]; show 0 < ms.length * 4; omega)
    have hga := recs_get ha hx
    have hgb := recs_get hb hy
    have hxa := haa x hxm
    have hya := hbb y hym
    have hxl := hla x hxm
    obtain ⟨t, ⟨p, ⟨A1, c1, xs⟩⟩, w⟩ := x
    obtain ⟨t', ⟨p', ⟨A2, c2, xs'⟩⟩, w'⟩ := y
    simp only [Rec.abs, Prod.mk.injEq] at hxy
    obtain ⟨rfl, rfl, rfl, rfl⟩ := hxy
    have a0 := has_cell hga 0 rfl rfl
    have b0 := has_cell hgb 0 rfl rfl
    have a3 := has_cell (o' := oa + i * 4 + 3) hga 3 rfl rfl
    have b3 := has_cell (o' := ob + i * 4 + 3) hgb 3 rfl rfl
    have a1 := has_sub (o' := oa + i * 4 + 1) hga 1 2 rfl rfl
    have b1 := has_sub (o' := ob + i * 4 + 1) hgb 1 2 rfl rfl
    refine m_run ?_
    refine TK.drawS mixed ?_
    refine m_take (At.mk : At 0) ?_; refine m_take (At.mk : At 1) ?_; refine m_take (At.mk : At 2) ?_; refine m_take (At.mk : At 3) ?_; refine m_take (At.mk : At 4) ?_; refine m_take (At.mk : At 5) ?_; refine m_take (At.mk : At 6) ?_; refine m_take (At.mk : At 7) ?_; refine m_take (At.mk : At 8) ?_; refine m_take (At.mk : At 9) ?_; refine m_take (At.mk : At 10) ?_; refine m_take (At.mk : At 11) ?_
    refine TA.isF 28 rfl (by simp) ?_
    refine m_take (At.mk : At 12) ?_; refine m_take (At.mk : At 13) ?_; refine m_take (At.mk : At 14) ?_; refine m_take (At.mk : At 15) ?_; refine m_take (At.mk : At 16) ?_; refine m_take (At.mk : At 17) ?_; refine m_take (At.mk : At 18) ?_; refine m_take (At.mk : At 19) ?_; refine m_take (At.mk : At 20) ?_; refine m_take (At.mk : At 21) ?_; refine m_take (At.mk : At 22) ?_; refine m_take (At.mk : At 23) ?_; refine m_take (At.mk : At 24) ?_
    refine TA.isF 41 rfl (by simp) ?_
    refine m_take (At.mk : At 25) ?_; refine m_take (At.mk : At 26) ?_; refine m_take (At.mk : At 27) ?_; refine m_take (At.mk : At 28) ?_; refine m_take (At.mk : At 29) ?_; refine m_take (At.mk : At 30) ?_; refine m_take (At.mk : At 31) ?_; refine m_take (At.mk : At 32) ?_; refine m_take (At.mk : At 33) ?_; refine m_take (At.mk : At 34) ?_
    (apply TA.one 35; kernel_rfl; exact rfl)
    refine TL.guard_yes rfl rfl rfl rfl ?_
    (apply TL.callV; exact rfl; exact callB_of (by kernel_rfl); exact rfl; exact fun _ h => h)
    exact compare_t ⟨p, xs⟩ ⟨p, xs⟩ A1 A2 c1 c2 _ hxa hya hxl
    rintro _ _ ⟨rfl, rfl⟩
    rw [cmp_self]
    refine TL.back (by (focus ((repeat (first | assumption | exact Ent.refl _ | apply Ent.tail)); done))) ?_
    refine m_take (At.mk : At 36) ?_; refine m_take (At.mk : At 37) ?_
    refine TA.done (by kernel_rfl) ?_
    refine m_run ?_
    refine IH (j - 1) _ _ (by omega) ⟨i + 1, by omega, rfl, rfl, congrArg (Value.int .i64) (i64_succ i (by omega)), rfl⟩
  · refine m_run ?_
    (apply TK.ret1; exact rfl; (exact m_val))
    exact ⟨_, rfl, rfl, rfl⟩
end Go.Proofs.Ytoccilnobgoncaa.E
