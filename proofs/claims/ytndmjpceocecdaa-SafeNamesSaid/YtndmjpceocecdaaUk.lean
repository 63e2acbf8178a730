/- Which programs may be: Right, as the program and the document tell it, walked. -/
import Derived.Test.YtndmjpceocecdaaUg
import Derived.Test.YtndmjpceocecdaaUj
namespace Go.Proofs.Ytndmjpceocecdaa.E
open Go Go.RowKit Go.Proofs
attribute [local irreducible] TK TL TQ TA Fn PV
theorem step_consB {L bs : List (Nat × Nat)} (h : Cons L) : stepB L bs = consB (L ++ bs) := by
  rw [Bool.eq_iff_iff, step_cons h, consB_iff]
/-- What Right answers. -/
def RightIs (l : List Cl) (v : Value) : Prop := ∃ (n : Nat) (e : Int), v = .tuple #[.int .i64 (n : Int), .int .i64 e] ∧ Res l n e
set_option maxRecDepth 100000 in
set_option maxHeartbeats 4000000 in
theorem right_t (A : Option Addr) (cc : Nat) (l : List Cl) (Γ : List HP) (h : clsOk A l Γ) (hn : l.length ≤ 1000000) : FnV Try.prog 16 [.slice A l.length cc] Γ fun v Γ' => RightIs l v ∧ Γ' = Γ := by
  refine Fn.enter Try.func16 rfl rfl rfl fun E => ?_
  by_cases h400 : 400 < l.length
  · refine m_run ?_
    (apply TK.ret2; exact rfl; exact rfl; (exact m_val); (exact m_val))
    exact ⟨_, rfl, ⟨0, 6, rfl, .inl ⟨h400, rfl, rfl⟩⟩, rfl⟩
  have h4 : l.length ≤ 400 := by omega
  refine m_run ?_
  (apply TL.makeMap u32N lenN; exact rfl)
  intro mb
  refine m_run ?_
  apply TK.iter (fun j ρ' Γ' => ∃ (i : Nat) (es : List (Nat × Nat)), l.length = i + j ∧ okTo l i ∧ Says es (atsL (l.take i)) ∧ lk ρ' 4 = .map (some mb) ∧ lk ρ' 11 = .slice A l.length cc ∧ lk ρ' 12 = .int .i64 (l.length : Int) ∧ lk ρ' 13 = .int .i64 (i : Int) ∧ Γ' = mapA u32N lenN mb es :: Γ) l.length
  · exact ⟨0, [], by omega, fun k c hk => by omega, fun q => rfl, rfl, rfl, rfl, rfl, rfl⟩
  rintro j IH ρ' _ ⟨i, es, hj, hok, hS, e4, e11, e12, e13, rfl⟩
  refine TK.know4 e4 e11 e12 e13 ?_
  by_cases hi : i < l.length
  · obtain ⟨c, hc⟩ : ∃ c, l[i]? = some c := ⟨l[i], List.getElem?_eq_getElem hi⟩
    have hcm := List.mem_of_getElem? hc
    obtain ⟨hco, hcs⟩ := h.2 c hcm
    refine TK.mem fun m0 hm0 => ?_
    obtain ⟨b, o, rfl⟩ := src_some (has_tls h.1 m0 hm0) (by rw [clsC_len]; omega)
    clear hm0 m0
    have hel := has_el (sz := 3) (f := Cl.cells) (fun _ => rfl) (by decide) h.1 hc
    have hwr : wrong1 (atsL (l.take i)) c = if mayC c then (if heldC c then (if consB (atsL (l.take i) ++ atsOf c) then 0 else 9) else 10) else 8 := rfl
    refine m_run ?_
    (apply TL.alloc; exact rfl; exact tb rfl; exact (rfl : _ = [_, _, _]))
    intro b6
    refine m_run ?_
    (apply TL.callV; exact rfl; exact callB_of (by kernel_rfl); exact rfl; exact fun _ h => h)
    exact may_t c _ (Cl.ok_tl (Cl.ok_tl hco)) hcs
    rintro _ _ ⟨rfl, rfl⟩
    cases hmay : mayC c with
    | false =>
      rw [hmay] at hwr
      refine m_run ?_
      (apply TK.retS2; exact rfl; exact rfl; (exact m_val); (exact m_val))
      exact ⟨_, rfl, ⟨i, 8, rfl, .inr ⟨h4, .inl ⟨c, hc, hok, hwr.symm, by decide⟩⟩⟩, rfl⟩
      (repeat (first | exact List.Sublist.refl _ | apply List.Sublist.cons_cons | apply List.Sublist.cons))
    | true =>
    rw [hmay] at hwr
    refine m_run ?_
    (apply TL.callV; exact rfl; exact callB_of (by kernel_rfl); exact rfl; exact fun _ h => h)
    exact held_t c _ (Cl.ok_tl (Cl.ok_tl hco)) hcs
    rintro _ _ ⟨rfl, rfl⟩
    cases hheld : heldC c with
    | false =>
      rw [hheld] at hwr
      refine m_run ?_
      (apply TK.retS2; exact rfl; exact rfl; (exact m_val); (exact m_val))
      exact ⟨_, rfl, ⟨i, 10, rfl, .inr ⟨h4, .inl ⟨c, hc, hok, hwr.symm, by decide⟩⟩⟩, rfl⟩
      (repeat (first | exact List.Sublist.refl _ | apply List.Sublist.cons_cons | apply List.Sublist.cons))
    | true =>
    rw [hheld] at hwr
    refine m_run ?_
    refine TL.perm (.swap _ _ _) ?_
    (apply TL.callV; exact rfl; exact callB_of (by kernel_rfl); exact rfl; exact fun _ h => h)
    exact clause_t mb c es _ _ hS (Cl.ok_tl hco) hcs
    rintro _ _ ⟨rfl, es2, rfl, hS2⟩
    rw [step_consB (okTo_cons hok (by omega))]
    cases hcon : consB (atsL (l.take i) ++ atsOf c) with
    | false =>
      rw [hcon] at hwr
      refine m_run ?_
      (apply TK.retS2; exact rfl; exact rfl; (exact m_val); (exact m_val))
      exact ⟨_, rfl, ⟨i, 9, rfl, .inr ⟨h4, .inl ⟨c, hc, hok, hwr.symm, by decide⟩⟩⟩, rfl⟩
      (repeat (first | exact List.Sublist.refl _ | apply List.Sublist.cons_cons | apply List.Sublist.cons))
    | true =>
      rw [hcon] at hwr
      refine m_run ?_
      refine TK.sub (Δ := mapA u32N lenN mb es2 :: Γ) (by (repeat (first | exact List.Sublist.refl _ | apply List.Sublist.cons_cons | apply List.Sublist.cons))) ?_
      refine IH (j - 1) _ _ (by omega) ⟨i + 1, es2, by omega, okTo_snoc hok hc hwr, ?_, rfl, rfl, rfl, congrArg (Value.int .i64) (i64_succ i (by omega)), rfl⟩
      rw [atsL_snoc hc]; exact hS2
  · obtain rfl : i = l.length := by omega
    refine m_run ?_
    (apply TK.retS2; exact rfl; exact rfl; (exact m_val); (exact m_val))
    exact ⟨_, rfl, ⟨0, 0, rfl, .inr ⟨h4, .inr ⟨hok, rfl, rfl⟩⟩⟩, rfl⟩
    (repeat (first | exact List.Sublist.refl _ | apply List.Sublist.cons_cons | apply List.Sublist.cons))
set_option maxRecDepth 100000 in
set_option maxHeartbeats 4000000 in
theorem rright_t (A : Option Addr) (cc : Nat) (l : List Cl) (Γ : List HP) (h : clsOk A l Γ) (hcc : l.length ≤ cc) (hn : l.length ≤ 1000000) (hall : l.length ≤ 400 → (allA l).length ≤ 1000000) : FnV Try.prog 17 [.slice A l.length cc] Γ fun v Γ' => RightIs l v ∧ Γ' = Γ := by
  refine Fn.enter Try.func17 rfl rfl rfl fun E => ?_
  by_cases h400 : 400 < l.length
  · refine m_run ?_
    (apply TK.ret2; exact rfl; exact rfl; (exact m_val); (exact m_val))
    exact ⟨_, rfl, ⟨0, 6, rfl, .inl ⟨h400, rfl, rfl⟩⟩, rfl⟩
  have h4 : l.length ≤ 400 := by omega
  replace hall := hall h4
  refine m_run ?_
  apply TK.iter (fun j ρ' Γ' => ∃ (i : Nat), l.length = i + j ∧ okTo l i ∧ lk ρ' 0 = .slice A l.length cc ∧ lk ρ' 4 = .int .i64 (i : Int) ∧ Γ' = Γ) l.length
  · exact ⟨0, by omega, fun k c hk => by omega, rfl, rfl, rfl⟩
  rintro j IH ρ' _ ⟨i, hj, hok, e0, e4, rfl⟩
  refine TK.know2 e0 e4 ?_
  by_cases hi : i < l.length
  · obtain ⟨c, hc⟩ : ∃ c, l[i]? = some c := ⟨l[i], List.getElem?_eq_getElem hi⟩
    have hcm := List.mem_of_getElem? hc
    obtain ⟨hco, hcs⟩ := h.2 c hcm
    refine TK.mem fun m0 hm0 => ?_
    obtain ⟨b, o, rfl⟩ := src_some (h.1 m0 hm0) (by rw [clsC_len]; omega)
    clear hm0 m0
    have hel := has_el (sz := 3) (f := Cl.cells) (fun _ => rfl) (by decide) h.1 hc
    have hwr : wrong1 (atsL (l.take i)) c = if mayC c then (if heldC c then (if consB (atsL (l.take i) ++ atsOf c) then 0 else 9) else 10) else 8 := rfl
    refine m_run ?_
    (apply TL.callV; exact rfl; exact callB_of (by kernel_rfl); exact rfl; exact fun _ h => h)
    exact rmay_t c _ hco hcs
    rintro _ Γ ⟨rfl, rfl⟩
    cases hmay : mayC c with
    | false =>
      rw [hmay] at hwr
      refine m_run ?_
      (apply TK.ret2; exact rfl; exact rfl; (exact m_val); (exact m_val))
      exact ⟨_, rfl, ⟨i, 8, rfl, .inr ⟨h4, .inl ⟨c, hc, hok, hwr.symm, by decide⟩⟩⟩, rfl⟩
    | true =>
    rw [hmay] at hwr
    refine m_run ?_
    (apply TL.callV; exact rfl; exact callB_of (by kernel_rfl); exact rfl; exact fun _ h => h)
    exact rsafe_t c _ hco hcs
    rintro _ Γ ⟨rfl, rfl⟩
    cases hheld : heldC c with
    | false =>
      rw [hheld] at hwr
      refine m_run ?_
      (apply TK.ret2; exact rfl; exact rfl; (exact m_val); (exact m_val))
      exact ⟨_, rfl, ⟨i, 10, rfl, .inr ⟨h4, .inl ⟨c, hc, hok, hwr.symm, by decide⟩⟩⟩, rfl⟩
    | true =>
    rw [hheld] at hwr
    refine m_run ?_
    refine TL.know (t := 30) (v := .int .i64 ((i + 1 : Nat) : Int)) (congrArg (Value.int .i64) (i64_succ i (by omega))) ?_
    (apply TL.sliceS (i := 0) (j := i + 1) (news := clsC l); exact rfl; exact rfl; exact tb rfl; exact rfl; exact tb rfl; exact .none; exact .some rfl; exact h.1; exact Nat.zero_le _; exact hi; exact hcc)
    intro A' hA'
    have htl : (l.take (i + 1)).length = i + 1 := by rw [List.length_take]; omega
    have hA2 : clsOk A' (l.take (i + 1)) Γ := by
      refine ⟨?_, fun c hc => h.2 c (List.mem_of_mem_take hc)⟩
      rw [htl, clsC, flat_take (f := Cl.cells) (sz := 3) (fun _ => rfl)]
      simpa using hA'
    have hl := rlengths_t A' (cc - 0) (l.take (i + 1)) Γ hA2 (by omega) (Nat.le_trans (allA_le (i + 1)) hall)
    rw [htl, atsL_snoc hc] at hl
    refine m_run ?_
    (apply TL.callV; exact rfl; exact callB_of (by kernel_rfl); exact rfl; exact fun _ h => h)
    exact hl
    rintro _ Γ ⟨rfl, rfl⟩
    cases hcon : consB (atsL (l.take i) ++ atsOf c) with
    | false =>
      rw [hcon] at hwr
      refine m_run ?_
      (apply TK.ret2; exact rfl; exact rfl; (exact m_val); (exact m_val))
      exact ⟨_, rfl, ⟨i, 9, rfl, .inr ⟨h4, .inl ⟨c, hc, hok, hwr.symm, by decide⟩⟩⟩, rfl⟩
    | true =>
      rw [hcon] at hwr
      refine m_run ?_
      exact IH (j - 1) _ _ (by omega) ⟨i + 1, by omega, okTo_snoc hok hc hwr, rfl, congrArg (Value.int .i64) (i64_succ i (by omega)), rfl⟩
  · obtain rfl : i = l.length := by omega
    refine m_run ?_
    (apply TK.ret2; exact rfl; exact rfl; (exact m_val); (exact m_val))
    exact ⟨_, rfl, ⟨0, 0, rfl, .inr ⟨h4, .inr ⟨hok, rfl, rfl⟩⟩⟩, rfl⟩
end Go.Proofs.Ytndmjpceocecdaa.E
