/- My own texts, one behind the other: Gwm. -/
import Derived.Test.YtndmjpceocecdaaPg7
/- How many nodes and edges a graph may have: walked. -/
namespace Go.Proofs.Ytndmjpceocecdaa.E
open Go Go.RowKit Go.Proofs
attribute [local irreducible] TK TL TQ TA TB Fn PV
theorem zerosL_pr (n : Nat) : zerosL [.int .i64 0, .int .i64 0] n = (List.replicate n ((0 : Int), (0 : Int))).flatMap prC := by
  induction n with
  | zero => rfl
  | succ n ih =>
    rw [List.replicate_succ]
    show [Value.int .i64 0, .int .i64 0] ++ zerosL _ n = prC (0, 0) ++ List.flatMap prC _
    rw [ih]; rfl
theorem i8_in {x : Int} (h0 : -128 ≤ x) (h1 : x ≤ 127) : IntKind.i64.wrap x = x := i64_in (by omega) (by omega)
set_option maxRecDepth 100000 in
set_option maxHeartbeats 4000000 in
theorem graphEnds_t (o : Int) (most : Bool) (Γ : List HP) (h0 : -128 ≤ o) (h1 : o ≤ 127) :
    FnV Try.prog 9 [.int .i8 o, .bool most] Γ fun v Γ' => v = .bool true ∧ Γ' = Γ := by
  refine Fn.enter Try.func9 rfl rfl rfl fun E => ?_
  cases most with
  | true =>
    obtain ⟨m, hm⟩ : ∃ m : Nat, (m : Int) = 16384 + o := ⟨(16384 + o).toNat, by omega⟩
    refine m_run ?_
    refine TL.know (t := 13) (v := .int .i64 (m : Int)) (congrArg (Value.int .i64) (by rw [i8_in h0 h1, i64_in (by omega) (by omega), hm])) ?_
    (apply TL.makeG (n := m) (cs := (List.replicate m ((0 : Int), (0 : Int))).flatMap prC); exact rfl; exact rfl; exact rfl; exact tb rfl; exact rfl; exact tb rfl; exact rfl; exact (show 16 * m ≤ _ by omega); exact (show m ≤ maxLen by unfold maxLen; omega); exact zerosL_pr m)
    intro bE
    refine m_run ?_
    have hl : (List.replicate m ((0 : Int), (0 : Int))).length = m := List.length_replicate
    have hsrc : has (own 52 2 (.slice (some ⟨bE, 0, none⟩) m m) m ((List.replicate m ((0 : Int), (0 : Int))).flatMap prC) :: Γ) (srcAt 2 (some ⟨bE, 0, none⟩) (List.replicate m ((0 : Int), (0 : Int))).length ((List.replicate m ((0 : Int), (0 : Int))).flatMap prC)) := by
      rw [hl]; exact has_at (up_src _ _ _ _) 0 rfl fun _ h => own_src h
    have hcall := partsG_t 1 (some ⟨bE, 0, none⟩) m (List.replicate m (0, 0)) _ hsrc (by omega)
    rw [hl] at hcall
    (apply TL.callV; exact rfl; exact callB_of (by kernel_rfl); exact rfl; exact fun _ h => h)
    exact hcall
    rintro _ Γ1 ⟨Q, q, L, rfl, hR, hS, hZ, hP⟩
    have hpe : pErr 1 (List.replicate m (0, 0)) = if o ≤ 0 then 0 else 6 := by
      unfold pErr
      rw [hl]
      by_cases h : o ≤ 0
      · rw [if_pos h, if_neg (by omega), if_neg (by decide), if_neg (fun h2 => by
          obtain ⟨x, hx, hb⟩ := List.any_eq_true.1 h2
          rw [List.eq_of_mem_replicate hx] at hb
          revert hb
          decide)]
      · rw [if_neg h, if_pos (.inr (by omega))]
    rw [hpe]
    have hS' := (List.Sublist.cons _ (.refl _)).trans hS
    by_cases h : o ≤ 0
    · rw [if_pos h]
      refine m_run ?_
      refine TL.know (t := 23) (v := .bool true) (congrArg Value.bool (by rw [decide_eq_true h]; rfl)) ?_
      refine m_run ?_
      (apply TL.callV; exact rfl; exact callB_of (by kernel_rfl); exact rfl; exact fun _ h => h)
      exact works9_t _
      rintro _ Γ2 ⟨rfl, hs2⟩
      refine m_run ?_
      (apply TK.retS1; exact rfl; exact rfl; (exact m_val))
      exact ⟨_, rfl, rfl, rfl⟩
      exact hS'.trans hs2
    · rw [if_neg h]
      refine m_run ?_
      refine TL.know (t := 23) (v := .bool true) (congrArg Value.bool (by rw [decide_eq_false h]; rfl)) ?_
      refine m_run ?_
      (apply TL.callV; exact rfl; exact callB_of (by kernel_rfl); exact rfl; exact fun _ h => h)
      exact works9_t _
      rintro _ Γ2 ⟨rfl, hs2⟩
      refine m_run ?_
      (apply TK.retS1; exact rfl; exact rfl; (exact m_val))
      exact ⟨_, rfl, rfl, rfl⟩
      exact hS'.trans hs2
  | false =>
    refine m_run ?_
    refine TL.know (t := 37) (v := .int .i64 (4096 + o)) (congrArg (Value.int .i64) (by rw [i8_in h0 h1, i64_in (by omega) (by omega)])) ?_
    (apply TL.callV; exact rfl; exact callB_of (by kernel_rfl); exact rfl; exact fun _ h => h)
    exact partsG_t (4096 + o) none 0 [] _ (has_srcnil _ _) (by decide)
    rintro _ Γ1 ⟨Q, q, L, rfl, hR, hS, hZ, hP⟩
    have hpe : pErr (4096 + o) [] = if 0 < o then 6 else 0 := by
      unfold pErr
      by_cases h : 0 < o
      · rw [if_pos h, if_pos (.inl (by omega))]
      · rw [if_neg h, if_neg (by simp; omega), if_neg (by omega)]; rfl
    by_cases h : 0 < o
    · rw [if_pos h] at hpe
      obtain rfl := hZ (by rw [hpe]; decide)
      rw [hpe]
      refine m_run ?_
      (apply TL.callV; exact rfl; exact callB_of (by kernel_rfl); exact rfl; exact fun _ h => h)
      exact works9_t _
      rintro _ Γ2 ⟨rfl, hs2⟩
      refine m_run ?_
      (apply TK.retS1; exact rfl; exact rfl; (exact m_val))
      exact ⟨_, rfl, rfl, rfl⟩
      exact hS.trans hs2
    · rw [if_neg h] at hpe
      have hLl := Gph.no_edges (hP hpe) (fun v w e => by cases e)
      rw [List.length_map] at hLl
      rw [hpe]
      refine m_run ?_
      refine TL.know (t := 63) (v := .bool true) (congrArg Value.bool (by rw [i8_in h0 h1, i64_in (by omega) (by omega), beq_iff_eq]; omega)) ?_
      refine m_run ?_
      (apply TL.callV; exact rfl; exact callB_of (by kernel_rfl); exact rfl; exact fun _ h => h)
      exact works9_t _
      rintro _ Γ2 ⟨rfl, hs2⟩
      refine m_run ?_
      (apply TK.retS1; exact rfl; exact rfl; (exact m_val))
      exact ⟨_, rfl, rfl, rfl⟩
      exact hS.trans hs2
end Go.Proofs.Ytndmjpceocecdaa.E
