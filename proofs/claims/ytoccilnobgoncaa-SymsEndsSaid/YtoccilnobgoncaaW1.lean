/- SymsEnds, whatever is handed in: the walk: it answers true. -/
import Derived.Test.YtoccilnobgoncaaZ9
namespace Go.Proofs.Ytoccilnobgoncaa.E
open Go Go.RowKit Go.Proofs
attribute [local irreducible] TK TL TQ TA Fn PV
set_option maxRecDepth 100000 in
theorem ends_t (over : Int) (c a : UInt8) (full : Bool) (Γ : List HP) (h1 : -128 ≤ over) (h2 : over ≤ 127) :
    FnV Try.prog 5 [.int .i8 over, .int .u8 (c.toNat : Int), .int .u8 (a.toNat : Int), .bool full] Γ fun r Γ' => r = .bool true ∧ Γ' = Γ := by
  refine Fn.enter Try.func5 rfl rfl rfl fun E => ?_
  have e1 : IntKind.i64.wrap over = over := i64_in (by omega) (by omega)
  have e2 : IntKind.i64.wrap (32 + IntKind.i64.wrap over) = 32 + over := by rw [e1, i64_in (by omega) (by omega)]
  by_cases hn : 32 + over < 1
  · refine m_run ?_
    (apply TL.callV; exact rfl; exact callB_of (by kernel_rfl); exact rfl; exact fun _ h => h)
    exact works4_t _
    rintro _ _ ⟨rfl, rfl⟩
    refine m_run ?_
    (apply TK.ret1; exact rfl; (exact m_val))
    exact ⟨_, rfl, rfl, rfl⟩
  · obtain ⟨N, hN⟩ : ∃ N : Nat, 32 + over = N := ⟨(32 + over).toNat, by omega⟩
    refine m_run ?_
    refine TL.know (t := 28) (v := .int .i64 (N : Int)) (congrArg (Value.int .i64) (e2.trans hN)) ?_
    (apply TL.makeN (n := N) (c := N); exact rfl; exact rfl; exact rfl; exact tb rfl; exact rfl; exact tb rfl; exact rfl; exact rfl)
    · exact Nat.le_refl _
    · show 1 * N ≤ _; omega
    · unfold maxLen; omega
    intro b
    refine m_run ?_
    apply TK.iter (fun j ρ' Γ' => ∃ i : Nat, i + j = N ∧ lk ρ' 1 = .int .u8 (c.toNat : Int) ∧ lk ρ' 2 = .int .u8 (a.toNat : Int) ∧ lk ρ' 3 = .bool full ∧ lk ρ' 9 = .int .i64 N ∧ lk ρ' 10 = .slice (some ⟨b, 0, none⟩) N N ∧ lk ρ' 11 = .int .i64 i ∧
      Γ' = own 5 1 (.slice (some ⟨b, 0, none⟩) N N) N (List.replicate i (.int .u8 120) ++ List.replicate (N - i) (.int .u8 0)) :: Γ) N
    · exact ⟨0, by omega, rfl, rfl, rfl, congrArg (Value.int .i64) (e2.trans hN), rfl, rfl, rfl⟩
    rintro j IH ρ' Γ' ⟨i, hij, e1', e2', e3, e9, e10, e11, rfl⟩
    refine TK.know6 e1' e2' e3 e9 e10 e11 ?_
    by_cases hi : i < N
    · refine m_run ?_
      (apply TL.storeOwn 0 i; exact rfl; exact rfl; (exact m_val); exact rfl; exact tb rfl; exact rfl; exact (Nat.zero_add _).symm)
      · exact hi
      refine m_run ?_
      refine IH (j - 1) _ _ (by omega) ⟨i + 1, by omega, rfl, rfl, rfl, rfl, rfl, congrArg (Value.int .i64) (i64_succ i (by omega)), ?_⟩
      exact congrArg (fun cs => own 5 1 (.slice (some ⟨b, 0, none⟩) N N) N cs :: Γ) (fill_set N i (.int .u8 0) (.int .u8 120) hi)
    · obtain rfl : i = N := by omega
      obtain ⟨k, hk⟩ : ∃ k, a.toNat % i = k := ⟨_, rfl⟩
      have hki : k < i := hk ▸ Nat.mod_lt _ (by omega)
      have ha := a.toNat_lt
      refine m_run ?_
      refine TL.know (t := 40) (v := .int .i64 ((a.toNat : Nat) : Int)) (congrArg (Value.int .i64) (i64_in (by omega) (by omega))) ?_
      (apply TL.pv; exact rfl; (apply PV.remN (n := a.toNat) (m := i); exact rfl; exact rfl; exact rfl; omega))
      rw [hk]
      refine m_run ?_
      (apply TL.storeOwn 0 k; exact rfl; exact rfl; (exact m_val); exact rfl; exact tb rfl; exact rfl; exact (Nat.zero_add _).symm)
      · exact hki
      obtain ⟨l, hl⟩ : ∃ l : List UInt8, l = (List.replicate i 120).set k c := ⟨_, rfl⟩
      have hll : l.length = i := by rw [hl]; simp
      have hb : (List.replicate i (Value.int .u8 120) ++ List.replicate (i - i) (Value.int .u8 0)).set k (.int .u8 (c.toNat : Int)) = bytesV l := by
        rw [hl, bytesV, List.map_set, List.map_replicate, Nat.sub_self]; simp
      show TL _ _ _ _ _ _ (own 5 1 (.slice (some ⟨b, 0, none⟩) i i) i ((List.replicate i (Value.int .u8 120) ++ List.replicate (i - i) (Value.int .u8 0)).set k (.int .u8 (c.toNat : Int))) :: Γ)
      rw [hb]
      have hsr : has (own 5 1 (.slice (some ⟨b, 0, none⟩) i i) i (bytesV l) :: Γ) (srcAt 1 (some ⟨b, 0, none⟩) i (bytesV l)) := has_at (up_src _ _ _ _) 0 rfl fun _ h => own_src h
      refine m_run ?_
      refine TK.drawS mixed ?_
      refine m_take (At.mk : At 0) ?_; refine m_take (At.mk : At 1) ?_; refine m_take (At.mk : At 3) ?_; refine m_take (At.mk : At 4) ?_
      (apply TA.one 2; kernel_rfl; exact rfl)
      (apply TL.callV; exact rfl; exact callB_of (by kernel_rfl); exact rfl; exact fun _ h => h)
      exact may_t l _ (by omega)
      rintro _ _ ⟨rfl, rfl⟩
      refine TL.back (by (focus ((repeat (first | assumption | exact Ent.refl _ | apply Ent.tail)); done))) ?_
      (apply TA.one 5; kernel_rfl; exact rfl)
      (apply TL.callV; exact rfl; exact callB_of (by kernel_rfl); exact rfl; exact fun _ h => h)
      exact refmay_t l _ (by omega)
      rintro _ _ ⟨rfl, rfl⟩
      refine TL.back (by (focus ((repeat (first | assumption | exact Ent.refl _ | apply Ent.tail)); done))) ?_
      refine m_take (At.mk : At 6) ?_
      refine TA.done (by kernel_rfl) ?_
      refine TK.condF (t := (mayB l != mayB l)) rfl (by simp) ?_
      cases full with
      | false =>
        refine m_run ?_
        (apply TL.callV; exact rfl; exact callB_of (by kernel_rfl); exact rfl; exact fun _ h => h)
        exact works4_t _
        rintro _ _ ⟨rfl, rfl⟩
        refine m_run ?_
        (apply TK.retS1; exact rfl; (exact m_val))
        · exact ⟨_, rfl, rfl, rfl⟩
        · (repeat (first | exact List.Sublist.refl _ | apply List.Sublist.cons_cons | apply List.Sublist.cons))
      | true =>
        refine m_run ?_
        (apply TL.callV; exact rfl; exact callB_of (by kernel_rfl); exact rfl; exact fun _ h => h)
        exact new_tab _
        rintro _ _ ⟨bt, mb, rfl, rfl⟩
        refine m_run ?_
        apply TK.iter (fun j ρ' Γ' => ∃ (q : Nat) (v : Value), q + j = 4096 ∧ lk ρ' 2 = .int .u8 (a.toNat : Int) ∧ lk ρ' 12 = .pointer (some ⟨bt, 0, none⟩) ∧ lk ρ' 13 = .int .i64 q ∧ Γ' = tabAt bt mb v (nths q) (own 5 1 (.slice (some ⟨b, 0, none⟩) i i) i (bytesV l) :: Γ)) 4096
        · exact ⟨0, _, by omega, rfl, rfl, rfl, rfl⟩
        rintro j2 IH2 ρ2 Γ2 ⟨q, v, hqj, e2', e12, e13, rfl⟩
        refine TK.know3 e2' e12 e13 ?_
        by_cases hq : q < 4096
        · have hput := put_tab bt mb v (nths q) (nthM q) (own 5 1 (.slice (some ⟨b, 0, none⟩) i i) i (bytesV l) :: Γ) (by have := nthM_may (n := q) (by omega); simp [mayB] at this; omega) (by rw [nths_length]; omega)
          rw [nths_put hq] at hput
          have ew : IntKind.u32.wrap (q : Int) = q := u32_in (by omega) (by omega)
          refine m_run ?_
          (apply TL.callV; exact rfl; exact callB_of (by kernel_rfl); exact rfl; exact fun _ h => h)
          exact nth_t q _ (by omega)
          rintro _ _ ⟨rfl, rfl⟩
          refine m_run ?_
          (apply TL.callV; exact rfl; exact callB_of (by kernel_rfl); exact rfl; exact fun _ h => h)
          exact hput
          rintro _ _ ⟨v', rfl, rfl⟩
          refine m_run ?_
          refine IH2 (j2 - 1) _ _ (by omega) ⟨q + 1, v', by omega, rfl, rfl, congrArg (Value.int .i64) (i64_succ q (by omega)), rfl⟩
        · obtain rfl : q = 4096 := by omega
          have hp1 := put_tab bt mb v (nths 4096) [111, 110, 101, 95, 109, 111, 114, 101] (own 5 1 (.slice (some ⟨b, 0, none⟩) i i) i (bytesV l) :: Γ) (by decide) (Nat.le_of_eq (nths_length 4096))
          rw [nths_more] at hp1
          refine m_run ?_
          (apply TL.callV; exact rfl; exact callB_of (by kernel_rfl); exact rfl; exact fun _ h => h)
          exact hp1
          rintro _ _ ⟨v1, rfl, rfl⟩
          have hp2 := put_tab bt mb v1 (nths 4096) (nthM a.toNat) (own 5 1 (.slice (some ⟨b, 0, none⟩) i i) i (bytesV l) :: Γ) (by have := nthM_may (n := a.toNat) (by omega); simp [mayB] at this; omega) (Nat.le_of_eq (nths_length 4096))
          rw [nths_old (by omega)] at hp2
          have ew : IntKind.u32.wrap ((a.toNat : Nat) : Int) = a.toNat := u32_in (by omega) (by omega)
          refine m_run ?_
          refine TL.know (t := 83) (v := .int .i64 ((a.toNat : Nat) : Int)) (congrArg (Value.int .i64) (i64_in (by omega) (by omega))) ?_
          (apply TL.callV; exact rfl; exact callB_of (by kernel_rfl); exact rfl; exact fun _ h => h)
          exact nth_t a.toNat _ (by omega)
          rintro _ _ ⟨rfl, rfl⟩
          refine m_run ?_
          (apply TL.callV; exact rfl; exact callB_of (by kernel_rfl); exact rfl; exact fun _ h => h)
          exact hp2
          rintro _ _ ⟨v2, rfl, rfl⟩
          have hp3 := put_tab bt mb v2 (nths 4096) [] (own 5 1 (.slice (some ⟨b, 0, none⟩) i i) i (bytesV l) :: Γ) (by decide) (Nat.le_of_eq (nths_length 4096))
          rw [nths_none] at hp3
          refine m_run ?_
          (apply TL.callV; exact rfl; exact callB_of (by kernel_rfl); exact rfl; exact fun _ h => h)
          exact hp3
          rintro _ _ ⟨v3, rfl, rfl⟩
          refine m_run ?_
          (apply TL.callV; exact rfl; exact callB_of (by kernel_rfl); exact rfl; exact fun _ h => h)
          exact len_at bt mb v3 (nths 4096) _
          rintro _ _ ⟨rfl, rfl⟩
          have hlen : (nths 4096).length = 4096 := nths_length 4096
          refine m_run ?_
          (apply TL.callV; exact rfl; exact callB_of (by kernel_rfl); exact rfl; exact fun _ h => h)
          exact works4_t _
          rintro _ _ ⟨rfl, rfl⟩
          refine m_run ?_
          (apply TK.retS1; exact rfl; (exact m_val))
          · exact ⟨_, rfl, rfl, rfl⟩
          · (repeat (first | exact List.Sublist.refl _ | apply List.Sublist.cons_cons | apply List.Sublist.cons))
end Go.Proofs.Ytoccilnobgoncaa.E
