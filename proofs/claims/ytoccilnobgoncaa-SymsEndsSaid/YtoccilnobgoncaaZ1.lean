/- SymsPlays, whatever names are handed in: the walk: it answers true. -/
import Derived.Test.YtoccilnobgoncaaY9
namespace Go.Proofs.Ytoccilnobgoncaa.E
open Go Go.RowKit Go.Proofs
attribute [local irreducible] TK TL TQ TA Fn PV
theorem own_some1 {e sz n c : Nat} {A : Option Addr} {cs : List Value} {m : Mem} (h : own e sz (.slice A n c) n cs m) (hn : 0 < n) : ∃ g, A = some ⟨g, 0, none⟩ := by
  obtain ⟨_, ⟨_, h0, _⟩ | ⟨g, cap, cur, hv, _⟩⟩ := h
  · omega
  · injection hv with hv _ _; exact ⟨g, hv⟩
/-- Two ways that come to one place. -/
theorem cutAny {p : Prop} {cx : Cx} {k2 : List Item} {ds : List Deferred} (I : Env → List HP → Prop) (h2 : (∀ ρ' Γ', I ρ' Γ' → TK cx k2 ρ' ds Γ') → p) (h1 : ∀ ρ' Γ', I ρ' Γ' → TK cx k2 ρ' ds Γ') : p := h2 h1
theorem perm23 {α : Type} (a b c d e : α) (l : List α) : (a :: b :: c :: d :: e :: l).Perm (c :: d :: e :: a :: b :: l) := by
  have := (List.perm_append_comm (l₁ := [a, b]) (l₂ := [c, d, e])).append_right l
  simpa using this
theorem perm32 {α : Type} (a b c d e : α) (l : List α) : (a :: b :: c :: d :: e :: l).Perm (d :: e :: a :: b :: c :: l) := by
  have := (List.perm_append_comm (l₁ := [a, b, c]) (l₂ := [d, e])).append_right l
  simpa using this
set_option maxRecDepth 100000 in
theorem plays4_t (A0 A1 A2 : Option Addr) (c0 c1 c2 : Nat) (L0 L1 L2 : List (List UInt8)) (Γ : List HP) (h0 : has Γ (srcAt 1 A0 L0.length (strs L0))) (h1 : has Γ (srcAt 1 A1 L1.length (strs L1))) (h2 : has Γ (srcAt 1 A2 L2.length (strs L2))) :
    FnV Try.prog 7 [.slice A0 L0.length c0, .slice A1 L1.length c1, .slice A2 L2.length c2] Γ fun r Γ' => r = .bool true ∧ Γ' = Γ := by
  refine Fn.enter Try.func7 rfl rfl rfl fun E => ?_
  refine m_run ?_
  (apply TL.callV; exact rfl; exact callB_of (by kernel_rfl); exact rfl; exact fun _ h => h)
  exact few4_t A0 c0 L0 _ h0
  rintro _ _ ⟨f0, rfl, hΓ, hf0⟩
  obtain rfl := hΓ.symm
  clear hΓ
  cases f0 with
  | false =>
    refine m_run ?_
    (apply TL.callV; exact rfl; exact callB_of (by kernel_rfl); exact rfl; exact fun _ h => h)
    exact works4_t _
    rintro _ _ ⟨rfl, rfl⟩
    refine m_run ?_
    (apply TK.ret1; exact rfl; (exact m_val))
    exact ⟨_, rfl, rfl, rfl⟩
  | true =>
  refine m_run ?_
  (apply TL.callV; exact rfl; exact callB_of (by kernel_rfl); exact rfl; exact fun _ h => h)
  exact few4_t A1 c1 L1 _ h1
  rintro _ _ ⟨f1, rfl, hΓ, hf1⟩
  obtain rfl := hΓ.symm
  clear hΓ
  cases f1 with
  | false =>
    refine m_run ?_
    (apply TL.callV; exact rfl; exact callB_of (by kernel_rfl); exact rfl; exact fun _ h => h)
    exact works4_t _
    rintro _ _ ⟨rfl, rfl⟩
    refine m_run ?_
    (apply TK.ret1; exact rfl; (exact m_val))
    exact ⟨_, rfl, rfl, rfl⟩
  | true =>
  refine m_run ?_
  (apply TL.callV; exact rfl; exact callB_of (by kernel_rfl); exact rfl; exact fun _ h => h)
  exact few4_t A2 c2 L2 _ h2
  rintro _ _ ⟨f2, rfl, hΓ, hf2⟩
  obtain rfl := hΓ.symm
  clear hΓ
  cases f2 with
  | false =>
    refine m_run ?_
    (apply TL.callV; exact rfl; exact callB_of (by kernel_rfl); exact rfl; exact fun _ h => h)
    exact works4_t _
    rintro _ _ ⟨rfl, rfl⟩
    refine m_run ?_
    (apply TK.ret1; exact rfl; (exact m_val))
    exact ⟨_, rfl, rfl, rfl⟩
  | true =>
  obtain ⟨hl0, hk0⟩ := hf0 rfl
  obtain ⟨hl1, hk1⟩ := hf1 rfl
  obtain ⟨hl2, hk2⟩ := hf2 rfl
  clear hf0 hf1 hf2
  refine m_run ?_
  (apply TL.buildSlice; exact rfl; exact tb rfl; exact rfl; exact tb rfl; exact rfl; exact rfl; exact rfl; exact rfl; (exact m_lst))
  intro b8
  refine m_run ?_
  (apply TL.appendE 0; exact rfl; exact rfl; exact tb rfl; exact rfl; exact tb rfl; exact rfl; exact rfl; exact rfl)
  exact fun m hm => own_row (n := 0) rfl (by decide) hm
  exact rfl
  exact m_hsrc
  exact strs_one _
  · exact Nat.le_trans (Nat.mul_le_mul_right _ (by omega : 0 + L0.length ≤ 300)) (by decide)
  · unfold maxLen; omega
  · exact Nat.zero_add _
  · exact List.nil_append _
  exact fun _ => (rfl : _ = _ :: _)
  intro A5 c5 hc5
  refine m_run ?_
  apply cutAny (fun ρ' Γ' => ∃ M bt mb rt v w, M.length ≤ 4096 ∧ M.Nodup ∧ lk ρ' 1 = .slice A1 L1.length c1 ∧ lk ρ' 2 = .slice A2 L2.length c2 ∧ lk ρ' 7 = .pointer (some ⟨bt, 0, none⟩) ∧ lk ρ' 9 = .pointer (some ⟨rt, 0, none⟩) ∧ lk ρ' 11 = .int .i64 0 ∧ Γ' = tabAt bt mb v M (refAt rt w M Γ))
  · intro H
    (apply TL.callV; exact rfl; exact callB_of (by kernel_rfl); exact rfl; exact fun _ h => h)
    exact of_t A5 c5 L0 _ (has_at (up_src _ _ _ _) 0 rfl fun _ h => own_src h) (by omega) (fun k hk => Nat.le_trans (hk0 k hk) (by omega))
    rintro _ _ (⟨M, bt, mb, v, hof, rfl, rfl⟩ | ⟨e, he, hof, rfl, rfl⟩)
    · have hML := ofM_len L0 [] M (by simp) (by rw [hof])
      have hMn := ofM_nodup L0 [] M (by simp) (by rw [hof])
      refine m_run ?_
      (apply TL.callV; exact rfl; exact callB_of (by kernel_rfl); exact rfl; exact fun _ h => h)
      exact refof_t A0 c0 L0 _ (by exact m_hsrc) (by omega) (fun k hk => Nat.le_trans (hk0 k hk) (by omega))
      rintro _ _ (⟨M', rt, w, hof', rfl, rfl⟩ | ⟨e, he, hof', rfl, rfl⟩)
      · rw [hof] at hof'
        injection hof' with hof' _
        injection hof' with hof'
        subst hof'
        refine m_run ?_
        refine TK.sub (Δ := refAt rt w M (tabAt bt mb v M Γ)) (by (repeat (first | exact List.Sublist.refl _ | apply List.Sublist.cons_cons | apply List.Sublist.cons))) ?_
        refine TK.perm (perm23 _ _ _ _ _ _) ?_
        exact H _ _ ⟨M, bt, mb, rt, v, w, hML, hMn, rfl, rfl, rfl, rfl, rfl, rfl⟩
      · rw [hof] at hof'
        injection hof' with hof' _
        cases hof'
    · refine m_run ?_
      (apply TL.callV; exact rfl; exact callB_of (by kernel_rfl); exact rfl; exact fun _ h => h)
      exact refof_t A0 c0 L0 _ (by exact m_hsrc) (by omega) (fun k hk => Nat.le_trans (hk0 k hk) (by omega))
      rintro _ _ (⟨M', rt, w, hof', rfl, rfl⟩ | ⟨e', he', hof', rfl, rfl⟩)
      · rw [hof] at hof'
        injection hof' with hof' _
        cases hof'
      · rw [hof] at hof'
        injection hof' with _ hof'
        subst hof'
        refine m_run ?_
        (apply TL.callV; exact rfl; exact callB_of (by kernel_rfl); exact rfl; exact fun _ h => h)
        exact new_tab _
        rintro _ _ ⟨bt, mb, rfl, rfl⟩
        refine m_run ?_
        refine TL.free (H := own 9 1 (.slice none 0 0) 0 []) (fun m hm => own_nil _ _ hm) ?_
        (apply TL.build tabs; exact rfl; exact rfl; exact rfl; exact rfl; exact rfl; exact rfl; (exact m_lst))
        refine m_run ?_
        (apply TL.box; exact rfl; exact rfl; (exact m_lst))
        intro rt
        refine m_run ?_
        refine TK.sub (Δ := refAt rt (.slice none 0 0) [] (tabAt bt mb (.slice none 0 0) [] Γ)) (by (repeat (first | exact List.Sublist.refl _ | apply List.Sublist.cons_cons | apply List.Sublist.cons))) ?_
        refine TK.perm (perm23 _ _ _ _ _ _) ?_
        exact H _ _ ⟨[], bt, mb, rt, _, _, by simp, by simp, rfl, rfl, rfl, rfl, rfl, rfl⟩
  · rintro ρ' Γ' ⟨M, bt, mb, rt, v, w, hML, hMn, e1, e2, e7, e9, e11, rfl⟩
    apply TK.iter (fun j ρ' Γ' => ∃ (i : Nat) (M : List (List UInt8)) (v w : Value), i + j = L1.length ∧ M.length ≤ 4096 ∧ M.Nodup ∧ lk ρ' 1 = .slice A1 L1.length c1 ∧ lk ρ' 2 = .slice A2 L2.length c2 ∧ lk ρ' 7 = .pointer (some ⟨bt, 0, none⟩) ∧ lk ρ' 9 = .pointer (some ⟨rt, 0, none⟩) ∧ lk ρ' 11 = .int .i64 i ∧ Γ' = tabAt bt mb v M (refAt rt w M Γ)) L1.length
    · exact ⟨0, M, v, w, by omega, hML, hMn, e1, e2, e7, e9, e11, rfl⟩
    clear hML hMn e1 e2 e7 e9 e11 v w M
    rintro j IH ρ' Γ' ⟨i, M, v, w, hij, hML, hMn, e1, e2, e7, e9, e11, rfl⟩
    refine TK.know5 e1 e2 e7 e9 e11 ?_
    by_cases hi : i < L1.length
    · have hx : L1[i]? = some L1[i] := by simp [hi]
      have hxm : L1[i] ∈ L1 := by simp
      generalize L1[i] = x at hx hxm
      have hx200 := hk1 x hxm
      refine TK.fact (fun m hm => src_some1 ((has_tls (has_tls (has_tls (has_tls (has_tls h1)))) : has (tabAt bt mb v M (refAt rt w M Γ)) _) m hm) (by rw [strs_length]; omega)) ?_
      rintro ⟨b1, o1, rfl⟩
      have hc := has_str h1 hx
      refine m_run ?_
      (apply TL.callV; exact rfl; exact callB_of (by kernel_rfl); exact rfl; exact fun _ h => h)
      exact put_tab bt mb v M x (refAt rt w M Γ) (by omega) hML
      rintro _ _ ⟨v', rfl, rfl⟩
      refine m_run ?_
      refine TL.perm (perm32 _ _ _ _ _ _) ?_
      (apply TL.callV; exact rfl; exact callB_of (by kernel_rfl); exact rfl; exact fun _ h => h)
      exact refput_t rt w M x (tabAt bt mb v' (putM M x).2.2 Γ) (by omega) hML
      rintro _ _ ⟨w', rfl, rfl⟩
      refine TL.perm (perm23 _ _ _ _ _ _) ?_
      have hML' := putM_len (k := x) hML
      have hMn' := putM_nodup (k := x) hMn
      generalize putM M x = r at hML' hMn'
      obtain ⟨rn, re, M'⟩ := r
      refine m_run ?_
      refine TK.drawS mixed ?_
      refine m_take (At.mk : At 0) ?_; refine m_take (At.mk : At 1) ?_; refine m_take (At.mk : At 2) ?_; refine m_take (At.mk : At 3) ?_
      refine TA.isF 86 rfl (by simp) ?_
      refine m_take (At.mk : At 4) ?_; refine m_take (At.mk : At 5) ?_; refine m_take (At.mk : At 6) ?_; refine m_take (At.mk : At 7) ?_; refine m_take (At.mk : At 8) ?_
      refine TA.isF 91 rfl (by simp) ?_
      refine m_take (At.mk : At 9) ?_; refine m_take (At.mk : At 10) ?_; refine m_take (At.mk : At 11) ?_; refine m_take (At.mk : At 12) ?_; refine m_take (At.mk : At 14) ?_; refine m_take (At.mk : At 15) ?_; refine m_take (At.mk : At 16) ?_; refine m_take (At.mk : At 17) ?_
      (apply TA.one 13; kernel_rfl; exact rfl)
      refine TL.guard_yes rfl rfl rfl rfl ?_
      (apply TL.callV; exact rfl; exact callB_of (by kernel_rfl); exact rfl; exact fun _ h => h)
      exact may_t x _ (by omega)
      rintro _ _ ⟨rfl, rfl⟩
      refine TL.back (by (focus ((repeat (first | assumption | exact Ent.refl _ | apply Ent.tail)); done))) ?_
      (apply TA.one 18; kernel_rfl; exact rfl)
      refine TL.guard_yes rfl rfl rfl rfl ?_
      (apply TL.callV; exact rfl; exact callB_of (by kernel_rfl); exact rfl; exact fun _ h => h)
      exact refmay_t x _ (by omega)
      rintro _ _ ⟨rfl, rfl⟩
      refine TL.back (by (focus ((repeat (first | assumption | exact Ent.refl _ | apply Ent.tail)); done))) ?_
      refine m_take (At.mk : At 19) ?_; refine m_take (At.mk : At 20) ?_
      refine TA.done (by kernel_rfl) ?_
      refine TK.condF (t := (mayB x != mayB x)) rfl (by simp) ?_
      refine m_run ?_
      refine IH (j - 1) _ _ (by omega) ⟨i + 1, M', v', w', by omega, hML', hMn', rfl, rfl, rfl, rfl, congrArg (Value.int .i64) (i64_succ i (by omega)), rfl⟩
    · refine m_run ?_
      (apply TL.callV; exact rfl; exact callB_of (by kernel_rfl); exact rfl; exact fun _ h => h)
      exact list_at bt mb v M (refAt rt w M Γ) (by omega)
      rintro _ _ ⟨A', c', hc', rfl, rfl⟩
      refine m_run ?_
      apply TK.iter (fun j ρ' Γ' => ∃ (q : Nat) (cs : List Value), q + j = M.length ∧ lk ρ' 2 = .slice A2 L2.length c2 ∧ lk ρ' 7 = .pointer (some ⟨bt, 0, none⟩) ∧ lk ρ' 9 = .pointer (some ⟨rt, 0, none⟩) ∧ lk ρ' 16 = .slice A' M.length c' ∧ lk ρ' 17 = .int .i64 q ∧ Γ' = own 9 1 (.slice A' M.length c') M.length cs :: tabAt bt mb v M (refAt rt w M Γ)) M.length
      · exact ⟨0, strs M, by omega, rfl, rfl, rfl, rfl, rfl, rfl⟩
      rintro j2 IH2 ρ2 Γ2 ⟨q, cs, hqj, e2, e7, e9, e16, e17, rfl⟩
      refine TK.know5 e2 e7 e9 e16 e17 ?_
      by_cases hq : q < M.length
      · refine TK.fact (all_at 0 rfl fun _ h => own_some1 h (by omega)) ?_
        rintro ⟨g, rfl⟩
        refine m_run ?_
        (apply TL.storeOwn 0 q; exact rfl; exact rfl; (exact m_val); exact rfl; exact tb rfl; exact rfl; exact (Nat.zero_add _).symm)
        · exact hq
        refine m_run ?_
        refine IH2 (j2 - 1) _ _ (by omega) ⟨q + 1, _, by omega, rfl, rfl, rfl, rfl, congrArg (Value.int .i64) (i64_succ q (by omega)), rfl⟩
      · refine m_run ?_
        refine TL.sub (Δ := tabAt bt mb v M (refAt rt w M Γ)) (by (repeat (first | exact List.Sublist.refl _ | apply List.Sublist.cons_cons | apply List.Sublist.cons))) ?_
        (apply TL.callV; exact rfl; exact callB_of (by kernel_rfl); exact rfl; exact fun _ h => h)
        exact alike_t bt mb rt v w M A2 c2 L2 Γ hML hMn h2 (by omega)
        rintro _ _ ⟨rfl, rfl⟩
        refine m_run ?_
        (apply TL.callV; exact rfl; exact callB_of (by kernel_rfl); exact rfl; exact fun _ h => h)
        exact works4_t _
        rintro _ _ ⟨rfl, rfl⟩
        refine m_run ?_
        (apply TK.retS1; exact rfl; (exact m_val))
        · exact ⟨_, rfl, rfl, rfl⟩
        · (repeat (first | exact List.Sublist.refl _ | apply List.Sublist.cons_cons | apply List.Sublist.cons))
end Go.Proofs.Ytoccilnobgoncaa.E
