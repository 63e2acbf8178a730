/- The document's Join, same, LexWords: walked. -/
import Derived.Test.YtebeckkkckijeaaDoorV6
namespace Go.Proofs.YtebeckkkckijeaaDoor.E
open Go Go.RowKit Go.Proofs
attribute [local irreducible] TK TL TQ TA Fn PV
theorem joinL_snoc : ∀ (l : List Wrd) (w : Wrd), joinL (l ++ [w]) = if l = [] then w.text else joinL l ++ 32 :: w.text
  | [], w => rfl
  | [v], w => rfl
  | v :: u :: l, w => by
    have ih := joinL_snoc (u :: l) w
    rw [if_neg (by simp)] at ih ⊢
    show v.text ++ 32 :: joinL ((u :: l) ++ [w]) = (v.text ++ 32 :: joinL (u :: l)) ++ 32 :: w.text
    rw [ih]; simp
theorem joinL_le : ∀ (l r : List Wrd), (joinL l).length ≤ (joinL (l ++ r)).length
  | [], _ => Nat.zero_le _
  | [v], r => by
    cases r with
    | nil => exact Nat.le_refl _
    | cons u r =>
      show v.text.length ≤ (v.text ++ 32 :: joinL (u :: r)).length
      rw [List.length_append]; omega
  | v :: u :: l, r => by
    have ih := joinL_le (u :: l) r
    show (v.text ++ 32 :: joinL (u :: l)).length ≤ (v.text ++ 32 :: joinL (u :: l ++ r)).length
    simp only [List.length_append, List.length_cons] at *
    omega
theorem joinL_take (l : List Wrd) (i : Nat) : (joinL (l.take i)).length ≤ (joinL l).length := by
  have := joinL_le (l.take i) (l.drop i)
  rwa [List.take_append_drop] at this
set_option maxRecDepth 100000 in
set_option maxHeartbeats 2000000 in
theorem rjoin_t (A : Option Addr) (c : Nat) (l : List Wrd) (Γ : List HP) (hs : has Γ (srcAt 3 A l.length (wcells l))) (hn : l.length ≤ 100000) (hj : (joinL l).length ≤ 10000000) :
    FnV Tryd.prog 13 [.slice A l.length c] Γ fun v Γ' => v = .string (S (joinL l)) ∧ Γ' = Γ := by
  refine Fn.enter Tryd.func13 rfl rfl rfl fun E => ?_
  refine m_run ?_
  apply TK.iter (fun j ρ' Γ' => ∃ i : Nat, i + j = l.length ∧ lk ρ' 0 = .slice A l.length c ∧ lk ρ' 3 = .string (S (joinL (l.take i))) ∧ lk ρ' 4 = .int .i64 (i : Int) ∧ Γ' = Γ) l.length
  · exact ⟨0, Nat.zero_add _, rfl, rfl, rfl, rfl⟩
  rintro j IH ρ' Γ ⟨i, hij, e0, e3, e4, rfl⟩
  refine TK.know3 e0 e3 e4 ?_
  by_cases hi : i < l.length
  · obtain ⟨w, hw⟩ : ∃ w, l[i]? = some w := ⟨l[i], by simp [hi]⟩
    refine TK.mem fun m0 hm0 => ?_
    obtain ⟨b, o, rfl⟩ := src_some (hs m0 hm0) (by rw [wcells_len]; omega)
    clear hm0 m0
    obtain ⟨_, h2, _⟩ := has_wd hs hw
    have hst := joinL_snoc (l.take i) w
    have hti : l.take i ++ [w] = l.take (i + 1) := by rw [List.take_add_one, hw]; rfl
    rw [hti] at hst
    have hb1 := joinL_take l (i + 1)
    have hb2 := joinL_take l i
    by_cases h0 : i = 0
    · subst h0
      rw [List.take_zero, if_pos rfl] at hst
      rw [hst] at hb1
      rw [List.take_zero]
      refine m_run ?_
      (apply TL.pv; exact rfl; (apply PV.catS (a := []) (b := w.text); exact rfl; exact rfl; exact (by (try simp only [List.length_append, List.length_cons, List.length_nil]); omega)))
      rw [List.nil_append, ← hst]
      refine m_run ?_
      exact IH (j - 1) _ _ (by omega) ⟨1, by omega, rfl, rfl, rfl, rfl⟩
    · rw [if_neg (fun e => by have h := congrArg List.length e; rw [List.length_take, List.length_nil] at h; omega)] at hst
      rw [hst, List.length_append, List.length_cons] at hb1
      refine m_run ?_
      (apply TL.pv; exact rfl; (apply PV.catS (a := joinL (l.take i)) (b := [32]); exact rfl; exact rfl; exact (by (try simp only [List.length_append, List.length_cons, List.length_nil]); omega)))
      refine m_run ?_
      (apply TL.pv; exact rfl; (apply PV.catS (a := joinL (l.take i) ++ [32]) (b := w.text); exact rfl; exact rfl; exact (by (try simp only [List.length_append, List.length_cons, List.length_nil]); omega)))
      rw [List.append_assoc, show [32] ++ w.text = 32 :: w.text from rfl, ← hst]
      refine m_run ?_
      exact IH (j - 1) _ _ (by omega) ⟨i + 1, by omega, rfl, rfl, congrArg (Value.int .i64) (i64_succ i (by omega)), rfl⟩
  obtain rfl : i = l.length := by omega
  rw [List.take_length]
  refine m_run ?_
  (apply TK.ret1; exact rfl; exact rfl; (exact m_val))
  exact ⟨_, rfl, rfl, rfl⟩
set_option maxRecDepth 100000 in
set_option maxHeartbeats 2000000 in
theorem same7_t (A B : Option Addr) (c d : Nat) (l : List Wrd) (Γ : List HP) (hs : has Γ (srcAt 3 A l.length (wcells l))) (ht : has Γ (srcAt 3 B l.length (wcells l))) (hn : l.length ≤ 100000) :
    FnV Tryd.prog 11 [.slice A l.length c, .slice B l.length d, .bool true] Γ fun v Γ' => v = .bool true ∧ Γ' = Γ := by
  refine Fn.enter Tryd.func11 rfl rfl rfl fun E => ?_
  refine m_run ?_
  apply TK.iter (fun j ρ' Γ' => ∃ i : Nat, i + j = l.length ∧ lk ρ' 0 = .slice A l.length c ∧ lk ρ' 1 = .slice B l.length d ∧ lk ρ' 2 = .bool true ∧ lk ρ' 7 = .int .i64 (i : Int) ∧ Γ' = Γ) l.length
  · exact ⟨0, Nat.zero_add _, rfl, rfl, rfl, rfl, rfl⟩
  rintro j IH ρ' Γ ⟨i, hij, e0, e1, e2, e7, rfl⟩
  refine TK.know4 e0 e1 e2 e7 ?_
  by_cases hi : i < l.length
  · obtain ⟨w, hw⟩ : ∃ w, l[i]? = some w := ⟨l[i], by simp [hi]⟩
    refine TK.mem fun m0 hm0 => ?_
    obtain ⟨b, o, rfl⟩ := src_some (hs m0 hm0) (by rw [wcells_len]; omega)
    obtain ⟨b', o', rfl⟩ := src_some (ht m0 hm0) (by rw [wcells_len]; omega)
    clear hm0 m0
    obtain ⟨h1, h2, h3⟩ := has_wd hs hw
    obtain ⟨g1, g2, g3⟩ := has_wd ht hw
    refine m_run ?_
    refine TK.drawS mixed rfl ?_
    refine m_take (At.mk : At 0) ?_; refine m_take (At.mk : At 1) ?_; refine m_take (At.mk : At 2) ?_; refine m_take (At.mk : At 3) ?_; refine m_take (At.mk : At 4) ?_; refine m_take (At.mk : At 5) ?_; refine m_take (At.mk : At 6) ?_; refine m_take (At.mk : At 7) ?_; refine m_take (At.mk : At 8) ?_; refine m_take (At.mk : At 9) ?_; refine m_take (At.mk : At 10) ?_
    refine TA.isF 29 rfl (bne_self_eq_false ..) ?_
    refine m_take (At.mk : At 11) ?_; refine m_take (At.mk : At 12) ?_; refine m_take (At.mk : At 13) ?_; refine m_take (At.mk : At 14) ?_; refine m_take (At.mk : At 15) ?_; refine m_take (At.mk : At 16) ?_; refine m_take (At.mk : At 17) ?_; refine m_take (At.mk : At 18) ?_; refine m_take (At.mk : At 19) ?_; refine m_take (At.mk : At 20) ?_; refine m_take (At.mk : At 21) ?_; refine m_take (At.mk : At 22) ?_
    refine TA.isF 41 rfl (by simp) ?_
    refine m_take (At.mk : At 23) ?_; refine m_take (At.mk : At 24) ?_; refine m_take (At.mk : At 25) ?_; refine m_take (At.mk : At 26) ?_; refine m_take (At.mk : At 27) ?_; refine m_take (At.mk : At 28) ?_; refine m_take (At.mk : At 29) ?_; refine m_take (At.mk : At 30) ?_; refine m_take (At.mk : At 31) ?_; refine m_take (At.mk : At 32) ?_; refine m_take (At.mk : At 33) ?_; refine m_take (At.mk : At 34) ?_; refine m_take (At.mk : At 35) ?_; refine m_take (At.mk : At 36) ?_; refine m_take (At.mk : At 37) ?_
    refine TA.isF 56 rfl (bne_self_eq_false ..) ?_
    refine m_take (At.mk : At 38) ?_; refine m_take (At.mk : At 39) ?_
    refine TA.done (by kernel_rfl) ?_
    refine m_run ?_
    exact IH (j - 1) _ _ (by omega) ⟨i + 1, by omega, rfl, rfl, rfl, congrArg (Value.int .i64) (i64_succ i (by omega)), rfl⟩
  obtain rfl : i = l.length := by omega
  refine m_run ?_
  (apply TK.ret1; exact rfl; exact rfl; (exact m_val))
  exact ⟨_, rfl, rfl, rfl⟩
set_option maxRecDepth 100000 in
set_option maxHeartbeats 2000000 in
theorem lexwords_t (text : List UInt8) (Γ : List HP) (hM : gMeans Γ) (hK : gMarks Γ) :
    FnV Tryd.prog 3 [.string (S text)] Γ fun v Γ' => v = .bool true ∧ Γ' = Γ := by
  refine Fn.enter Tryd.func3 rfl rfl rfl fun E => ?_
  by_cases vt : 4096 < text.length
  · refine m_run ?_
    (apply TL.callV; exact rfl; exact callB_of (by kernel_rfl); exact rfl; exact fun _ h => h)
    exact works7_t _ hM hK
    rintro _ _ ⟨rfl, rfl⟩
    refine m_run ?_
    (apply TK.ret1; exact rfl; exact rfl; (exact m_val))
    exact ⟨_, rfl, rfl, rfl⟩
  refine m_run ?_
  cases hx : lexA 0 text with
  | error e =>
    have hr := rwords_t text Γ (by omega)
    rw [hx] at hr
    (apply TL.callV; exact rfl; exact callB_of (by kernel_rfl); exact rfl; exact fun _ h => h)
    exact words_er hx _ (by omega) hM hK
    rintro _ _ ⟨rfl, rfl⟩
    refine m_run ?_
    (apply TL.callV; exact rfl; exact callB_of (by kernel_rfl); exact rfl; exact fun _ h => h)
    exact hr
    rintro _ _ ⟨rfl, rfl⟩
    refine m_run ?_
    (apply TL.callV; exact rfl; exact callB_of (by kernel_rfl); exact rfl; exact fun _ h => h)
    exact same7_t none none 0 0 [] _ (has_srcnil _ _) (has_srcnil _ _) (Nat.zero_le _)
    rintro _ _ ⟨rfl, rfl⟩
    refine m_run ?_
    (apply TL.callV; exact rfl; exact callB_of (by kernel_rfl); exact rfl; exact fun _ h => h)
    exact ljoin_t none 0 [] _ (has_srcnil _ _) (Nat.zero_le _) (Nat.zero_le _)
    rintro _ _ ⟨rfl, rfl⟩
    refine m_run ?_
    (apply TL.callV; exact rfl; exact callB_of (by kernel_rfl); exact rfl; exact fun _ h => h)
    exact rjoin_t none 0 [] _ (has_srcnil _ _) (Nat.zero_le _) (Nat.zero_le _)
    rintro _ _ ⟨rfl, rfl⟩
    refine m_run ?_
    (apply TL.callV; exact rfl; exact callB_of (by kernel_rfl); exact rfl; exact fun _ h => h)
    exact works7_t _ hM hK
    rintro _ _ ⟨rfl, rfl⟩
    refine m_run ?_
    (apply TK.ret1; exact rfl; exact rfl; (exact m_val))
    exact ⟨_, rfl, rfl, rfl⟩
  | ok l =>
    have hr := fun Γ' => rwords_t text Γ' (by omega)
    rw [hx] at hr
    have hjl := words_join hx
    have hll := words_len hx
    (apply TL.callV; exact rfl; exact callB_of (by kernel_rfl); exact rfl; exact fun _ h => h)
    exact words_ok hx _ (by omega) hM hK
    rintro _ _ ⟨A1, c1, hc1, rfl, rfl⟩
    refine m_run ?_
    (apply TL.callV; exact rfl; exact callB_of (by kernel_rfl); exact rfl; exact fun _ h => h)
    exact hr _
    rintro _ _ ⟨A2, c2, hc2, rfl, rfl⟩
    have hs1 : has (ownR (.slice A2 l.length c2) l :: ownW (.slice A1 l.length c1) l :: Γ) (srcAt 3 A1 l.length (wcells l)) := has_at (up_src _ _ _ _) 1 rfl fun _ h => own_src h
    have hs2 : has (ownR (.slice A2 l.length c2) l :: ownW (.slice A1 l.length c1) l :: Γ) (srcAt 3 A2 l.length (wcells l)) := has_at (up_src _ _ _ _) 0 rfl fun _ h => own_src h
    refine m_run ?_
    (apply TL.callV; exact rfl; exact callB_of (by kernel_rfl); exact rfl; exact fun _ h => h)
    exact same7_t A1 A2 c1 c2 l _ hs1 hs2 (by omega)
    rintro _ _ ⟨rfl, rfl⟩
    refine m_run ?_
    (apply TL.callV; exact rfl; exact callB_of (by kernel_rfl); exact rfl; exact fun _ h => h)
    exact ljoin_t A1 c1 l _ hs1 (by omega) (by omega)
    rintro _ _ ⟨rfl, rfl⟩
    refine m_run ?_
    (apply TL.callV; exact rfl; exact callB_of (by kernel_rfl); exact rfl; exact fun _ h => h)
    exact rjoin_t A2 c2 l _ hs2 (by omega) (by omega)
    rintro _ _ ⟨rfl, rfl⟩
    refine m_run ?_
    (apply TL.callV; exact rfl; exact callB_of (by kernel_rfl); exact rfl; exact fun _ h => h)
    exact works7_t _ (gMeans_tail (gMeans_tail hM)) (gMarks_tail (gMarks_tail hK))
    rintro _ _ ⟨rfl, rfl⟩
    refine m_run ?_
    (apply TK.retS1; exact rfl; exact rfl; (exact m_val))
    · exact ⟨_, rfl, rfl, rfl⟩
    · (repeat (first | exact List.Sublist.refl _ | apply List.Sublist.cons_cons | apply List.Sublist.cons))
end Go.Proofs.YtebeckkkckijeaaDoor.E
