/- Numbers compared; insertion sort. -/
import Derived.Test.YtokggdgagfmacaaB3
import Derived.Test.YtokggdgagfmacaaSi
namespace Go.Proofs.Ytokggdgagfmacaa.E
open Go Go.RowKit Go.Proofs
def u32s (l : List Nat) : List Value := l.map fun n : Nat => Value.int .u32 (n : Int)
theorem u32s_len (l : List Nat) : (u32s l).length = l.length := List.length_map ..
theorem u32s_one (l : List Nat) : ∀ u ∈ u32s l, u.oneCell' = true := by
  intro u hu
  obtain ⟨n, _, rfl⟩ := List.mem_map.1 hu
  rfl
theorem has_u32 {Γ : List HP} {b o n i x : Nat} {l : List Nat} (h : has Γ (srcAt 1 (some ⟨b, o, none⟩) n (u32s l))) (hi : l[i]? = some x) : has Γ (fun m => cellAt m b (o + i) (.int .u32 (x : Int))) := fun m hm => by
  obtain ⟨_, h2⟩ := h m hm
  have hg : (u32s l)[i]? = some (.int .u32 (x : Int)) := by rw [u32s, List.getElem?_map, hi]; rfl
  rcases h2 with h2 | ⟨b', o', e, h2⟩
  · rw [h2] at hg; simp at hg
  · injection e with e
    injection e with e1 e2 _
    subst e1; subst e2
    exact h2 _ _ hg
attribute [local irreducible] TK TL TQ TA Fn PV
abbrev ownU (A : Option Addr) (c : Nat) (l : List Nat) : HP := own 23 1 (.slice A l.length c) l.length (u32s l)
def cmpI (a b : Int) : Int := if a < b then -1 else if b < a then 1 else 0
theorem nanU_t (x : Int) (Γ : List HP) : FnV Try.prog 121 [.int .u32 x] Γ fun v Γ' => v = .bool false ∧ Γ' = Γ := by
  refine Fn.enter Try.func121 rfl rfl rfl fun E => ?_
  refine m_run ?_
  (apply TK.ret1; exact rfl; exact rfl; exact rfl)
  exact ⟨_, rfl, congrArg Value.bool (by simp), rfl⟩
theorem nanI_t (x : Int) (Γ : List HP) : FnV Try.prog 122 [.int .i64 x] Γ fun v Γ' => v = .bool false ∧ Γ' = Γ := by
  refine Fn.enter Try.func122 rfl rfl rfl fun E => ?_
  refine m_run ?_
  (apply TK.ret1; exact rfl; exact rfl; exact rfl)
  exact ⟨_, rfl, congrArg Value.bool (by simp), rfl⟩
theorem cmpU_t (x y : Int) (Γ : List HP) : FnV Try.prog 98 [.int .u32 x, .int .u32 y] Γ fun v Γ' => v = .int .i64 (cmpI x y) ∧ Γ' = Γ := by
  refine Fn.enter Try.func98 rfl rfl rfl fun E => ?_
  refine m_run ?_
  (apply TL.callV; exact rfl; exact callB_of (by kernel_rfl); exact rfl; exact fun _ h => h)
  exact nanU_t x Γ
  rintro _ Γ ⟨rfl, rfl⟩
  refine m_run ?_
  (apply TL.callV; exact rfl; exact callB_of (by kernel_rfl); exact rfl; exact fun _ h => h)
  exact nanU_t y Γ
  rintro _ Γ ⟨rfl, rfl⟩
  unfold cmpI
  by_cases h1 : x < y
  · rw [if_pos h1]
    refine m_run ?_
    (apply TK.ret1; exact rfl; exact rfl; (exact m_val))
    exact ⟨_, rfl, rfl, rfl⟩
  · rw [if_neg h1]
    by_cases h2 : y < x
    · rw [if_pos h2]
      refine m_run ?_
      (apply TK.ret1; exact rfl; exact rfl; (exact m_val))
      exact ⟨_, rfl, rfl, rfl⟩
    · rw [if_neg h2]
      refine m_run ?_
      (apply TK.ret1; exact rfl; exact rfl; (exact m_val))
      exact ⟨_, rfl, rfl, rfl⟩
theorem cmpInt_t (x y : Int) (Γ : List HP) : FnV Try.prog 99 [.int .i64 x, .int .i64 y] Γ fun v Γ' => v = .int .i64 (cmpI x y) ∧ Γ' = Γ := by
  refine Fn.enter Try.func99 rfl rfl rfl fun E => ?_
  refine m_run ?_
  (apply TL.callV; exact rfl; exact callB_of (by kernel_rfl); exact rfl; exact fun _ h => h)
  exact nanI_t x Γ
  rintro _ Γ ⟨rfl, rfl⟩
  refine m_run ?_
  (apply TL.callV; exact rfl; exact callB_of (by kernel_rfl); exact rfl; exact fun _ h => h)
  exact nanI_t y Γ
  rintro _ Γ ⟨rfl, rfl⟩
  unfold cmpI
  by_cases h1 : x < y
  · rw [if_pos h1]
    refine m_run ?_
    (apply TK.ret1; exact rfl; exact rfl; (exact m_val))
    exact ⟨_, rfl, rfl, rfl⟩
  · rw [if_neg h1]
    by_cases h2 : y < x
    · rw [if_pos h2]
      refine m_run ?_
      (apply TK.ret1; exact rfl; exact rfl; (exact m_val))
      exact ⟨_, rfl, rfl, rfl⟩
    · rw [if_neg h2]
      refine m_run ?_
      (apply TK.ret1; exact rfl; exact rfl; (exact m_val))
      exact ⟨_, rfl, rfl, rfl⟩
theorem less_t (x y : Int) (Γ : List HP) : FnV Try.prog 136 [.int .u32 x, .int .u32 y] Γ fun v Γ' => v = .bool (decide (x < y)) ∧ Γ' = Γ := by
  refine Fn.enter Try.func136 rfl rfl rfl fun E => ?_
  refine m_run ?_
  (apply TL.callV; exact rfl; exact callB_of (by kernel_rfl); exact rfl; exact fun _ h => h)
  exact nanU_t x Γ
  rintro _ Γ ⟨rfl, rfl⟩
  refine m_run ?_
  (apply TK.ret1; exact rfl; exact rfl; exact rfl)
  exact ⟨_, rfl, rfl, rfl⟩
/-! ### insertion sort -/
theorem own_addr {e sz n c : Nat} {A : Option Addr} {cs : List Value} {Γ : List HP} {m : Mem} (hm : all (own e sz (.slice A n c) n cs :: Γ) m) (h0 : 0 < n) : ∃ b, A = some ⟨b, 0, none⟩ := by
  obtain ⟨m1, m2, _, _, h1, _⟩ := hm
  obtain ⟨_, ⟨_, h, _⟩ | ⟨g, cap, cur, hv, _⟩⟩ := h1
  · omega
  · injection hv with hv _ _
    exact ⟨g, hv⟩
theorem u32s_set (l : List Nat) (i x : Nat) : (u32s l).set i (.int .u32 (x : Int)) = u32s (l.set i x) := by
  unfold u32s
  rw [List.map_set]
theorem swap_at (Q S : List Nat) (x y k : Nat) (hQ : Q.length = k) : ((Q ++ y :: x :: S).set (k + 1) y).set k x = Q ++ x :: y :: S := by
  rw [List.set_append_right _ _ (by omega), hQ, List.set_append_right _ _ (by omega), hQ]
  simp
theorem ins_mid {α : Type} (P R : List α) (x : α) (j : Nat) (hj : j ≤ P.length) : (P.take j ++ x :: (P.drop j ++ R)).length = P.length + 1 + R.length := by simp; omega
set_option maxRecDepth 100000 in
set_option maxHeartbeats 2000000 in
theorem insSort_t (A : Option Addr) (c : Nat) (D : List Nat) (Γ : List HP) (hn : D.length ≤ 1000000) :
    FnV Try.prog 130 [.slice A D.length c, .int .i64 0, .int .i64 (D.length : Int)] (own 23 1 (.slice A D.length c) D.length (u32s D) :: Γ)
      fun v Γ' => v = .tuple #[] ∧ ∃ D', D'.Perm D ∧ D'.Pairwise (· ≤ ·) ∧ Γ' = own 23 1 (.slice A D.length c) D.length (u32s D') :: Γ := by
  refine Fn.enter Try.func130 rfl rfl rfl fun E => ?_
  refine m_run ?_
  apply TK.iter (fun j ρ' Γ' => ∃ (i : Nat) (P : List Nat), i + j = D.length + 1 ∧ 1 ≤ i ∧ P.length = min i D.length ∧ P.Perm (D.take i) ∧ P.Pairwise (· ≤ ·) ∧ lk ρ' 0 = .slice A D.length c ∧ lk ρ' 1 = .int .i64 0 ∧ lk ρ' 2 = .int .i64 (D.length : Int) ∧ lk ρ' 6 = .int .i64 (i : Int) ∧ Γ' = own 23 1 (.slice A D.length c) D.length (u32s (P ++ D.drop i)) :: Γ) D.length
  · exact ⟨1, D.take 1, by omega, Nat.le_refl _, by simp, List.Perm.refl _, by cases D <;> simp, rfl, rfl, rfl, rfl, by rw [List.take_append_drop]⟩
  rintro j IH ρ' _ ⟨i, P, hij, hi1, hPl, hPp, hPs, e0, e1, e2, e6, rfl⟩
  refine TK.know4 e0 e1 e2 e6 ?_
  by_cases hi : i < D.length
  · obtain ⟨x, hx⟩ : ∃ x, D[i]? = some x := ⟨D[i], List.getElem?_eq_getElem hi⟩
    have hPi : P.length = i := by omega
    have hdr : D.drop i = x :: D.drop (i + 1) := by
      rw [List.drop_eq_getElem_cons hi, show D[i] = x from Option.some.inj ((List.getElem?_eq_getElem hi).symm.trans hx)]
    refine m_run ?_
    apply TK.iter (fun j ρ' Γ' => ∃ (k : Nat), k + 0 = j ∧ k ≤ i ∧ (∀ y ∈ P.drop k, x < y) ∧ lk ρ' 0 = .slice A D.length c ∧ lk ρ' 1 = .int .i64 0 ∧ lk ρ' 2 = .int .i64 (D.length : Int) ∧ lk ρ' 6 = .int .i64 (i : Int) ∧ lk ρ' 7 = .int .i64 (k : Int) ∧ Γ' = own 23 1 (.slice A D.length c) D.length (u32s (P.take k ++ x :: (P.drop k ++ D.drop (i + 1)))) :: Γ) i
    · exact ⟨i, rfl, Nat.le_refl _, by rw [← hPi, List.drop_length]; simp, rfl, rfl, rfl, rfl, rfl, by rw [← hPi, List.drop_length, List.take_length, hPi, hdr]; rfl⟩
    rintro j2 IH2 ρ2 _ ⟨k, hk0, hki, hgt, f0, f1, f2, f6, f7, rfl⟩
    refine TK.know5 f0 f1 f2 f6 f7 ?_
    have hexit : (k = 0 ∨ ∃ y, P[k - 1]? = some y ∧ y ≤ x) → (P.take k ++ x :: P.drop k).length = min (i + 1) D.length ∧ (P.take k ++ x :: P.drop k).Perm (D.take (i + 1)) ∧ (P.take k ++ x :: P.drop k).Pairwise (· ≤ ·) := fun h => by
      refine ⟨by simp; omega, ?_, ?_⟩
      · refine List.perm_middle.trans ?_
        rw [List.take_append_drop, List.take_add_one, hx]
        exact (List.Perm.cons x hPp).trans (List.perm_append_singleton x _).symm
      · have hle : ∀ z ∈ P.take k, z ≤ x := fun z hz => by
          rcases h with h | ⟨y, hy, hyx⟩
          · subst h; simp at hz
          · obtain ⟨q, hq, hqz⟩ := List.getElem_of_mem hz
            rw [List.length_take] at hq
            rw [List.getElem_take] at hqz
            have hkl : k - 1 < P.length := (List.getElem?_eq_some_iff.1 hy).1
            have hyv : P[k - 1] = y := (List.getElem?_eq_some_iff.1 hy).2
            rcases Nat.lt_or_ge q (k - 1) with h1 | h1
            · have := List.pairwise_iff_getElem.1 hPs q (k - 1) (by omega) hkl h1
              omega
            · have : q = k - 1 := by omega
              subst this
              omega
        have hsp : (P.take k ++ P.drop k).Pairwise (· ≤ ·) := by rw [List.take_append_drop]; exact hPs
        obtain ⟨s1, s2, s3⟩ := List.pairwise_append.1 hsp
        refine List.pairwise_append.2 ⟨s1, List.pairwise_cons.2 ⟨fun z hz => Nat.le_of_lt (hgt z hz), s2⟩, fun z hz w hw => ?_⟩
        rcases List.mem_cons.1 hw with rfl | hw
        · exact hle z hz
        · exact s3 z hz w hw
    have hcell : ∀ (L : List Nat) (q z : Nat), L.length = D.length → L[q]? = some z → ∀ b, A = some ⟨b, 0, none⟩ → has (own 23 1 (.slice A D.length c) D.length (u32s L) :: Γ) (fun m => cellAt m b q (.int .u32 (z : Int))) := fun L q z hL hq b hb => by
      subst hb
      have h1 : has (own 23 1 (.slice (some ⟨b, 0, none⟩) D.length c) D.length (u32s L) :: Γ) (srcAt 1 (some ⟨b, 0, none⟩) D.length (u32s L)) := has_at (up_src _ _ _ _) 0 rfl fun _ h => own_src h
      have h2 := has_u32 h1 hq
      rwa [Nat.zero_add] at h2
    have hfin : ∀ ρ3, (k = 0 ∨ ∃ y, P[k - 1]? = some y ∧ y ≤ x) → lk ρ3 0 = .slice A D.length c → lk ρ3 1 = .int .i64 0 → lk ρ3 2 = .int .i64 (D.length : Int) → lk ρ3 6 = .int .i64 (IntKind.i64.wrap ((i : Int) + 1)) → ∃ (i' : Nat) (P' : List Nat), i' + (j - 1) = D.length + 1 ∧ 1 ≤ i' ∧ P'.length = min i' D.length ∧ P'.Perm (D.take i') ∧ P'.Pairwise (· ≤ ·) ∧ lk ρ3 0 = .slice A D.length c ∧ lk ρ3 1 = .int .i64 0 ∧ lk ρ3 2 = .int .i64 (D.length : Int) ∧ lk ρ3 6 = .int .i64 (i' : Int) ∧ own 23 1 (.slice A D.length c) D.length (u32s (P.take k ++ x :: (P.drop k ++ D.drop (i + 1)))) :: Γ = own 23 1 (.slice A D.length c) D.length (u32s (P' ++ D.drop i')) :: Γ := fun ρ3 h g0 g1 g2 g6 => by
      obtain ⟨a1, a2, a3⟩ := hexit h
      exact ⟨i + 1, P.take k ++ x :: P.drop k, by omega, by omega, a1, a2, a3, g0, g1, g2, g6.trans (congrArg (Value.int .i64) (i64_succ i (by omega))), by rw [List.append_assoc]; rfl⟩
    by_cases hk : 0 < k
    · obtain ⟨y, hy⟩ : ∃ y, P[k - 1]? = some y := ⟨P[k - 1], List.getElem?_eq_getElem (by omega)⟩
      have hL : P.take k ++ x :: (P.drop k ++ D.drop (i + 1)) = P.take (k - 1) ++ y :: x :: (P.drop k ++ D.drop (i + 1)) := by
        rw [show P.take k = P.take (k - 1) ++ [y] by
          rw [show k = k - 1 + 1 by omega, List.take_add_one, Nat.add_sub_cancel, hy]; rfl]
        simp
      have hLl : (P.take (k - 1) ++ y :: x :: (P.drop k ++ D.drop (i + 1))).length = D.length := by simp; omega
      have hQl : (P.take (k - 1)).length = k - 1 := by rw [List.length_take]; omega
      refine TK.mem fun m0 hm0 => ?_
      obtain ⟨b, hb⟩ : ∃ b, A = some ⟨b, 0, none⟩ := by
        exact own_addr hm0 (by omega)
      clear hm0 m0
      rw [hL]
      have hx1 := hcell _ k x hLl (by rw [List.getElem?_append_right (by omega), hQl, show k - (k - 1) = 1 by omega]; rfl) b hb
      have hy1 := hcell _ (k - 1) y hLl (by rw [List.getElem?_append_right (by omega), hQl, Nat.sub_self]; rfl) b hb
      subst hb
      refine m_run ?_
      refine TK.drawS mixed rfl ?_
      refine m_take (At.mk : At 0) ?_; refine m_take (At.mk : At 1) ?_; refine m_take (At.mk : At 2) ?_
      refine TA.isT 18 rfl (decide_eq_true (by omega)) ?_
      refine m_take (At.mk : At 3) ?_; refine m_take (At.mk : At 4) ?_; refine m_take (At.mk : At 5) ?_; refine m_take (At.mk : At 6) ?_; refine m_take (At.mk : At 7) ?_; refine m_take (At.mk : At 8) ?_; refine m_take (At.mk : At 9) ?_; refine m_take (At.mk : At 10) ?_
      refine TA.know (t := 26) (v := .int .i64 ((k - 1 : Nat) : Int)) (congrArg (Value.int .i64) (by rw [i64_in (by omega) (by omega)]; omega)) ?_
      refine m_take (At.mk : At 11) ?_; refine m_take (At.mk : At 12) ?_
      (apply TA.one 13; kernel_rfl; exact rfl)
      refine m_rrun ?_
      (apply TL.callV; exact rfl; exact callB_of (by kernel_rfl); exact rfl; exact fun _ h => h)
      exact less_t _ _ _
      rintro _ _ ⟨rfl, rfl⟩
      refine TL.back (by (focus ((repeat (first | assumption | exact Ent.refl _ | apply Ent.tail)); done))) ?_
      refine m_take (At.mk : At 14) ?_
      by_cases hxy : x < y
      · refine TA.isT 30 rfl (decide_eq_true (by omega)) ?_
        refine TA.done (by kernel_rfl) ?_
        refine m_run ?_
        refine TK.drawE mixed rfl Γ ?_
        refine m_take (At.mk : At 0) ?_; refine m_take (At.mk : At 1) ?_; refine m_take (At.mk : At 2) ?_; refine m_take (At.mk : At 3) ?_; refine m_take (At.mk : At 4) ?_
        refine TA.know (t := 37) (v := .int .i64 ((k - 1 : Nat) : Int)) (congrArg (Value.int .i64) (by rw [i64_in (by omega) (by omega)]; omega)) ?_
        refine m_take (At.mk : At 5) ?_; refine m_take (At.mk : At 6) ?_; refine m_take (At.mk : At 7) ?_
        refine TA.know (t := 40) (v := .int .i64 ((k - 1 : Nat) : Int)) (congrArg (Value.int .i64) (by rw [i64_in (by omega) (by omega)]; omega)) ?_
        refine m_take (At.mk : At 8) ?_; refine m_take (At.mk : At 10) ?_; refine m_take (At.mk : At 11) ?_; refine m_take (At.mk : At 12) ?_
        have hent : Ent (own 23 1 (.slice (some ⟨b, 0, none⟩) D.length c) D.length (u32s (P.take (k - 1) ++ y :: x :: (P.drop k ++ D.drop (i + 1)))) :: Γ) Γ := .tail (.refl _)
        refine TA.twoJ 9 13 (fun ρ' Γ' => lk ρ' 0 = .slice (some ⟨b, 0, none⟩) D.length c ∧ lk ρ' 1 = .int .i64 0 ∧ lk ρ' 2 = .int .i64 (D.length : Int) ∧ lk ρ' 6 = .int .i64 (i : Int) ∧ lk ρ' 7 = .int .i64 (k : Int) ∧ lk ρ' 33 = .slice (some ⟨b, 0, none⟩) D.length c ∧ lk ρ' 34 = .int .i64 (k : Int) ∧ lk ρ' 35 = .slice (some ⟨b, 0, none⟩) D.length c ∧ lk ρ' 37 = .int .i64 ((k - 1 : Nat) : Int) ∧ lk ρ' 42 = .int .u32 (y : Int) ∧ lk ρ' 46 = .int .u32 (x : Int) ∧ Γ' = own 23 1 (.slice (some ⟨b, 0, none⟩) D.length c) D.length (u32s (P.take (k - 1) ++ y :: x :: (P.drop k ++ D.drop (i + 1)))) :: Γ) (by kernel_rfl) rfl rfl rfl ?_ ?_ ?_
        · intro tail
          refine m_rrun ?_
          refine TL.back hent ?_
          (apply TA.one 13; kernel_rfl; exact rfl)
          refine m_rrun ?_
          refine TL.back hent ?_
          exact tail _ _ ⟨rfl, rfl, rfl, rfl, rfl, rfl, rfl, rfl, rfl, rfl, rfl, rfl⟩
        · intro tail
          refine m_rrun ?_
          refine TL.back hent ?_
          (apply TA.one 9; kernel_rfl; exact rfl)
          refine m_rrun ?_
          refine TL.back hent ?_
          exact tail _ _ ⟨rfl, rfl, rfl, rfl, rfl, rfl, rfl, rfl, rfl, rfl, rfl, rfl⟩
        rintro ρ3 _ ⟨g0, g1, g2, g6, g7, g33, g34, g35, g37, g42, g46, rfl⟩
        refine TA.know g0 (TA.know (t := 1) (v := .int .i64 0) g1 (TA.know (t := 2) (v := .int .i64 (D.length : Int)) g2 (TA.know (t := 6) (v := .int .i64 (i : Int)) g6 (TA.know (t := 7) (v := .int .i64 (k : Int)) g7 (TA.know (t := 33) (v := .slice (some ⟨b, 0, none⟩) D.length c) g33 (TA.know (t := 34) (v := .int .i64 (k : Int)) g34 (TA.know (t := 35) (v := .slice (some ⟨b, 0, none⟩) D.length c) g35 (TA.know (t := 37) (v := .int .i64 ((k - 1 : Nat) : Int)) g37 (TA.know (t := 42) (v := .int .u32 (y : Int)) g42 (TA.know (t := 46) (v := .int .u32 (x : Int)) g46 ?_))))))))))
        refine m_take (At.mk : At 14) ?_
        (apply TA.one 15; kernel_rfl; exact rfl)
        (apply TL.storeOwn 0 k; exact rfl; exact rfl; exact rfl; exact rfl; exact tb rfl; exact rfl; exact (Nat.zero_add _).symm)
        · omega
        refine TL.back (by (focus ((repeat (first | assumption | exact Ent.refl _ | apply Ent.tail)); done))) ?_
        refine m_take (At.mk : At 16) ?_
        (apply TA.one 17; kernel_rfl; exact rfl)
        (apply TL.storeOwn 0 (k - 1); exact rfl; exact rfl; exact rfl; exact rfl; exact tb rfl; exact rfl; exact (Nat.zero_add _).symm)
        · omega
        refine TL.back (by (focus ((repeat (first | assumption | exact Ent.refl _ | apply Ent.tail)); done))) ?_
        refine TA.done (by kernel_rfl) ?_
        have hdk : P.drop (k - 1) = y :: P.drop k := by
          have h1 : k - 1 < P.length := by omega
          rw [List.drop_eq_getElem_cons h1, show k - 1 + 1 = k by omega, show P[k - 1] = y from (List.getElem?_eq_some_iff.1 hy).2]
        have hsw : ((u32s (P.take (k - 1) ++ y :: x :: (P.drop k ++ D.drop (i + 1)))).set k (.int .u32 (y : Int))).set (k - 1) (.int .u32 (x : Int)) = u32s (P.take (k - 1) ++ x :: (P.drop (k - 1) ++ D.drop (i + 1))) := by
          rw [u32s_set, u32s_set]
          have h1 := swap_at (P.take (k - 1)) (P.drop k ++ D.drop (i + 1)) x y (k - 1) hQl
          rw [show k - 1 + 1 = k by omega] at h1
          rw [h1, hdk]
          rfl
        refine TK.imp (Δ := own 23 1 (.slice (some ⟨b, 0, none⟩) D.length c) D.length (u32s (P.take (k - 1) ++ x :: (P.drop (k - 1) ++ D.drop (i + 1)))) :: Γ) (fun _ h => by rw [← hsw]; exact h) ?_
        refine m_run ?_
        refine IH2 (k - 1) _ _ (by omega) ⟨k - 1, rfl, by omega, fun z hz => ?_, rfl, rfl, rfl, rfl, congrArg (Value.int .i64) (by rw [i64_in (by omega) (by omega)]; omega), rfl⟩
        rw [hdk] at hz
        rcases List.mem_cons.1 hz with rfl | hz
        · exact hxy
        · exact hgt z hz
      · refine TA.isF 30 rfl (decide_eq_false (by omega)) ?_
        refine TA.done (by kernel_rfl) ?_
        rw [← hL]
        refine m_run ?_
        exact IH (j - 1) _ _ (by omega) (hfin _ (.inr ⟨y, hy, by omega⟩) rfl rfl rfl rfl)
    · have hk0' : k = 0 := by omega
      refine m_run ?_
      refine TK.drawS mixed rfl ?_
      refine m_take (At.mk : At 0) ?_; refine m_take (At.mk : At 1) ?_; refine m_take (At.mk : At 2) ?_
      refine TA.isF 18 rfl (decide_eq_false (by omega)) ?_
      refine m_take (At.mk : At 3) ?_; refine m_take (At.mk : At 4) ?_; refine m_take (At.mk : At 5) ?_; refine m_take (At.mk : At 6) ?_; refine m_take (At.mk : At 7) ?_; refine m_take (At.mk : At 8) ?_; refine m_take (At.mk : At 9) ?_; refine m_take (At.mk : At 10) ?_; refine m_take (At.mk : At 11) ?_; refine m_take (At.mk : At 12) ?_; refine m_take (At.mk : At 13) ?_; refine m_take (At.mk : At 14) ?_
      refine TA.done (by kernel_rfl) ?_
      refine m_run ?_
      exact IH (j - 1) _ _ (by omega) (hfin _ (.inl hk0') rfl rfl rfl rfl)
  have htk : D.take i = D := List.take_of_length_le (by omega)
  have hdr : D.drop i = [] := List.drop_of_length_le (by omega)
  rw [htk] at hPp
  rw [hdr, List.append_nil]
  refine m_run ?_
  exact TK.over0 rfl rfl ⟨_, rfl, rfl, P, hPp, hPs, rfl⟩
end Go.Proofs.Ytokggdgagfmacaa.E
