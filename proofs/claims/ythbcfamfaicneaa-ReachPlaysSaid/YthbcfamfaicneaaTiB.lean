/- Parted by a pivot. -/
import Derived.Test.YthbcfamfaicneaaTiA
namespace Go.Proofs.Ythbcfamfaicneaa.E.SI
open Go Go.RowKit Go.Proofs Go.Sort
attribute [local irreducible] TK TL TQ TA TB Fn PV Sort.insInner Sort.heapBuild Sort.heapPop Sort.scanDown Sort.shiftDown Sort.partialIns
set_option maxRecDepth 100000 in
set_option maxHeartbeats 4000000 in
theorem part_t (b c n a e p : Nat) (d0 : Array Int) (Γ : List HP) (hsz0 : d0.size = n) (hap : a ≤ p) (hpe : p < e) (he : e ≤ n) (hn : n ≤ 1000000000) :
    FnV Try.prog 93 [.slice (some ⟨b, 0, none⟩) n c, .int .i64 (a : Int), .int .i64 (e : Int), .int .i64 (p : Int)] (DD b c n d0 :: Γ) fun v Γ' => v = .tuple #[.int .i64 ((Sort.partition ltInt d0 a e p).1 : Int), .bool (Sort.partition ltInt d0 a e p).2.1] ∧ Γ' = DD b c n (Sort.partition ltInt d0 a e p).2.2 :: Γ := by
  refine Fn.enter Try.func93 rfl rfl rfl fun E => ?_
  generalize hX : Sort.partition ltInt d0 a e p = X
  unfold Sort.partition at hX
  have hsz := hsz0
  refine m_run ?_
  have hcI := cellD (b := b) (c := c) (Γ := Γ) hsz (show a < n by omega)
  have hcK := cellD (b := b) (c := c) (Γ := Γ) hsz (show p < n by omega)
  refine TK.drawB mixed rfl 13 (DD b c n d0 :: Γ) (Γ) ?_
  refine m_bake (At.mk : At 0) ?_; refine m_bake (At.mk : At 1) ?_; refine m_bake (At.mk : At 2) ?_; refine m_bake (At.mk : At 3) ?_; refine m_bake (At.mk : At 4) ?_; refine m_bake (At.mk : At 5) ?_; refine m_bake (At.mk : At 6) ?_; refine m_bake (At.mk : At 7) ?_; refine m_bake (At.mk : At 8) ?_; refine m_bake (At.mk : At 9) ?_; refine m_bake (At.mk : At 10) ?_; refine m_bake (At.mk : At 11) ?_; refine m_bake (At.mk : At 12) ?_
  (apply TB.last; kernel_rfl; exact rfl)
  (apply TL.storeOwn 0 (a); exact rfl; exact rfl; exact rfl; exact rfl; exact tb rfl; exact rfl; exact (Nat.zero_add _).symm; exact (by omega))
  refine TL.back (by (focus ((repeat (first | assumption | exact Ent.refl _ | apply Ent.tail)); done))) ?_
  refine m_take (At.mk : At 14) ?_
  (apply TA.one 15; kernel_rfl; exact rfl)
  (apply TL.storeOwn 0 (p); exact rfl; exact rfl; exact rfl; exact rfl; exact tb rfl; exact rfl; exact (Nat.zero_add _).symm; exact (by omega))
  refine TL.back (by (focus ((repeat (first | assumption | exact Ent.refl _ | apply Ent.tail)); done))) ?_
  refine TA.done (by kernel_rfl) ?_
  refine TK.imp (Δ := DD b c n (swp d0 (a) (p)) :: Γ) (fun _ h => by show all (own _ _ _ _ (nums _ (swp d0 (a) (p)).toList) :: _) _; rw [← swpD]; exact h) ?_
  have hsz : (swp d0 (a) (p)).size = n := (size_swp _ _ _).trans hsz
  clear hcI hcK
  simp only [] at hX
  generalize swp d0 a p = d at *
  (repeat (first | refine TK.seq ?_ | refine TK.skip ?_))
  refine TK.region ?_
  refine m_rrun ?_
  refine TL.nil ?_
  (repeat (first | refine TK.seq ?_ | refine TK.skip ?_))
  refine TK.know (t := 10) (v := .int .i64 ((a + 1 : Nat) : Int)) (congrArg (Value.int .i64) (by rw [i64_in (by omega) (by omega)]; omega)) ?_
  refine TK.know (t := 11) (v := .int .i64 ((e - 1 : Nat) : Int)) (congrArg (Value.int .i64) (by rw [i64_in (by omega) (by omega)]; omega)) ?_
  have hij : a + 1 ≤ (e - 1) + 1 := by omega
  have hjn : e - 1 < n := by omega
  generalize hi1 : a + 1 = i at hij hX ⊢
  replace hi1 : a + 1 ≤ i := by omega
  generalize e - 1 = j at hij hjn hX ⊢
  apply TK.cut (fun ρ' Γ' => lk ρ' 0 = .slice (some ⟨b, 0, none⟩) n c ∧ lk ρ' 1 = .int .i64 (a : Int) ∧ lk ρ' 10 = .int .i64 ((scanUp (fun x => ltInt x d[a]!) d (j) (i) : Nat) : Int) ∧ lk ρ' 11 = .int .i64 (j : Int) ∧ Γ' = DD b c n d :: Γ)
  · intro k' hk'
    generalize hS : scanUp (fun x => ltInt x d[a]!) d (j) (i) = I at hk'
    refine m_run ?_
    apply TK.iter (fun m ρ' Γ' => ∃ (x : Nat), (j) + 1 - x ≤ m ∧ (i) ≤ x ∧ x ≤ (j) + 1 ∧ scanUp (fun x => ltInt x d[a]!) d (j) x = I ∧ lk ρ' 0 = .slice (some ⟨b, 0, none⟩) n c ∧ lk ρ' 1 = .int .i64 (a : Int) ∧ lk ρ' 10 = .int .i64 (x : Int) ∧ lk ρ' 11 = .int .i64 (j : Int) ∧ Γ' = DD b c n d :: Γ) ((j) + 1)
    · exact ⟨i, by omega, Nat.le_refl _, by omega, hS, rfl, rfl, rfl, rfl, rfl⟩
    clear hS
    rintro m IH ρ' _ ⟨x, hm, hx1, hx2, hS, e0, e1, ei, ej, rfl⟩
    refine TK.know4 e0 e1 ei ej ?_
    rw [Sort.scanUp] at hS
    by_cases hx : x ≤ j
    · have hc1 := cellD (b := b) (c := c) (Γ := Γ) hsz (show x < n by omega)
      have hc2 := cellD (b := b) (c := c) (Γ := Γ) hsz (show a < n by omega)
      refine m_run ?_
      refine TK.drawS mixed rfl ?_
      refine m_take (At.mk : At 0) ?_; refine m_take (At.mk : At 1) ?_; refine m_take (At.mk : At 2) ?_
      refine TA.isT 32 rfl (decide_eq_true (by omega)) ?_
      refine m_take (At.mk : At 3) ?_; refine m_take (At.mk : At 4) ?_; refine m_take (At.mk : At 5) ?_; refine m_take (At.mk : At 6) ?_; refine m_take (At.mk : At 7) ?_; refine m_take (At.mk : At 8) ?_; refine m_take (At.mk : At 9) ?_; refine m_take (At.mk : At 10) ?_; refine m_take (At.mk : At 11) ?_
      (apply TA.one 12; kernel_rfl; exact rfl)
      refine m_rrun ?_
      (apply TL.callV; exact rfl; exact callB_of (by kernel_rfl); exact rfl; exact fun _ h => h)
      exact less_t _ _ _
      rintro _ _ ⟨rfl, rfl⟩
      refine TL.back (by (focus ((repeat (first | assumption | exact Ent.refl _ | apply Ent.tail)); done))) ?_
      refine m_take (At.mk : At 13) ?_
      by_cases h : d[x]! < d[a]!
      · rw [if_pos (by simp [ltInt, h]; omega)] at hS
        refine TA.isT 43 rfl (decide_eq_true h) ?_
        refine TA.done (by kernel_rfl) ?_
        clear hc1 hc2
        refine m_run ?_
        exact IH (m - 1) _ _ (by omega) ⟨x + 1, by omega, by omega, by omega, hS, rfl, rfl, congrArg (Value.int .i64) (i64_succ x (by omega)), rfl, rfl⟩
      · rw [if_neg (by simp [ltInt, h])] at hS
        refine TA.isF 43 rfl (decide_eq_false h) ?_
        refine TA.done (by kernel_rfl) ?_
        clear hc1 hc2
        refine m_run ?_
        exact hk' _ _ ⟨rfl, rfl, congrArg (fun z : Nat => Value.int .i64 (z : Int)) hS, rfl, rfl⟩
    · rw [if_neg (by simp; omega)] at hS
      refine m_run ?_
      refine TK.drawS mixed rfl ?_
      refine m_take (At.mk : At 0) ?_; refine m_take (At.mk : At 1) ?_; refine m_take (At.mk : At 2) ?_
      refine TA.isF 32 rfl (decide_eq_false (by omega)) ?_
      refine m_take (At.mk : At 3) ?_; refine m_take (At.mk : At 4) ?_; refine m_take (At.mk : At 5) ?_; refine m_take (At.mk : At 6) ?_; refine m_take (At.mk : At 7) ?_; refine m_take (At.mk : At 8) ?_; refine m_take (At.mk : At 9) ?_; refine m_take (At.mk : At 10) ?_; refine m_take (At.mk : At 11) ?_; refine m_take (At.mk : At 12) ?_; refine m_take (At.mk : At 13) ?_
      refine TA.done (by kernel_rfl) ?_
      refine m_run ?_
      exact hk' _ _ ⟨rfl, rfl, congrArg (fun z : Nat => Value.int .i64 (z : Int)) hS, rfl, rfl⟩
  rintro ρ' _ ⟨e0, e1, ei, ej, rfl⟩
  refine TK.know4 e0 e1 ei ej ?_
  obtain ⟨hs1, hs2, _, hs4⟩ := scanUp_spec (fun x => ltInt x d[a]!) d j _ i rfl
  have hs2 := hs2 hij
  generalize hI : scanUp (fun x => ltInt x d[a]!) d j i = i2 at *
  (repeat (first | refine TK.seq ?_ | refine TK.skip ?_))
  apply TK.cut (fun ρ' Γ' => lk ρ' 0 = .slice (some ⟨b, 0, none⟩) n c ∧ lk ρ' 1 = .int .i64 (a : Int) ∧ lk ρ' 10 = .int .i64 (i2 : Int) ∧ lk ρ' 11 = .int .i64 ((scanDown (fun x => !ltInt x d[a]!) d (i2) (j) : Nat) : Int) ∧ Γ' = DD b c n d :: Γ)
  · intro k' hk'
    generalize hS : scanDown (fun x => !ltInt x d[a]!) d (i2) (j) = J at hk'
    refine m_run ?_
    apply TK.iter (fun m ρ' Γ' => m ≤ j ∧ (i2) ≤ m + 1 ∧ scanDown (fun x => !ltInt x d[a]!) d (i2) m = J ∧ lk ρ' 0 = .slice (some ⟨b, 0, none⟩) n c ∧ lk ρ' 1 = .int .i64 (a : Int) ∧ lk ρ' 10 = .int .i64 (i2 : Int) ∧ lk ρ' 11 = .int .i64 (m : Int) ∧ Γ' = DD b c n d :: Γ) (j)
    · exact ⟨Nat.le_refl _, by omega, hS, rfl, rfl, rfl, rfl, rfl⟩
    clear hS
    rintro x IH ρ' _ ⟨hx1, hx2, hS, e0, e1, ei, ej, rfl⟩
    refine TK.know4 e0 e1 ei ej ?_
    by_cases hx : i2 ≤ x
    · obtain ⟨w, rfl⟩ : ∃ w, x = w + 1 := ⟨x - 1, by omega⟩
      rw [Sort.scanDown] at hS
      have hc1 := cellD (b := b) (c := c) (Γ := Γ) hsz (show w + 1 < n by omega)
      have hc2 := cellD (b := b) (c := c) (Γ := Γ) hsz (show a < n by omega)
      refine m_run ?_
      refine TK.drawS mixed rfl ?_
      refine m_take (At.mk : At 0) ?_; refine m_take (At.mk : At 1) ?_; refine m_take (At.mk : At 2) ?_
      refine TA.isT 48 rfl (decide_eq_true (by omega)) ?_
      refine m_take (At.mk : At 3) ?_; refine m_take (At.mk : At 4) ?_; refine m_take (At.mk : At 5) ?_; refine m_take (At.mk : At 6) ?_; refine m_take (At.mk : At 7) ?_; refine m_take (At.mk : At 8) ?_; refine m_take (At.mk : At 9) ?_; refine m_take (At.mk : At 10) ?_; refine m_take (At.mk : At 11) ?_
      (apply TA.one 12; kernel_rfl; exact rfl)
      refine m_rrun ?_
      (apply TL.callV; exact rfl; exact callB_of (by kernel_rfl); exact rfl; exact fun _ h => h)
      exact less_t _ _ _
      rintro _ _ ⟨rfl, rfl⟩
      refine TL.back (by (focus ((repeat (first | assumption | exact Ent.refl _ | apply Ent.tail)); done))) ?_
      refine m_take (At.mk : At 13) ?_; refine m_take (At.mk : At 14) ?_
      by_cases h : d[w + 1]! < d[a]!
      · rw [if_neg (by simp [ltInt, h])] at hS
        refine TA.isF 60 rfl (not_f (decide_eq_true h)) ?_
        refine TA.done (by kernel_rfl) ?_
        clear hc1 hc2
        refine m_run ?_
        exact hk' _ _ ⟨rfl, rfl, rfl, congrArg (fun z : Nat => Value.int .i64 (z : Int)) hS, rfl⟩
      · rw [if_pos (by simp [ltInt, h]; omega)] at hS
        refine TA.isT 60 rfl (not_t (decide_eq_false h)) ?_
        refine TA.done (by kernel_rfl) ?_
        clear hc1 hc2
        refine m_run ?_
        exact IH w _ _ (by omega) ⟨by omega, by omega, hS, rfl, rfl, rfl, congrArg (Value.int .i64) (by rw [i64_in (by omega) (by omega)]; omega), rfl⟩
    · have hS : x = J := by
        rw [← hS]
        cases x with
        | zero => rw [Sort.scanDown]
        | succ w => rw [Sort.scanDown, if_neg (by simp; omega)]
      refine m_run ?_
      refine TK.drawS mixed rfl ?_
      refine m_take (At.mk : At 0) ?_; refine m_take (At.mk : At 1) ?_; refine m_take (At.mk : At 2) ?_
      refine TA.isF 48 rfl (decide_eq_false (by omega)) ?_
      refine m_take (At.mk : At 3) ?_; refine m_take (At.mk : At 4) ?_; refine m_take (At.mk : At 5) ?_; refine m_take (At.mk : At 6) ?_; refine m_take (At.mk : At 7) ?_; refine m_take (At.mk : At 8) ?_; refine m_take (At.mk : At 9) ?_; refine m_take (At.mk : At 10) ?_; refine m_take (At.mk : At 11) ?_; refine m_take (At.mk : At 12) ?_; refine m_take (At.mk : At 13) ?_; refine m_take (At.mk : At 14) ?_
      refine TA.done (by kernel_rfl) ?_
      refine m_run ?_
      exact hk' _ _ ⟨rfl, rfl, rfl, congrArg (fun z : Nat => Value.int .i64 (z : Int)) hS, rfl⟩
  rintro ρ' _ ⟨e0, e1, ei, ej, rfl⟩
  refine TK.know4 e0 e1 ei ej ?_
  obtain ⟨ht1, ht2, _, ht4⟩ := scanDown_spec (fun x => !ltInt x d[a]!) d i2 j
  have ht2 := ht2 hs2
  generalize hJ : scanDown (fun x => !ltInt x d[a]!) d i2 j = j2 at *
  by_cases hgt : i2 > j2
  · rw [if_pos hgt] at hX
    rw [← hX]
    refine m_run ?_
    have hcI := cellD (b := b) (c := c) (Γ := Γ) hsz (show j2 < n by omega)
    have hcK := cellD (b := b) (c := c) (Γ := Γ) hsz (show a < n by omega)
    refine TK.drawB mixed rfl 13 (DD b c n d :: Γ) (Γ) ?_
    refine m_bake (At.mk : At 0) ?_; refine m_bake (At.mk : At 1) ?_; refine m_bake (At.mk : At 2) ?_; refine m_bake (At.mk : At 3) ?_; refine m_bake (At.mk : At 4) ?_; refine m_bake (At.mk : At 5) ?_; refine m_bake (At.mk : At 6) ?_; refine m_bake (At.mk : At 7) ?_; refine m_bake (At.mk : At 8) ?_; refine m_bake (At.mk : At 9) ?_; refine m_bake (At.mk : At 10) ?_; refine m_bake (At.mk : At 11) ?_; refine m_bake (At.mk : At 12) ?_
    (apply TB.last; kernel_rfl; exact rfl)
    (apply TL.storeOwn 0 (j2); exact rfl; exact rfl; exact rfl; exact rfl; exact tb rfl; exact rfl; exact (Nat.zero_add _).symm; exact (by omega))
    refine TL.back (by (focus ((repeat (first | assumption | exact Ent.refl _ | apply Ent.tail)); done))) ?_
    refine m_take (At.mk : At 14) ?_
    (apply TA.one 15; kernel_rfl; exact rfl)
    (apply TL.storeOwn 0 (a); exact rfl; exact rfl; exact rfl; exact rfl; exact tb rfl; exact rfl; exact (Nat.zero_add _).symm; exact (by omega))
    refine TL.back (by (focus ((repeat (first | assumption | exact Ent.refl _ | apply Ent.tail)); done))) ?_
    refine TA.done (by kernel_rfl) ?_
    refine TK.imp (Δ := DD b c n (swp d (j2) (a)) :: Γ) (fun _ h => by show all (own _ _ _ _ (nums _ (swp d (j2) (a)).toList) :: _) _; rw [← swpD]; exact h) ?_
    have hsz : (swp d (j2) (a)).size = n := (size_swp _ _ _).trans hsz
    clear hcI hcK
    refine m_run ?_
    (apply TK.ret2; exact rfl; exact rfl; (exact m_val); (exact m_val))
    exact ⟨_, rfl, rfl, rfl⟩
  · rw [if_neg hgt] at hX
    have hne : i2 ≠ j2 := fun e => by
      have h1 := hs4 (by omega)
      have h2 := ht4 (by omega) (by omega)
      rw [← e] at h2
      simp only [h1] at h2
      cases h2
    refine m_run ?_
    have hcI := cellD (b := b) (c := c) (Γ := Γ) hsz (show i2 < n by omega)
    have hcK := cellD (b := b) (c := c) (Γ := Γ) hsz (show j2 < n by omega)
    refine TK.drawB mixed rfl 13 (DD b c n d :: Γ) (Γ) ?_
    refine m_bake (At.mk : At 0) ?_; refine m_bake (At.mk : At 1) ?_; refine m_bake (At.mk : At 2) ?_; refine m_bake (At.mk : At 3) ?_; refine m_bake (At.mk : At 4) ?_; refine m_bake (At.mk : At 5) ?_; refine m_bake (At.mk : At 6) ?_; refine m_bake (At.mk : At 7) ?_; refine m_bake (At.mk : At 8) ?_; refine m_bake (At.mk : At 9) ?_; refine m_bake (At.mk : At 10) ?_; refine m_bake (At.mk : At 11) ?_; refine m_bake (At.mk : At 12) ?_
    (apply TB.last; kernel_rfl; exact rfl)
    (apply TL.storeOwn 0 (i2); exact rfl; exact rfl; exact rfl; exact rfl; exact tb rfl; exact rfl; exact (Nat.zero_add _).symm; exact (by omega))
    refine TL.back (by (focus ((repeat (first | assumption | exact Ent.refl _ | apply Ent.tail)); done))) ?_
    refine m_take (At.mk : At 14) ?_
    (apply TA.one 15; kernel_rfl; exact rfl)
    (apply TL.storeOwn 0 (j2); exact rfl; exact rfl; exact rfl; exact rfl; exact tb rfl; exact rfl; exact (Nat.zero_add _).symm; exact (by omega))
    refine TL.back (by (focus ((repeat (first | assumption | exact Ent.refl _ | apply Ent.tail)); done))) ?_
    refine TA.done (by kernel_rfl) ?_
    refine TK.imp (Δ := DD b c n (swp d (i2) (j2)) :: Γ) (fun _ h => by show all (own _ _ _ _ (nums _ (swp d (i2) (j2)).toList) :: _) _; rw [← swpD]; exact h) ?_
    have hsz : (swp d (i2) (j2)).size = n := (size_swp _ _ _).trans hsz
    clear hcI hcK
    generalize swp d i2 j2 = d1 at *
    clear hs4 ht4 hI hJ
    generalize hR : partLoop ltInt a (i2 + 1) (j2 - 1) d1 = R at hX
    refine m_run ?_
    apply TK.iter (fun m ρ' Γ' => ∃ (i j : Nat) (d : Array Int), j + 1 - i ≤ m ∧ a + 1 ≤ i ∧ i ≤ j + 1 ∧ j < n ∧ d.size = n ∧ partLoop ltInt a i j d = R ∧ lk ρ' 0 = .slice (some ⟨b, 0, none⟩) n c ∧ lk ρ' 1 = .int .i64 (a : Int) ∧ lk ρ' 10 = .int .i64 (i : Int) ∧ lk ρ' 11 = .int .i64 (j : Int) ∧ Γ' = DD b c n d :: Γ) n
    · exact ⟨i2 + 1, j2 - 1, _, by omega, by omega, by omega, by omega, hsz, hR, rfl, rfl, congrArg (Value.int .i64) (by rw [i64_in (by omega) (by omega)]; omega), congrArg (Value.int .i64) (by rw [i64_in (by omega) (by omega)]; omega), rfl⟩
    clear hR hsz hne hgt ht1 ht2 hs1 hs2 hij hi1 hjn
    rintro m IH ρ' _ ⟨i, j, d, hm, hi1, hij, hjn, hsz, hR, e0, e1, e10, e11, rfl⟩
    refine TK.know4 e0 e1 e10 e11 ?_
    rw [partLoop_eq] at hR
    (repeat (first | refine TK.seq ?_ | refine TK.skip ?_))
    refine TK.block ?_
    (repeat (first | refine TK.seq ?_ | refine TK.skip ?_))
    apply TK.cut (fun ρ' Γ' => lk ρ' 0 = .slice (some ⟨b, 0, none⟩) n c ∧ lk ρ' 1 = .int .i64 (a : Int) ∧ lk ρ' 10 = .int .i64 ((scanUp (fun x => ltInt x d[a]!) d (j) (i) : Nat) : Int) ∧ lk ρ' 11 = .int .i64 (j : Int) ∧ Γ' = DD b c n d :: Γ)
    · intro k' hk'
      generalize hS : scanUp (fun x => ltInt x d[a]!) d (j) (i) = I at hk'
      refine m_run ?_
      apply TK.iter (fun m ρ' Γ' => ∃ (x : Nat), (j) + 1 - x ≤ m ∧ (i) ≤ x ∧ x ≤ (j) + 1 ∧ scanUp (fun x => ltInt x d[a]!) d (j) x = I ∧ lk ρ' 0 = .slice (some ⟨b, 0, none⟩) n c ∧ lk ρ' 1 = .int .i64 (a : Int) ∧ lk ρ' 10 = .int .i64 (x : Int) ∧ lk ρ' 11 = .int .i64 (j : Int) ∧ Γ' = DD b c n d :: Γ) ((j) + 1)
      · exact ⟨i, by omega, Nat.le_refl _, by omega, hS, rfl, rfl, rfl, rfl, rfl⟩
      clear hS
      rintro m IH ρ' _ ⟨x, hm, hx1, hx2, hS, e0, e1, ei, ej, rfl⟩
      refine TK.know4 e0 e1 ei ej ?_
      rw [Sort.scanUp] at hS
      by_cases hx : x ≤ j
      · have hc1 := cellD (b := b) (c := c) (Γ := Γ) hsz (show x < n by omega)
        have hc2 := cellD (b := b) (c := c) (Γ := Γ) hsz (show a < n by omega)
        refine m_run ?_
        refine TK.drawS mixed rfl ?_
        refine m_take (At.mk : At 0) ?_; refine m_take (At.mk : At 1) ?_; refine m_take (At.mk : At 2) ?_
        refine TA.isT 101 rfl (decide_eq_true (by omega)) ?_
        refine m_take (At.mk : At 3) ?_; refine m_take (At.mk : At 4) ?_; refine m_take (At.mk : At 5) ?_; refine m_take (At.mk : At 6) ?_; refine m_take (At.mk : At 7) ?_; refine m_take (At.mk : At 8) ?_; refine m_take (At.mk : At 9) ?_; refine m_take (At.mk : At 10) ?_; refine m_take (At.mk : At 11) ?_
        (apply TA.one 12; kernel_rfl; exact rfl)
        refine m_rrun ?_
        (apply TL.callV; exact rfl; exact callB_of (by kernel_rfl); exact rfl; exact fun _ h => h)
        exact less_t _ _ _
        rintro _ _ ⟨rfl, rfl⟩
        refine TL.back (by (focus ((repeat (first | assumption | exact Ent.refl _ | apply Ent.tail)); done))) ?_
        refine m_take (At.mk : At 13) ?_
        by_cases h : d[x]! < d[a]!
        · rw [if_pos (by simp [ltInt, h]; omega)] at hS
          refine TA.isT 112 rfl (decide_eq_true h) ?_
          refine TA.done (by kernel_rfl) ?_
          clear hc1 hc2
          refine m_run ?_
          exact IH (m - 1) _ _ (by omega) ⟨x + 1, by omega, by omega, by omega, hS, rfl, rfl, congrArg (Value.int .i64) (i64_succ x (by omega)), rfl, rfl⟩
        · rw [if_neg (by simp [ltInt, h])] at hS
          refine TA.isF 112 rfl (decide_eq_false h) ?_
          refine TA.done (by kernel_rfl) ?_
          clear hc1 hc2
          refine m_run ?_
          exact hk' _ _ ⟨rfl, rfl, congrArg (fun z : Nat => Value.int .i64 (z : Int)) hS, rfl, rfl⟩
      · rw [if_neg (by simp; omega)] at hS
        refine m_run ?_
        refine TK.drawS mixed rfl ?_
        refine m_take (At.mk : At 0) ?_; refine m_take (At.mk : At 1) ?_; refine m_take (At.mk : At 2) ?_
        refine TA.isF 101 rfl (decide_eq_false (by omega)) ?_
        refine m_take (At.mk : At 3) ?_; refine m_take (At.mk : At 4) ?_; refine m_take (At.mk : At 5) ?_; refine m_take (At.mk : At 6) ?_; refine m_take (At.mk : At 7) ?_; refine m_take (At.mk : At 8) ?_; refine m_take (At.mk : At 9) ?_; refine m_take (At.mk : At 10) ?_; refine m_take (At.mk : At 11) ?_; refine m_take (At.mk : At 12) ?_; refine m_take (At.mk : At 13) ?_
        refine TA.done (by kernel_rfl) ?_
        refine m_run ?_
        exact hk' _ _ ⟨rfl, rfl, congrArg (fun z : Nat => Value.int .i64 (z : Int)) hS, rfl, rfl⟩
    rintro ρ' _ ⟨e0, e1, ei, ej, rfl⟩
    refine TK.know4 e0 e1 ei ej ?_
    obtain ⟨hs1, hs2, _, hs4⟩ := scanUp_spec (fun x => ltInt x d[a]!) d j _ i rfl
    have hs2 := hs2 hij
    generalize hI : scanUp (fun x => ltInt x d[a]!) d j i = i2 at *
    (repeat (first | refine TK.seq ?_ | refine TK.skip ?_))
    apply TK.cut (fun ρ' Γ' => lk ρ' 0 = .slice (some ⟨b, 0, none⟩) n c ∧ lk ρ' 1 = .int .i64 (a : Int) ∧ lk ρ' 10 = .int .i64 (i2 : Int) ∧ lk ρ' 11 = .int .i64 ((scanDown (fun x => !ltInt x d[a]!) d (i2) (j) : Nat) : Int) ∧ Γ' = DD b c n d :: Γ)
    · intro k' hk'
      generalize hS : scanDown (fun x => !ltInt x d[a]!) d (i2) (j) = J at hk'
      refine m_run ?_
      apply TK.iter (fun m ρ' Γ' => m ≤ j ∧ (i2) ≤ m + 1 ∧ scanDown (fun x => !ltInt x d[a]!) d (i2) m = J ∧ lk ρ' 0 = .slice (some ⟨b, 0, none⟩) n c ∧ lk ρ' 1 = .int .i64 (a : Int) ∧ lk ρ' 10 = .int .i64 (i2 : Int) ∧ lk ρ' 11 = .int .i64 (m : Int) ∧ Γ' = DD b c n d :: Γ) (j)
      · exact ⟨Nat.le_refl _, by omega, hS, rfl, rfl, rfl, rfl, rfl⟩
      clear hS
      rintro x IH ρ' _ ⟨hx1, hx2, hS, e0, e1, ei, ej, rfl⟩
      refine TK.know4 e0 e1 ei ej ?_
      by_cases hx : i2 ≤ x
      · obtain ⟨w, rfl⟩ : ∃ w, x = w + 1 := ⟨x - 1, by omega⟩
        rw [Sort.scanDown] at hS
        have hc1 := cellD (b := b) (c := c) (Γ := Γ) hsz (show w + 1 < n by omega)
        have hc2 := cellD (b := b) (c := c) (Γ := Γ) hsz (show a < n by omega)
        refine m_run ?_
        refine TK.drawS mixed rfl ?_
        refine m_take (At.mk : At 0) ?_; refine m_take (At.mk : At 1) ?_; refine m_take (At.mk : At 2) ?_
        refine TA.isT 117 rfl (decide_eq_true (by omega)) ?_
        refine m_take (At.mk : At 3) ?_; refine m_take (At.mk : At 4) ?_; refine m_take (At.mk : At 5) ?_; refine m_take (At.mk : At 6) ?_; refine m_take (At.mk : At 7) ?_; refine m_take (At.mk : At 8) ?_; refine m_take (At.mk : At 9) ?_; refine m_take (At.mk : At 10) ?_; refine m_take (At.mk : At 11) ?_
        (apply TA.one 12; kernel_rfl; exact rfl)
        refine m_rrun ?_
        (apply TL.callV; exact rfl; exact callB_of (by kernel_rfl); exact rfl; exact fun _ h => h)
        exact less_t _ _ _
        rintro _ _ ⟨rfl, rfl⟩
        refine TL.back (by (focus ((repeat (first | assumption | exact Ent.refl _ | apply Ent.tail)); done))) ?_
        refine m_take (At.mk : At 13) ?_; refine m_take (At.mk : At 14) ?_
        by_cases h : d[w + 1]! < d[a]!
        · rw [if_neg (by simp [ltInt, h])] at hS
          refine TA.isF 129 rfl (not_f (decide_eq_true h)) ?_
          refine TA.done (by kernel_rfl) ?_
          clear hc1 hc2
          refine m_run ?_
          exact hk' _ _ ⟨rfl, rfl, rfl, congrArg (fun z : Nat => Value.int .i64 (z : Int)) hS, rfl⟩
        · rw [if_pos (by simp [ltInt, h]; omega)] at hS
          refine TA.isT 129 rfl (not_t (decide_eq_false h)) ?_
          refine TA.done (by kernel_rfl) ?_
          clear hc1 hc2
          refine m_run ?_
          exact IH w _ _ (by omega) ⟨by omega, by omega, hS, rfl, rfl, rfl, congrArg (Value.int .i64) (by rw [i64_in (by omega) (by omega)]; omega), rfl⟩
      · have hS : x = J := by
          rw [← hS]
          cases x with
          | zero => rw [Sort.scanDown]
          | succ w => rw [Sort.scanDown, if_neg (by simp; omega)]
        refine m_run ?_
        refine TK.drawS mixed rfl ?_
        refine m_take (At.mk : At 0) ?_; refine m_take (At.mk : At 1) ?_; refine m_take (At.mk : At 2) ?_
        refine TA.isF 117 rfl (decide_eq_false (by omega)) ?_
        refine m_take (At.mk : At 3) ?_; refine m_take (At.mk : At 4) ?_; refine m_take (At.mk : At 5) ?_; refine m_take (At.mk : At 6) ?_; refine m_take (At.mk : At 7) ?_; refine m_take (At.mk : At 8) ?_; refine m_take (At.mk : At 9) ?_; refine m_take (At.mk : At 10) ?_; refine m_take (At.mk : At 11) ?_; refine m_take (At.mk : At 12) ?_; refine m_take (At.mk : At 13) ?_; refine m_take (At.mk : At 14) ?_
        refine TA.done (by kernel_rfl) ?_
        refine m_run ?_
        exact hk' _ _ ⟨rfl, rfl, rfl, congrArg (fun z : Nat => Value.int .i64 (z : Int)) hS, rfl⟩
    rintro ρ' _ ⟨e0, e1, ei, ej, rfl⟩
    refine TK.know4 e0 e1 ei ej ?_
    obtain ⟨ht1, ht2, _, ht4⟩ := scanDown_spec (fun x => !ltInt x d[a]!) d i2 j
    have ht2 := ht2 hs2
    generalize hJ : scanDown (fun x => !ltInt x d[a]!) d i2 j = j2 at *
    by_cases hgt : i2 > j2
    · rw [if_pos hgt] at hR
      subst hR
      rw [← hX]
      refine m_run ?_
      have hcI := cellD (b := b) (c := c) (Γ := Γ) hsz (show j2 < n by omega)
      have hcK := cellD (b := b) (c := c) (Γ := Γ) hsz (show a < n by omega)
      refine TK.drawB mixed rfl 13 (DD b c n d :: Γ) (Γ) ?_
      refine m_bake (At.mk : At 0) ?_; refine m_bake (At.mk : At 1) ?_; refine m_bake (At.mk : At 2) ?_; refine m_bake (At.mk : At 3) ?_; refine m_bake (At.mk : At 4) ?_; refine m_bake (At.mk : At 5) ?_; refine m_bake (At.mk : At 6) ?_; refine m_bake (At.mk : At 7) ?_; refine m_bake (At.mk : At 8) ?_; refine m_bake (At.mk : At 9) ?_; refine m_bake (At.mk : At 10) ?_; refine m_bake (At.mk : At 11) ?_; refine m_bake (At.mk : At 12) ?_
      (apply TB.last; kernel_rfl; exact rfl)
      (apply TL.storeOwn 0 (j2); exact rfl; exact rfl; exact rfl; exact rfl; exact tb rfl; exact rfl; exact (Nat.zero_add _).symm; exact (by omega))
      refine TL.back (by (focus ((repeat (first | assumption | exact Ent.refl _ | apply Ent.tail)); done))) ?_
      refine m_take (At.mk : At 14) ?_
      (apply TA.one 15; kernel_rfl; exact rfl)
      (apply TL.storeOwn 0 (a); exact rfl; exact rfl; exact rfl; exact rfl; exact tb rfl; exact rfl; exact (Nat.zero_add _).symm; exact (by omega))
      refine TL.back (by (focus ((repeat (first | assumption | exact Ent.refl _ | apply Ent.tail)); done))) ?_
      refine TA.done (by kernel_rfl) ?_
      refine TK.imp (Δ := DD b c n (swp d (j2) (a)) :: Γ) (fun _ h => by show all (own _ _ _ _ (nums _ (swp d (j2) (a)).toList) :: _) _; rw [← swpD]; exact h) ?_
      have hsz : (swp d (j2) (a)).size = n := (size_swp _ _ _).trans hsz
      clear hcI hcK
      refine m_run ?_
      (apply TK.ret2; exact rfl; exact rfl; (exact m_val); (exact m_val))
      exact ⟨_, rfl, rfl, rfl⟩
    · rw [if_neg hgt] at hR
      have hne : i2 ≠ j2 := fun e => by
        have h1 := hs4 (by omega)
        have h2 := ht4 (by omega) (by omega)
        rw [← e] at h2
        simp only [h1] at h2
        cases h2
      refine m_run ?_
      have hcI := cellD (b := b) (c := c) (Γ := Γ) hsz (show i2 < n by omega)
      have hcK := cellD (b := b) (c := c) (Γ := Γ) hsz (show j2 < n by omega)
      refine TK.drawB mixed rfl 13 (DD b c n d :: Γ) (Γ) ?_
      refine m_bake (At.mk : At 0) ?_; refine m_bake (At.mk : At 1) ?_; refine m_bake (At.mk : At 2) ?_; refine m_bake (At.mk : At 3) ?_; refine m_bake (At.mk : At 4) ?_; refine m_bake (At.mk : At 5) ?_; refine m_bake (At.mk : At 6) ?_; refine m_bake (At.mk : At 7) ?_; refine m_bake (At.mk : At 8) ?_; refine m_bake (At.mk : At 9) ?_; refine m_bake (At.mk : At 10) ?_; refine m_bake (At.mk : At 11) ?_; refine m_bake (At.mk : At 12) ?_
      (apply TB.last; kernel_rfl; exact rfl)
      (apply TL.storeOwn 0 (i2); exact rfl; exact rfl; exact rfl; exact rfl; exact tb rfl; exact rfl; exact (Nat.zero_add _).symm; exact (by omega))
      refine TL.back (by (focus ((repeat (first | assumption | exact Ent.refl _ | apply Ent.tail)); done))) ?_
      refine m_take (At.mk : At 14) ?_
      (apply TA.one 15; kernel_rfl; exact rfl)
      (apply TL.storeOwn 0 (j2); exact rfl; exact rfl; exact rfl; exact rfl; exact tb rfl; exact rfl; exact (Nat.zero_add _).symm; exact (by omega))
      refine TL.back (by (focus ((repeat (first | assumption | exact Ent.refl _ | apply Ent.tail)); done))) ?_
      refine TA.done (by kernel_rfl) ?_
      refine TK.imp (Δ := DD b c n (swp d (i2) (j2)) :: Γ) (fun _ h => by show all (own _ _ _ _ (nums _ (swp d (i2) (j2)).toList) :: _) _; rw [← swpD]; exact h) ?_
      have hsz : (swp d (i2) (j2)).size = n := (size_swp _ _ _).trans hsz
      clear hcI hcK
      refine m_run ?_
      exact IH (m - 1) _ _ (by omega) ⟨i2 + 1, j2 - 1, _, by omega, by omega, by omega, by omega, hsz, hR, rfl, rfl, congrArg (Value.int .i64) (by rw [i64_in (by omega) (by omega)]; omega), congrArg (Value.int .i64) (by rw [i64_in (by omega) (by omega)]; omega), rfl⟩

theorem shiftDown_size : ∀ (j : Nat) (d : Array Int), (shiftDown ltInt j d).size = d.size
  | 0, d => by rw [Sort.shiftDown]
  | j + 1, d => by
    rw [Sort.shiftDown]
    split
    · rfl
    · rw [shiftDown_size j, size_swp]
theorem shiftUp_size (b j : Nat) (d : Array Int) : (shiftUp ltInt b j d).size = d.size := by
  have key : ∀ (N j : Nat) (d : Array Int), b - j ≤ N → (shiftUp ltInt b j d).size = d.size := by
    intro N
    induction N with
    | zero => intro j d h; rw [Sort.shiftUp, if_neg (by omega)]
    | succ N ih =>
      intro j d h
      rw [Sort.shiftUp]
      split
      · split
        · rfl
        · rw [ih _ _ (by omega), size_swp]
      · rfl
  exact key _ j d (Nat.le_refl _)
theorem scanSorted_le (b : Nat) (d : Array Int) : ∀ (i : Nat), i ≤ b → i ≤ scanSorted ltInt d b i ∧ scanSorted ltInt d b i ≤ b := by
  have key : ∀ (N i : Nat), b - i ≤ N → i ≤ b → i ≤ scanSorted ltInt d b i ∧ scanSorted ltInt d b i ≤ b := by
    intro N
    induction N with
    | zero => intro i h hb; rw [Sort.scanSorted, if_neg (by simp; omega)]; omega
    | succ N ih =>
      intro i h hb
      rw [Sort.scanSorted]
      split
      · rename_i hc
        simp at hc
        have := ih (i + 1) (by omega) (by omega)
        omega
      · omega
  exact fun i => key _ i (Nat.le_refl _)
set_option maxRecDepth 100000 in
set_option maxHeartbeats 4000000 in
theorem partial_t (b c n a e : Nat) (d0 : Array Int) (Γ : List HP) (hsz0 : d0.size = n) (hae : a < e) (he : e ≤ n) (hn : n ≤ 1000000000) :
    FnV Try.prog 90 [.slice (some ⟨b, 0, none⟩) n c, .int .i64 (a : Int), .int .i64 (e : Int)] (DD b c n d0 :: Γ) fun v Γ' => v = .bool (partialInsertionSort ltInt d0 a e).2 ∧ Γ' = DD b c n (partialInsertionSort ltInt d0 a e).1 :: Γ := by
  refine Fn.enter Try.func90 rfl rfl rfl fun E => ?_
  unfold partialInsertionSort
  generalize hX : partialIns ltInt a e 5 (a + 1) d0 = X
  refine m_run ?_
  apply TK.iter (fun m ρ' Γ' => ∃ (i : Nat) (d : Array Int), m ≤ 5 ∧ a + 1 ≤ i ∧ i ≤ e ∧ d.size = n ∧ partialIns ltInt a e m i d = X ∧ lk ρ' 0 = .slice (some ⟨b, 0, none⟩) n c ∧ lk ρ' 1 = .int .i64 (a : Int) ∧ lk ρ' 2 = .int .i64 (e : Int) ∧ lk ρ' 7 = .int .i64 (i : Int) ∧ lk ρ' 8 = .int .i64 ((5 - m : Nat) : Int) ∧ Γ' = DD b c n d :: Γ) 5
  · exact ⟨a + 1, d0, Nat.le_refl _, Nat.le_refl _, by omega, hsz0, hX, rfl, rfl, rfl, congrArg (Value.int .i64) (by rw [i64_in (by omega) (by omega)]; omega), rfl, rfl⟩
  clear hX
  rintro m IH ρ' _ ⟨i, d, hm, hi1, hie, hsz, hR, e0, e1, e2, e7, e8, rfl⟩
  refine TK.know5 e0 e1 e2 e7 e8 ?_
  cases m with
  | zero =>
    rw [Sort.partialIns] at hR
    rw [← hR]
    refine m_run ?_
    (apply TK.ret1; exact rfl; exact rfl; (exact m_val))
    exact ⟨_, rfl, rfl, rfl⟩
  | succ m =>
    rw [partialIns_succ] at hR
    obtain ⟨hs1, hs2⟩ := scanSorted_le e d i hie
    (repeat (first | refine TK.seq ?_ | refine TK.skip ?_))
    refine TK.region ?_
    refine m_rrun ?_
    refine TL.nil ?_
    (repeat (first | refine TK.seq ?_ | refine TK.skip ?_))
    refine TK.condT rfl (decide_eq_true (by omega)) ?_
    (repeat (first | refine TK.seq ?_ | refine TK.skip ?_))
    refine TK.block ?_
    (repeat (first | refine TK.seq ?_ | refine TK.skip ?_))
    apply TK.cut (fun ρ' Γ' => lk ρ' 0 = .slice (some ⟨b, 0, none⟩) n c ∧ lk ρ' 1 = .int .i64 (a : Int) ∧ lk ρ' 2 = .int .i64 (e : Int) ∧ lk ρ' 7 = .int .i64 ((scanSorted ltInt d e i : Nat) : Int) ∧ lk ρ' 8 = .int .i64 ((5 - (m + 1) : Nat) : Int) ∧ Γ' = DD b c n d :: Γ)
    · intro k' hk'
      generalize hS : scanSorted ltInt d e i = I at hk'
      refine m_run ?_
      apply TK.iter (fun q ρ' Γ' => ∃ (x : Nat), e - x ≤ q ∧ i ≤ x ∧ x ≤ e ∧ scanSorted ltInt d e x = I ∧ lk ρ' 0 = .slice (some ⟨b, 0, none⟩) n c ∧ lk ρ' 1 = .int .i64 (a : Int) ∧ lk ρ' 2 = .int .i64 (e : Int) ∧ lk ρ' 7 = .int .i64 (x : Int) ∧ lk ρ' 8 = .int .i64 ((5 - (m + 1) : Nat) : Int) ∧ Γ' = DD b c n d :: Γ) e
      · exact ⟨i, by omega, Nat.le_refl _, hie, hS, rfl, rfl, rfl, rfl, rfl, rfl⟩
      clear hS
      rintro q IH2 ρ2 _ ⟨x, hq, hx1, hx2, hS, f0, f1, f2, f7, f8, rfl⟩
      refine TK.know5 f0 f1 f2 f7 f8 ?_
      rw [Sort.scanSorted] at hS
      by_cases hx : x < e
      · have hc1 := cellD (b := b) (c := c) (Γ := Γ) hsz (show x < n by omega)
        have hc2 := cellD (b := b) (c := c) (Γ := Γ) hsz (show x - 1 < n by omega)
        refine m_run ?_
        refine TK.drawS mixed rfl ?_
        refine m_take (At.mk : At 0) ?_; refine m_take (At.mk : At 1) ?_; refine m_take (At.mk : At 2) ?_
        refine TA.isT 19 rfl (decide_eq_true (by omega)) ?_
        refine m_take (At.mk : At 3) ?_; refine m_take (At.mk : At 4) ?_; refine m_take (At.mk : At 5) ?_; refine m_take (At.mk : At 6) ?_; refine m_take (At.mk : At 7) ?_; refine m_take (At.mk : At 8) ?_; refine m_take (At.mk : At 9) ?_; refine m_take (At.mk : At 10) ?_
        refine TA.know (t := 27) (v := .int .i64 ((x - 1 : Nat) : Int)) (congrArg (Value.int .i64) (by rw [i64_in (by omega) (by omega)]; omega)) ?_
        refine m_take (At.mk : At 11) ?_; refine m_take (At.mk : At 12) ?_
        (apply TA.one 13; kernel_rfl; exact rfl)
        refine m_rrun ?_
        (apply TL.callV; exact rfl; exact callB_of (by kernel_rfl); exact rfl; exact fun _ h => h)
        exact less_t _ _ _
        rintro _ _ ⟨rfl, rfl⟩
        refine TL.back (by (focus ((repeat (first | assumption | exact Ent.refl _ | apply Ent.tail)); done))) ?_
        refine m_take (At.mk : At 14) ?_; refine m_take (At.mk : At 15) ?_
        by_cases h : d[x]! < d[x - 1]!
        · rw [if_neg (by simp [ltInt, h])] at hS
          refine TA.isF 32 rfl (not_f (decide_eq_true h)) ?_
          refine TA.done (by kernel_rfl) ?_
          clear hc1 hc2
          refine m_run ?_
          exact hk' _ _ ⟨rfl, rfl, rfl, congrArg (fun z : Nat => Value.int .i64 (z : Int)) hS, rfl, rfl⟩
        · rw [if_pos (by simp [ltInt, h]; omega)] at hS
          refine TA.isT 32 rfl (not_t (decide_eq_false h)) ?_
          refine TA.done (by kernel_rfl) ?_
          clear hc1 hc2
          refine m_run ?_
          exact IH2 (q - 1) _ _ (by omega) ⟨x + 1, by omega, by omega, by omega, hS, rfl, rfl, rfl, congrArg (Value.int .i64) (i64_succ x (by omega)), rfl, rfl⟩
      · rw [if_neg (by simp; omega)] at hS
        refine m_run ?_
        refine TK.drawS mixed rfl ?_
        refine m_take (At.mk : At 0) ?_; refine m_take (At.mk : At 1) ?_; refine m_take (At.mk : At 2) ?_
        refine TA.isF 19 rfl (decide_eq_false (by omega)) ?_
        refine m_take (At.mk : At 3) ?_; refine m_take (At.mk : At 4) ?_; refine m_take (At.mk : At 5) ?_; refine m_take (At.mk : At 6) ?_; refine m_take (At.mk : At 7) ?_; refine m_take (At.mk : At 8) ?_; refine m_take (At.mk : At 9) ?_; refine m_take (At.mk : At 10) ?_; refine m_take (At.mk : At 11) ?_; refine m_take (At.mk : At 12) ?_; refine m_take (At.mk : At 13) ?_; refine m_take (At.mk : At 14) ?_; refine m_take (At.mk : At 15) ?_
        refine TA.done (by kernel_rfl) ?_
        refine m_run ?_
        exact hk' _ _ ⟨rfl, rfl, rfl, congrArg (fun z : Nat => Value.int .i64 (z : Int)) hS, rfl, rfl⟩
    rintro ρ' _ ⟨e0, e1, e2, e7, e8, rfl⟩
    refine TK.know5 e0 e1 e2 e7 e8 ?_
    have hea : IntKind.i64.wrap ((e : Int) - (a : Int)) = ((e - a : Nat) : Int) := by rw [i64_in (by omega) (by omega)]; omega
    generalize scanSorted ltInt d e i = y at *
    have hya : IntKind.i64.wrap ((y : Int) - (a : Int)) = ((y - a : Nat) : Int) := by rw [i64_in (by omega) (by omega)]; omega
    have hey : IntKind.i64.wrap ((e : Int) - (y : Int)) = ((e - y : Nat) : Int) := by rw [i64_in (by omega) (by omega)]; omega
    by_cases hye : y = e
    · rw [if_pos hye] at hR
      rw [← hR]
      refine m_run ?_
      (apply TK.ret1; exact rfl; exact rfl; (exact m_val))
      exact ⟨_, rfl, rfl, rfl⟩
    rw [if_neg hye] at hR
    by_cases h50 : e - a < 50
    · rw [if_pos h50] at hR
      rw [← hR]
      refine m_run ?_
      refine TK.know (t := 41) (v := .bool true) (congrArg Value.bool (by rw [hea]; exact decide_eq_true (by omega))) ?_
      refine m_run ?_
      (apply TK.ret1; exact rfl; exact rfl; (exact m_val))
      exact ⟨_, rfl, rfl, rfl⟩
    rw [if_neg h50] at hR
    unfold fixUp fixDown at hR
    refine m_run ?_
    refine TK.know (t := 41) (v := .bool false) (congrArg Value.bool (by rw [hea]; exact decide_eq_false (by omega))) ?_
    refine m_run ?_
    have hcI := cellD (b := b) (c := c) (Γ := Γ) hsz (show y < n by omega)
    have hcK := cellD (b := b) (c := c) (Γ := Γ) hsz (show y - 1 < n by omega)
    refine TK.drawB mixed rfl 15 (DD b c n d :: Γ) (Γ) ?_
    refine m_bake (At.mk : At 0) ?_; refine m_bake (At.mk : At 1) ?_; refine m_bake (At.mk : At 2) ?_; refine m_bake (At.mk : At 3) ?_; refine m_bake (At.mk : At 4) ?_
    refine TB.know (t := 46) (v := .int .i64 ((y - 1 : Nat) : Int)) (congrArg (Value.int .i64) (by rw [i64_in (by omega) (by omega)]; omega)) ?_
    refine m_bake (At.mk : At 5) ?_; refine m_bake (At.mk : At 6) ?_; refine m_bake (At.mk : At 7) ?_
    refine TB.know (t := 49) (v := .int .i64 ((y - 1 : Nat) : Int)) (congrArg (Value.int .i64) (by rw [i64_in (by omega) (by omega)]; omega)) ?_
    refine m_bake (At.mk : At 8) ?_; refine m_bake (At.mk : At 9) ?_; refine m_bake (At.mk : At 10) ?_; refine m_bake (At.mk : At 11) ?_; refine m_bake (At.mk : At 12) ?_; refine m_bake (At.mk : At 13) ?_; refine m_bake (At.mk : At 14) ?_
    (apply TB.last; kernel_rfl; exact rfl)
    (apply TL.storeOwn 0 (y); exact rfl; exact rfl; exact rfl; exact rfl; exact tb rfl; exact rfl; exact (Nat.zero_add _).symm; exact (by omega))
    refine TL.back (by (focus ((repeat (first | assumption | exact Ent.refl _ | apply Ent.tail)); done))) ?_
    refine m_take (At.mk : At 16) ?_
    (apply TA.one 17; kernel_rfl; exact rfl)
    (apply TL.storeOwn 0 (y - 1); exact rfl; exact rfl; exact rfl; exact rfl; exact tb rfl; exact rfl; exact (Nat.zero_add _).symm; exact (by omega))
    refine TL.back (by (focus ((repeat (first | assumption | exact Ent.refl _ | apply Ent.tail)); done))) ?_
    refine TA.done (by kernel_rfl) ?_
    refine TK.imp (Δ := DD b c n (swp d (y) (y - 1)) :: Γ) (fun _ h => by show all (own _ _ _ _ (nums _ (swp d (y) (y - 1)).toList) :: _) _; rw [← swpD]; exact h) ?_
    have hsz : (swp d (y) (y - 1)).size = n := (size_swp _ _ _).trans hsz
    clear hcI hcK
    generalize swp d y (y - 1) = d at *
    (repeat (first | refine TK.seq ?_ | refine TK.skip ?_))
    refine TK.region ?_
    refine m_rrun ?_
    refine TL.nil ?_
    (repeat (first | refine TK.seq ?_ | refine TK.skip ?_))
    apply TK.cut (fun ρ' Γ' => lk ρ' 0 = .slice (some ⟨b, 0, none⟩) n c ∧ lk ρ' 1 = .int .i64 (a : Int) ∧ lk ρ' 2 = .int .i64 (e : Int) ∧ lk ρ' 7 = .int .i64 (y : Int) ∧ lk ρ' 8 = .int .i64 ((5 - (m + 1) : Nat) : Int) ∧ Γ' = DD b c n (if y - a ≥ 2 then shiftDown ltInt (y - 1) d else d) :: Γ)
    · intro k' hk'
      by_cases h2 : y - a ≥ 2
      · rw [if_pos h2] at hk'
        refine TK.know (t := 61) (v := .bool true) (congrArg Value.bool (by rw [hya]; exact decide_eq_true (by omega))) ?_
        refine m_run ?_
        generalize hS : shiftDown ltInt (y - 1) d = Y at hk'
        apply TK.iter (fun q ρ' Γ' => ∃ (d : Array Int), q + 1 ≤ y ∧ d.size = n ∧ shiftDown ltInt q d = Y ∧ lk ρ' 0 = .slice (some ⟨b, 0, none⟩) n c ∧ lk ρ' 1 = .int .i64 (a : Int) ∧ lk ρ' 2 = .int .i64 (e : Int) ∧ lk ρ' 7 = .int .i64 (y : Int) ∧ lk ρ' 8 = .int .i64 ((5 - (m + 1) : Nat) : Int) ∧ lk ρ' 9 = .int .i64 (q : Int) ∧ Γ' = DD b c n d :: Γ) (y - 1)
        · exact ⟨d, by omega, hsz, hS, rfl, rfl, rfl, rfl, rfl, congrArg (Value.int .i64) (by rw [i64_in (by omega) (by omega)]; omega), rfl⟩
        clear hS hsz hR
        rintro q IH2 ρ2 _ ⟨d, hq, hsz, hS, f0, f1, f2, f7, f8, f9, rfl⟩
        refine TK.know6 f0 f1 f2 f7 f8 f9 ?_
        cases q with
        | zero =>
          rw [Sort.shiftDown] at hS
          rw [hS]
          refine m_run ?_
          exact hk' _ _ ⟨rfl, rfl, rfl, rfl, rfl, rfl⟩
        | succ w =>
          rw [Sort.shiftDown] at hS
          have hc1 := cellD (b := b) (c := c) (Γ := Γ) hsz (show w + 1 < n by omega)
          have hc2 := cellD (b := b) (c := c) (Γ := Γ) hsz (show w < n by omega)
          refine m_run ?_
          refine TK.drawS mixed rfl ?_
          refine m_take (At.mk : At 0) ?_; refine m_take (At.mk : At 1) ?_; refine m_take (At.mk : At 2) ?_; refine m_take (At.mk : At 3) ?_; refine m_take (At.mk : At 4) ?_; refine m_take (At.mk : At 5) ?_; refine m_take (At.mk : At 6) ?_
          refine TA.know (t := 74) (v := .int .i64 ((w : Nat) : Int)) (congrArg (Value.int .i64) (by rw [i64_in (by omega) (by omega)]; omega)) ?_
          refine m_take (At.mk : At 7) ?_; refine m_take (At.mk : At 8) ?_
          (apply TA.one 9; kernel_rfl; exact rfl)
          (apply TL.callV; exact rfl; exact callB_of (by kernel_rfl); exact rfl; exact fun _ h => h)
          exact less_t _ _ _
          rintro _ _ ⟨rfl, rfl⟩
          refine TL.back (by (focus ((repeat (first | assumption | exact Ent.refl _ | apply Ent.tail)); done))) ?_
          refine m_take (At.mk : At 10) ?_
          by_cases h : d[w + 1]! < d[w]!
          · rw [if_neg (by simp [ltInt, h])] at hS
            refine TA.isF 78 rfl (not_f (decide_eq_true h)) ?_
            refine TA.done (by kernel_rfl) ?_
            clear hc1 hc2
            refine m_run ?_
            have hcI := cellD (b := b) (c := c) (Γ := Γ) hsz (show w + 1 < n by omega)
            have hcK := cellD (b := b) (c := c) (Γ := Γ) hsz (show w < n by omega)
            refine TK.drawB mixed rfl 15 (DD b c n d :: Γ) (Γ) ?_
            refine m_bake (At.mk : At 0) ?_; refine m_bake (At.mk : At 1) ?_; refine m_bake (At.mk : At 2) ?_; refine m_bake (At.mk : At 3) ?_; refine m_bake (At.mk : At 4) ?_
            refine TB.know (t := 83) (v := .int .i64 ((w : Nat) : Int)) (congrArg (Value.int .i64) (by rw [i64_in (by omega) (by omega)]; omega)) ?_
            refine m_bake (At.mk : At 5) ?_; refine m_bake (At.mk : At 6) ?_; refine m_bake (At.mk : At 7) ?_
            refine TB.know (t := 86) (v := .int .i64 ((w : Nat) : Int)) (congrArg (Value.int .i64) (by rw [i64_in (by omega) (by omega)]; omega)) ?_
            refine m_bake (At.mk : At 8) ?_; refine m_bake (At.mk : At 9) ?_; refine m_bake (At.mk : At 10) ?_; refine m_bake (At.mk : At 11) ?_; refine m_bake (At.mk : At 12) ?_; refine m_bake (At.mk : At 13) ?_; refine m_bake (At.mk : At 14) ?_
            (apply TB.last; kernel_rfl; exact rfl)
            (apply TL.storeOwn 0 (w + 1); exact rfl; exact rfl; exact rfl; exact rfl; exact tb rfl; exact rfl; exact (Nat.zero_add _).symm; exact (by omega))
            refine TL.back (by (focus ((repeat (first | assumption | exact Ent.refl _ | apply Ent.tail)); done))) ?_
            refine m_take (At.mk : At 16) ?_
            (apply TA.one 17; kernel_rfl; exact rfl)
            (apply TL.storeOwn 0 (w); exact rfl; exact rfl; exact rfl; exact rfl; exact tb rfl; exact rfl; exact (Nat.zero_add _).symm; exact (by omega))
            refine TL.back (by (focus ((repeat (first | assumption | exact Ent.refl _ | apply Ent.tail)); done))) ?_
            refine TA.done (by kernel_rfl) ?_
            refine TK.imp (Δ := DD b c n (swp d (w + 1) (w)) :: Γ) (fun _ h => by show all (own _ _ _ _ (nums _ (swp d (w + 1) (w)).toList) :: _) _; rw [← swpD]; exact h) ?_
            have hsz : (swp d (w + 1) (w)).size = n := (size_swp _ _ _).trans hsz
            clear hcI hcK
            refine m_run ?_
            exact IH2 w _ _ (by omega) ⟨_, by omega, hsz, hS, rfl, rfl, rfl, rfl, rfl, congrArg (Value.int .i64) (by rw [i64_in (by omega) (by omega)]; omega), rfl⟩
          · rw [if_pos (by simp [ltInt, h])] at hS
            refine TA.isT 78 rfl (not_t (decide_eq_false h)) ?_
            refine TA.done (by kernel_rfl) ?_
            rw [hS]
            refine m_run ?_
            exact hk' _ _ ⟨rfl, rfl, rfl, rfl, rfl, rfl⟩
      · rw [if_neg h2] at hk'
        refine TK.know (t := 61) (v := .bool false) (congrArg Value.bool (by rw [hya]; exact decide_eq_false (by omega))) ?_
        refine m_run ?_
        exact hk' _ _ ⟨rfl, rfl, rfl, rfl, rfl, rfl⟩
    rintro ρ' _ ⟨e0, e1, e2, e7, e8, rfl⟩
    refine TK.know5 e0 e1 e2 e7 e8 ?_
    have hsz : (if y - a ≥ 2 then shiftDown ltInt (y - 1) d else d).size = n := by
      split
      · rw [shiftDown_size]; exact hsz
      · exact hsz
    generalize (if y - a ≥ 2 then shiftDown ltInt (y - 1) d else d) = d at *
    (repeat (first | refine TK.seq ?_ | refine TK.skip ?_))
    refine TK.region ?_
    refine m_rrun ?_
    refine TL.nil ?_
    (repeat (first | refine TK.seq ?_ | refine TK.skip ?_))
    apply TK.cut (fun ρ' Γ' => lk ρ' 0 = .slice (some ⟨b, 0, none⟩) n c ∧ lk ρ' 1 = .int .i64 (a : Int) ∧ lk ρ' 2 = .int .i64 (e : Int) ∧ lk ρ' 7 = .int .i64 (y : Int) ∧ lk ρ' 8 = .int .i64 ((5 - (m + 1) : Nat) : Int) ∧ Γ' = DD b c n (if e - y ≥ 2 then shiftUp ltInt e (y + 1) d else d) :: Γ)
    · intro k' hk'
      by_cases h2 : e - y ≥ 2
      · rw [if_pos h2] at hk'
        refine TK.know (t := 98) (v := .bool true) (congrArg Value.bool (by rw [hey]; exact decide_eq_true (by omega))) ?_
        refine m_run ?_
        generalize hS : shiftUp ltInt e (y + 1) d = Y at hk'
        apply TK.iter (fun q ρ' Γ' => ∃ (x : Nat) (d : Array Int), e - x ≤ q ∧ y + 1 ≤ x ∧ x ≤ e ∧ d.size = n ∧ shiftUp ltInt e x d = Y ∧ lk ρ' 0 = .slice (some ⟨b, 0, none⟩) n c ∧ lk ρ' 1 = .int .i64 (a : Int) ∧ lk ρ' 2 = .int .i64 (e : Int) ∧ lk ρ' 7 = .int .i64 (y : Int) ∧ lk ρ' 8 = .int .i64 ((5 - (m + 1) : Nat) : Int) ∧ lk ρ' 10 = .int .i64 (x : Int) ∧ Γ' = DD b c n d :: Γ) e
        · exact ⟨y + 1, d, by omega, Nat.le_refl _, by omega, hsz, hS, rfl, rfl, rfl, rfl, rfl, congrArg (Value.int .i64) (i64_succ y (by omega)), rfl⟩
        clear hS hsz hR
        rintro q IH2 ρ2 _ ⟨x, d, hq, hx1, hx2, hsz, hS, f0, f1, f2, f7, f8, f10, rfl⟩
        refine TK.know6 f0 f1 f2 f7 f8 f10 ?_
        rw [Sort.shiftUp] at hS
        by_cases hx : x < e
        · rw [if_pos hx] at hS
          have hc1 := cellD (b := b) (c := c) (Γ := Γ) hsz (show x < n by omega)
          have hc2 := cellD (b := b) (c := c) (Γ := Γ) hsz (show x - 1 < n by omega)
          refine m_run ?_
          refine TK.drawS mixed rfl ?_
          refine m_take (At.mk : At 0) ?_; refine m_take (At.mk : At 1) ?_; refine m_take (At.mk : At 2) ?_; refine m_take (At.mk : At 3) ?_; refine m_take (At.mk : At 4) ?_; refine m_take (At.mk : At 5) ?_; refine m_take (At.mk : At 6) ?_
          refine TA.know (t := 112) (v := .int .i64 ((x - 1 : Nat) : Int)) (congrArg (Value.int .i64) (by rw [i64_in (by omega) (by omega)]; omega)) ?_
          refine m_take (At.mk : At 7) ?_; refine m_take (At.mk : At 8) ?_
          (apply TA.one 9; kernel_rfl; exact rfl)
          (apply TL.callV; exact rfl; exact callB_of (by kernel_rfl); exact rfl; exact fun _ h => h)
          exact less_t _ _ _
          rintro _ _ ⟨rfl, rfl⟩
          refine TL.back (by (focus ((repeat (first | assumption | exact Ent.refl _ | apply Ent.tail)); done))) ?_
          refine m_take (At.mk : At 10) ?_
          by_cases h : d[x]! < d[x - 1]!
          · rw [if_neg (by simp [ltInt, h])] at hS
            refine TA.isF 116 rfl (not_f (decide_eq_true h)) ?_
            refine TA.done (by kernel_rfl) ?_
            clear hc1 hc2
            refine m_run ?_
            have hcI := cellD (b := b) (c := c) (Γ := Γ) hsz (show x < n by omega)
            have hcK := cellD (b := b) (c := c) (Γ := Γ) hsz (show x - 1 < n by omega)
            refine TK.drawB mixed rfl 15 (DD b c n d :: Γ) (Γ) ?_
            refine m_bake (At.mk : At 0) ?_; refine m_bake (At.mk : At 1) ?_; refine m_bake (At.mk : At 2) ?_; refine m_bake (At.mk : At 3) ?_; refine m_bake (At.mk : At 4) ?_
            refine TB.know (t := 121) (v := .int .i64 ((x - 1 : Nat) : Int)) (congrArg (Value.int .i64) (by rw [i64_in (by omega) (by omega)]; omega)) ?_
            refine m_bake (At.mk : At 5) ?_; refine m_bake (At.mk : At 6) ?_; refine m_bake (At.mk : At 7) ?_
            refine TB.know (t := 124) (v := .int .i64 ((x - 1 : Nat) : Int)) (congrArg (Value.int .i64) (by rw [i64_in (by omega) (by omega)]; omega)) ?_
            refine m_bake (At.mk : At 8) ?_; refine m_bake (At.mk : At 9) ?_; refine m_bake (At.mk : At 10) ?_; refine m_bake (At.mk : At 11) ?_; refine m_bake (At.mk : At 12) ?_; refine m_bake (At.mk : At 13) ?_; refine m_bake (At.mk : At 14) ?_
            (apply TB.last; kernel_rfl; exact rfl)
            (apply TL.storeOwn 0 (x); exact rfl; exact rfl; exact rfl; exact rfl; exact tb rfl; exact rfl; exact (Nat.zero_add _).symm; exact (by omega))
            refine TL.back (by (focus ((repeat (first | assumption | exact Ent.refl _ | apply Ent.tail)); done))) ?_
            refine m_take (At.mk : At 16) ?_
            (apply TA.one 17; kernel_rfl; exact rfl)
            (apply TL.storeOwn 0 (x - 1); exact rfl; exact rfl; exact rfl; exact rfl; exact tb rfl; exact rfl; exact (Nat.zero_add _).symm; exact (by omega))
            refine TL.back (by (focus ((repeat (first | assumption | exact Ent.refl _ | apply Ent.tail)); done))) ?_
            refine TA.done (by kernel_rfl) ?_
            refine TK.imp (Δ := DD b c n (swp d (x) (x - 1)) :: Γ) (fun _ h => by show all (own _ _ _ _ (nums _ (swp d (x) (x - 1)).toList) :: _) _; rw [← swpD]; exact h) ?_
            have hsz : (swp d (x) (x - 1)).size = n := (size_swp _ _ _).trans hsz
            clear hcI hcK
            refine m_run ?_
            exact IH2 (q - 1) _ _ (by omega) ⟨x + 1, _, by omega, by omega, by omega, hsz, hS, rfl, rfl, rfl, rfl, rfl, congrArg (Value.int .i64) (i64_succ x (by omega)), rfl⟩
          · rw [if_pos (by simp [ltInt, h])] at hS
            refine TA.isT 116 rfl (not_t (decide_eq_false h)) ?_
            refine TA.done (by kernel_rfl) ?_
            rw [hS]
            refine m_run ?_
            exact hk' _ _ ⟨rfl, rfl, rfl, rfl, rfl, rfl⟩
        · rw [if_neg hx] at hS
          rw [hS]
          refine m_run ?_
          exact hk' _ _ ⟨rfl, rfl, rfl, rfl, rfl, rfl⟩
      · rw [if_neg h2] at hk'
        refine TK.know (t := 98) (v := .bool false) (congrArg Value.bool (by rw [hey]; exact decide_eq_false (by omega))) ?_
        refine m_run ?_
        exact hk' _ _ ⟨rfl, rfl, rfl, rfl, rfl, rfl⟩
    rintro ρ' _ ⟨e0, e1, e2, e7, e8, rfl⟩
    refine TK.know5 e0 e1 e2 e7 e8 ?_
    have hsz : (if e - y ≥ 2 then shiftUp ltInt e (y + 1) d else d).size = n := by
      split
      · rw [shiftUp_size]; exact hsz
      · exact hsz
    refine m_run ?_
    exact IH m _ _ (by omega) ⟨y, _, by omega, by omega, by omega, hsz, hR, rfl, rfl, rfl, rfl, congrArg (Value.int .i64) (by rw [i64_in (by omega) (by omega)]; omega), rfl⟩

def okTab (a : ByteArray) : Bool := Nat.beq a.size 256 && (List.range 256).all fun i => Nat.ble (a.get! i).toNat 8 && (Nat.beq i 0 || Nat.ble (2 ^ (a.get! i).toNat) (2 * i))
theorem okTab_spec {a : ByteArray} (h : okTab a = true) {i : Nat} (hi : i < 256) (hs : i < a.size) : (a[i]'hs).toNat ≤ 8 ∧ (0 < i → 2 ^ (a[i]'hs).toNat ≤ 2 * i) := by
  unfold okTab at h
  rw [Bool.and_eq_true] at h
  have h1 := List.all_eq_true.1 h.2 i (List.mem_range.2 hi)
  have e : a.get! i = a[i]'hs := by
    rw [ByteArray.getElem_eq_getElem_data]
    show a.data[i]! = _
    exact getElem!_pos a.data i hs
  rw [e, Bool.and_eq_true, Bool.or_eq_true] at h1
  refine ⟨Nat.le_of_ble_eq_true h1.1, fun h0 => ?_⟩
  rcases h1.2 with h2 | h2
  · have := Nat.eq_of_beq_eq_true h2; omega
  · exact Nat.le_of_ble_eq_true h2
theorem TL.indexTab {cx : Cx} {ops : Array Oper} {K : Act → World → Prop} {rest : List Oper} {ρ : Env} {ds : List Deferred} {Γ : List HP} {d : Nat} {ty t : TypeId} {pos : String} {after : Array Edge} {x y : Operand} {a : ByteArray} {q : IntKind} {i : Nat} {r : TR} (hd : Nat.blt d cx.n = true) (ea : ev ρ x = .string a) (eb : ev ρ y = .int q i) (ht : TabOk cx.P t r) (hq : r.und = .string) (hok : okTab a = true) (hi : i < 256)
    (h : ∀ u : Nat, u ≤ 8 → (0 < i → 2 ^ u ≤ 2 * i) → TL cx ops K rest ((d, .int .u8 (u : Int)) :: ρ) ds Γ) : TL cx ops K (⟨some d, .index t x y, ty, pos, after, none⟩ :: rest) ρ ds Γ := by
  have hs : i < a.size := by
    unfold okTab at hok
    rw [Bool.and_eq_true] at hok
    rw [Nat.eq_of_beq_eq_true hok.1]; exact hi
  obtain ⟨h1, h2⟩ := okTab_spec hok hi hs
  exact TL.pv hd (PV.indexStr ea eb ht hq hs) (h _ h1 h2)
theorem bxor_nat (a b : Int) : ∃ y : Nat, bitsOf .xor .u64 a b = (y : Int) ∧ y < 18446744073709551616 := by
  refine ⟨(BitVec.ofInt 64 a ^^^ BitVec.ofInt 64 b).toNat % 2 ^ 64, ?_, Nat.mod_lt _ (by decide)⟩
  show IntKind.u64.wrap _ = _
  exact wrap_nat rfl _
set_option maxRecDepth 100000 in
set_option maxHeartbeats 4000000 in
theorem len64_t (n : Nat) (hn : n ≤ 1000000000) (Γ : List HP) : FnV Try.prog 84 [.int .u64 (n : Int)] Γ fun v Γ' => ∃ L : Nat, L ≤ 32 ∧ (0 < n → 2 ^ L ≤ 2 * n) ∧ v = .int .i64 (L : Int) ∧ Γ' = Γ := by
  refine Fn.enter Try.func84 rfl rfl rfl fun E => ?_
  by_cases h16 : 65536 ≤ n
  · have h17 : 256 ≤ n / 2 ^ 16 ∨ ¬ 256 ≤ n / 2 ^ 16 := Decidable.em _
    rcases h17 with h8 | h8
    · have hm : n / 2 ^ 16 / 2 ^ 8 < 256 := by omega
      have hm0 : 0 < n / 2 ^ 16 / 2 ^ 8 := by omega
      have hd : n / 2 ^ 16 / 2 ^ 8 * 16777216 ≤ n := by omega
      refine m_run ?_
      generalize n / 2 ^ 16 / 2 ^ 8 = m at *
      refine TL.know (t := 21) (v := .int .u8 ((m : Nat) : Int)) (congrArg (Value.int .u8) (u8_in (by omega) (by omega))) ?_
      (apply TL.indexTab (i := m); exact rfl; exact rfl; exact rfl; exact tb rfl; exact rfl; kernel_rfl; exact (by omega))
      intro u hu hu2
      refine m_run ?_
      refine TK.know (t := 2) (v := .int .i64 ((24 + u : Nat) : Int)) (congrArg (Value.int .i64) (by rw [i64_in (x := (0 : Int) + 16) (by decide) (by decide), i64_in (x := (0 : Int) + 16 + 8) (by decide) (by decide), i64_in (x := (u : Int)) (by omega) (by omega), i64_in (by omega) (by omega)]; omega)) ?_
      (apply TK.ret1; exact rfl; exact rfl; (exact m_val))
      exact ⟨_, rfl, _, by omega, fun h0 => by have := hu2 (by omega); rw [Nat.pow_add]; show 16777216 * 2 ^ u ≤ _; generalize 2 ^ u = w at *; omega, rfl, rfl⟩
    · have hm : n / 2 ^ 16 < 256 := by omega
      have hm0 : 0 < n / 2 ^ 16 := by omega
      have hd : n / 2 ^ 16 * 65536 ≤ n := by omega
      refine m_run ?_
      generalize n / 2 ^ 16 = m at *
      refine TL.know (t := 21) (v := .int .u8 ((m : Nat) : Int)) (congrArg (Value.int .u8) (u8_in (by omega) (by omega))) ?_
      (apply TL.indexTab (i := m); exact rfl; exact rfl; exact rfl; exact tb rfl; exact rfl; kernel_rfl; exact (by omega))
      intro u hu hu2
      refine m_run ?_
      refine TK.know (t := 2) (v := .int .i64 ((16 + u : Nat) : Int)) (congrArg (Value.int .i64) (by rw [i64_in (x := (0 : Int) + 16) (by decide) (by decide), i64_in (x := (u : Int)) (by omega) (by omega), i64_in (by omega) (by omega)]; omega)) ?_
      (apply TK.ret1; exact rfl; exact rfl; (exact m_val))
      exact ⟨_, rfl, _, by omega, fun h0 => by have := hu2 (by omega); rw [Nat.pow_add]; show 65536 * 2 ^ u ≤ _; generalize 2 ^ u = w at *; omega, rfl, rfl⟩
  · by_cases h8 : 256 ≤ n
    · have hm : n / 2 ^ 8 < 256 := by omega
      have hm0 : 0 < n / 2 ^ 8 := by omega
      have hd : n / 2 ^ 8 * 256 ≤ n := by omega
      refine m_run ?_
      generalize n / 2 ^ 8 = m at *
      refine TL.know (t := 21) (v := .int .u8 ((m : Nat) : Int)) (congrArg (Value.int .u8) (u8_in (by omega) (by omega))) ?_
      (apply TL.indexTab (i := m); exact rfl; exact rfl; exact rfl; exact tb rfl; exact rfl; kernel_rfl; exact (by omega))
      intro u hu hu2
      refine m_run ?_
      refine TK.know (t := 2) (v := .int .i64 ((8 + u : Nat) : Int)) (congrArg (Value.int .i64) (by rw [i64_in (x := (0 : Int) + 8) (by decide) (by decide), i64_in (x := (u : Int)) (by omega) (by omega), i64_in (by omega) (by omega)]; omega)) ?_
      (apply TK.ret1; exact rfl; exact rfl; (exact m_val))
      exact ⟨_, rfl, _, by omega, fun h0 => by have := hu2 (by omega); rw [Nat.pow_add]; show 256 * 2 ^ u ≤ _; generalize 2 ^ u = w at *; omega, rfl, rfl⟩
    · refine m_run ?_
      refine TL.know (t := 21) (v := .int .u8 ((n : Nat) : Int)) (congrArg (Value.int .u8) (u8_in (by omega) (by omega))) ?_
      (apply TL.indexTab (i := n); exact rfl; exact rfl; exact rfl; exact tb rfl; exact rfl; kernel_rfl; exact (by omega))
      intro u hu hu2
      refine m_run ?_
      refine TK.know (t := 2) (v := .int .i64 ((0 + u : Nat) : Int)) (congrArg (Value.int .i64) (by rw [i64_in (x := (u : Int)) (by omega) (by omega), i64_in (by omega) (by omega)]; omega)) ?_
      (apply TK.ret1; exact rfl; exact rfl; (exact m_val))
      exact ⟨_, rfl, _, by omega, fun h0 => by rw [Nat.zero_add]; exact hu2 h0, rfl, rfl⟩
set_option maxRecDepth 100000 in
set_option maxHeartbeats 4000000 in
theorem len_t (n : Nat) (hn : n ≤ 1000000000) (Γ : List HP) : FnV Try.prog 57 [.int .u64 (n : Int)] Γ fun v Γ' => ∃ L : Nat, L ≤ 32 ∧ (0 < n → 2 ^ L ≤ 2 * n) ∧ v = .int .i64 (L : Int) ∧ Γ' = Γ := by
  refine Fn.enter Try.func57 rfl rfl rfl fun E => ?_
  refine m_run ?_
  (apply TL.callV; exact rfl; exact callB_of (by kernel_rfl); exact rfl; exact fun _ h => h)
  exact len64_t n hn Γ
  rintro _ Γ ⟨L, h1, h2, rfl, rfl⟩
  refine m_run ?_
  (apply TK.ret1; exact rfl; exact rfl; (exact m_val))
  exact ⟨_, rfl, L, h1, h2, rfl, rfl⟩
set_option maxRecDepth 100000 in
set_option maxHeartbeats 4000000 in
theorem npow_t (n : Nat) (h0 : 0 < n) (hn : n ≤ 1000000000) (Γ : List HP) : FnV Try.prog 108 [.int .i64 (n : Int)] Γ fun v Γ' => ∃ M : Nat, 1 ≤ M ∧ M ≤ 2 * n ∧ v = .int .u64 (M : Int) ∧ Γ' = Γ := by
  refine Fn.enter Try.func108 rfl rfl rfl fun E => ?_
  refine m_run ?_
  refine TL.know (t := 4) (v := .int .u64 (n : Int)) (congrArg (Value.int .u64) (u64_nat (by omega))) ?_
  (apply TL.callV; exact rfl; exact callB_of (by kernel_rfl); exact rfl; exact fun _ h => h)
  exact len_t n hn Γ
  rintro _ Γ ⟨L, h1, h2, rfl, rfl⟩
  have h2 := h2 h0
  have h3 := Nat.two_pow_pos L
  have hw : IntKind.u64.wrap (1 * 2 ^ (min ((L : Int)).toNat IntKind.u64.bits)) = ((2 ^ L : Nat) : Int) := by
    rw [Int.toNat_natCast, Nat.min_eq_left (by show L ≤ 64; omega), Int.one_mul, show (2 : Int) ^ L = ((2 ^ L : Nat) : Int) by simp, u64_nat (by omega)]
  (apply TL.pv; exact rfl; (apply PV.shl; exact rfl; exact rfl; exact (by omega)))
  rw [hw]
  generalize 2 ^ L = M at *
  refine m_run ?_
  (apply TK.ret1; exact rfl; exact rfl; (exact m_val))
  exact ⟨_, rfl, M, h3, h2, rfl, rfl⟩
set_option maxRecDepth 100000 in
set_option maxHeartbeats 4000000 in
theorem next_t (s x : Nat) (Γ : List HP) : FnV Try.prog 109 [.pointer (some ⟨s, 0, none⟩)] (row s [.int .u64 (x : Int)] 170 :: Γ) fun v Γ' => ∃ y : Nat, y < 18446744073709551616 ∧ v = .int .u64 (y : Int) ∧ Γ' = row s [.int .u64 (y : Int)] 170 :: Γ := by
  refine Fn.enter Try.func109 rfl rfl rfl fun E => ?_
  refine m_run ?_
  refine TK.drawB mixed rfl 9 (row s [.int .u64 (x : Int)] 170 :: Γ) Γ ?_
  refine m_bake (At.mk : At 0) ?_; refine m_bake (At.mk : At 1) ?_; refine m_bake (At.mk : At 2) ?_; refine m_bake (At.mk : At 3) ?_; refine m_bake (At.mk : At 4) ?_; refine m_bake (At.mk : At 5) ?_
  (apply TB.takeA (At.mk : At 6); exact rfl; exact rfl; kernel_rfl; exact rfl; ((focus ((repeat (first | assumption | exact Ent.refl _ | apply Ent.tail)); done))); (apply PV.shl; exact rfl; exact rfl; exact (by decide)))
  refine m_bake (At.mk : At 7) ?_; refine m_bake (At.mk : At 8) ?_
  (apply TB.last; kernel_rfl; exact rfl)
  refine m_rrun ?_
  refine TL.back (by (focus ((repeat (first | assumption | exact Ent.refl _ | apply Ent.tail)); done))) ?_
  refine TA.done (by kernel_rfl) ?_
  generalize bitsOf .xor .u64 _ _ = x1
  refine m_run ?_
  refine TK.drawB mixed rfl 9 (row s [.int .u64 x1] 170 :: Γ) Γ ?_
  refine m_bake (At.mk : At 0) ?_; refine m_bake (At.mk : At 1) ?_; refine m_bake (At.mk : At 2) ?_; refine m_bake (At.mk : At 3) ?_; refine m_bake (At.mk : At 4) ?_; refine m_bake (At.mk : At 5) ?_
  (apply TB.takeA (At.mk : At 6); exact rfl; exact rfl; kernel_rfl; exact rfl; ((focus ((repeat (first | assumption | exact Ent.refl _ | apply Ent.tail)); done))); (apply PV.shr; exact rfl; exact rfl; exact (by decide)))
  refine m_bake (At.mk : At 7) ?_; refine m_bake (At.mk : At 8) ?_
  (apply TB.last; kernel_rfl; exact rfl)
  refine m_rrun ?_
  refine TL.back (by (focus ((repeat (first | assumption | exact Ent.refl _ | apply Ent.tail)); done))) ?_
  refine TA.done (by kernel_rfl) ?_
  generalize bitsOf .xor .u64 _ _ = x2
  refine m_run ?_
  refine TK.drawB mixed rfl 9 (row s [.int .u64 x2] 170 :: Γ) Γ ?_
  refine m_bake (At.mk : At 0) ?_; refine m_bake (At.mk : At 1) ?_; refine m_bake (At.mk : At 2) ?_; refine m_bake (At.mk : At 3) ?_; refine m_bake (At.mk : At 4) ?_; refine m_bake (At.mk : At 5) ?_
  (apply TB.takeA (At.mk : At 6); exact rfl; exact rfl; kernel_rfl; exact rfl; ((focus ((repeat (first | assumption | exact Ent.refl _ | apply Ent.tail)); done))); (apply PV.shl; exact rfl; exact rfl; exact (by decide)))
  refine m_bake (At.mk : At 7) ?_
  obtain ⟨y, hy, hy2⟩ := bxor_nat x2 (IntKind.u64.wrap (x2 * 2 ^ min (Int.toNat 17) IntKind.u64.bits))
  refine TB.know (t := 28) (v := .int .u64 (y : Int)) (congrArg (Value.int .u64) hy) ?_
  refine m_bake (At.mk : At 8) ?_
  (apply TB.last; kernel_rfl; exact rfl)
  refine m_rrun ?_
  refine TL.back (by (focus ((repeat (first | assumption | exact Ent.refl _ | apply Ent.tail)); done))) ?_
  refine TA.done (by kernel_rfl) ?_
  refine m_run ?_
  (apply TK.ret1; exact rfl; exact rfl; (exact m_val))
  exact ⟨_, rfl, y, hy2, rfl, rfl⟩
set_option maxRecDepth 100000 in
set_option maxHeartbeats 4000000 in
theorem brk_t (b c n a e : Nat) (d0 : Array Int) (Γ : List HP) (hsz0 : d0.size = n) (hae : a + 12 < e) (he : e ≤ n) (hn : n ≤ 1000000000) :
    FnV Try.prog 87 [.slice (some ⟨b, 0, none⟩) n c, .int .i64 (a : Int), .int .i64 (e : Int)] (DD b c n d0 :: Γ) fun v Γ' => v = .tuple #[] ∧ ∃ d, PermIn a e d0 d ∧ Γ' = DD b c n d :: Γ := by
  refine Fn.enter Try.func87 rfl rfl rfl fun E => ?_
  have hq1 : (e - a) / 4 * 4 ≤ e - a := Nat.div_mul_le_self _ _
  have hq3 : 3 ≤ (e - a) / 4 := by omega
  have hqt : IntKind.i64.wrap (((e - a : Nat) : Int).tdiv 4) = (((e - a) / 4 : Nat) : Int) := by
    rw [show ((e - a : Nat) : Int).tdiv 4 = (((e - a) / 4 : Nat) : Int) from rfl, i64_in (by omega) (by omega)]
  generalize (e - a) / 4 = q at *
  have hea : IntKind.i64.wrap ((e : Int) - (a : Int)) = ((e - a : Nat) : Int) := by rw [i64_in (by omega) (by omega)]; omega
  refine m_run ?_
  refine TL.know (t := 17) (v := .int .u64 ((e - a : Nat) : Int)) (congrArg (Value.int .u64) (by rw [hea]; exact u64_nat (by omega))) ?_
  refine TL.know (t := 6) (v := .int .i64 ((e - a : Nat) : Int)) (congrArg (Value.int .i64) hea) ?_
  obtain ⟨L, hL⟩ : ∃ L, e - a = L := ⟨_, rfl⟩
  rw [hL] at hqt hq1 ⊢
  (apply TL.alloc; exact rfl; exact tb rfl; (exact m_lst))
  intro s
  refine m_run ?_
  refine TL.imp (Δ := row s [.int .u64 (L : Int)] 170 :: DD b c n d0 :: Γ) (fun _ h => h) ?_
  (apply TL.callV; exact rfl; exact callB_of (by kernel_rfl); exact rfl; exact fun _ h => h)
  exact npow_t L (by omega) (by omega) _
  rintro _ _ ⟨M, hM1, hM2, rfl, rfl⟩
  refine m_run ?_
  refine TK.know (t := 9) (v := .int .i64 ((a + q * 2 - 1 : Nat) : Int)) (congrArg (Value.int .i64) (by rw [hqt, i64_in (x := (q : Int) * 2) (by omega) (by omega), i64_in (x := (a : Int) + (q : Int) * 2) (by omega) (by omega), i64_in (by omega) (by omega)]; omega)) ?_
  apply TK.iter (fun m ρ' Γ' => ∃ (x y : Nat) (d : Array Int), x + m = a + q * 2 + 3 ∧ a + q * 2 ≤ x + 1 ∧ y < 18446744073709551616 ∧ PermIn a e d0 d ∧ lk ρ' 0 = .slice (some ⟨b, 0, none⟩) n c ∧ lk ρ' 1 = .int .i64 (a : Int) ∧ lk ρ' 6 = .int .i64 (L : Int) ∧ lk ρ' 7 = .pointer (some ⟨s, 0, none⟩) ∧ lk ρ' 8 = .int .u64 (M : Int) ∧ lk ρ' 9 = .int .i64 (x : Int) ∧ Γ' = row s [.int .u64 (y : Int)] 170 :: DD b c n d :: Γ) 4
  · exact ⟨a + q * 2 - 1, L, d0, by omega, by omega, by omega, permIn_refl _ _ _, rfl, rfl, rfl, rfl, rfl, rfl, rfl⟩
  rintro m IH ρ' _ ⟨x, y, d, hm, hx, hy, hP, e0, e1, e6, e7, e8, e9, rfl⟩
  refine TK.know6 e0 e1 e6 e7 e8 e9 ?_
  have hsz : d.size = n := hP.1.trans hsz0
  have hw : IntKind.i64.wrap (IntKind.i64.wrap ((a : Int) + IntKind.i64.wrap (IntKind.i64.wrap ((L : Int).tdiv 4) * 2)) + 1) = ((a + q * 2 + 1 : Nat) : Int) := by
    rw [hqt, i64_in (x := (q : Int) * 2) (by omega) (by omega), i64_in (x := (a : Int) + (q : Int) * 2) (by omega) (by omega), i64_in (by omega) (by omega)]; omega
  by_cases hx2 : x ≤ a + q * 2 + 1
  · refine m_run ?_
    (apply TL.callV; exact rfl; exact callB_of (by kernel_rfl); exact rfl; exact fun _ h => h)
    exact next_t s y _
    rintro _ _ ⟨z, hz, rfl, rfl⟩
    have hand : bitsOf .and .u64 (z : Int) ((M - 1 : Nat) : Int) = ((z &&& (M - 1) : Nat) : Int) := bits_and rfl hz (show M - 1 < 18446744073709551616 by omega)
    have hle : z &&& (M - 1) ≤ M - 1 := Nat.and_le_right
    have hM' : IntKind.u64.wrap ((M : Int) - 1) = ((M - 1 : Nat) : Int) := by rw [u64_in (by omega) (by omega)]; omega
    refine m_rrun ?_
    refine TL.know (t := 10) (v := .int .i64 ((z &&& (M - 1) : Nat) : Int)) (congrArg (Value.int .i64) (by rw [hM', hand]; exact i64_nat (by omega))) ?_
    generalize z &&& (M - 1) = o at *
    refine TL.nil ?_
    (repeat (first | refine TK.seq ?_ | refine TK.skip ?_))
    refine TK.region ?_
    refine m_rrun ?_
    refine TL.nil ?_
    (repeat (first | refine TK.seq ?_ | refine TK.skip ?_))
    apply TK.cut (fun ρ' Γ' => ∃ p : Nat, p < L ∧ lk ρ' 0 = .slice (some ⟨b, 0, none⟩) n c ∧ lk ρ' 1 = .int .i64 (a : Int) ∧ lk ρ' 6 = .int .i64 (L : Int) ∧ lk ρ' 7 = .pointer (some ⟨s, 0, none⟩) ∧ lk ρ' 8 = .int .u64 (M : Int) ∧ lk ρ' 9 = .int .i64 (x : Int) ∧ lk ρ' 10 = .int .i64 (p : Int) ∧ Γ' = row s [.int .u64 (z : Int)] 170 :: DD b c n d :: Γ)
    · intro k' hk'
      by_cases ho : L ≤ o
      · refine m_run ?_
        exact hk' _ _ ⟨o - L, by omega, rfl, rfl, rfl, rfl, rfl, rfl, congrArg (Value.int .i64) (by rw [i64_in (by omega) (by omega)]; omega), rfl⟩
      · refine m_run ?_
        exact hk' _ _ ⟨o, by omega, rfl, rfl, rfl, rfl, rfl, rfl, rfl, rfl⟩
    rintro ρ' _ ⟨p, hp, e0, e1, e6, e7, e8, e9, e10, rfl⟩
    refine TK.know7 e0 e1 e6 e7 e8 e9 e10 ?_
    refine TK.perm (List.Perm.swap _ _ _) ?_
    refine m_run ?_
    have hcI := cellD (b := b) (c := c) (Γ := row s [.int .u64 (z : Int)] 170 :: Γ) hsz (show x < n by omega)
    have hcK := cellD (b := b) (c := c) (Γ := row s [.int .u64 (z : Int)] 170 :: Γ) hsz (show a + p < n by omega)
    refine TK.drawB mixed rfl 17 (DD b c n d :: row s [.int .u64 (z : Int)] 170 :: Γ) (row s [.int .u64 (z : Int)] 170 :: Γ) ?_
    refine m_bake (At.mk : At 0) ?_; refine m_bake (At.mk : At 1) ?_; refine m_bake (At.mk : At 2) ?_; refine m_bake (At.mk : At 3) ?_; refine m_bake (At.mk : At 4) ?_; refine m_bake (At.mk : At 5) ?_
    refine TB.know (t := 52) (v := .int .i64 ((a + p : Nat) : Int)) (congrArg (Value.int .i64) (by rw [i64_in (by omega) (by omega)]; omega)) ?_
    refine m_bake (At.mk : At 6) ?_; refine m_bake (At.mk : At 7) ?_; refine m_bake (At.mk : At 8) ?_; refine m_bake (At.mk : At 9) ?_
    refine TB.know (t := 56) (v := .int .i64 ((a + p : Nat) : Int)) (congrArg (Value.int .i64) (by rw [i64_in (by omega) (by omega)]; omega)) ?_
    refine m_bake (At.mk : At 10) ?_; refine m_bake (At.mk : At 11) ?_; refine m_bake (At.mk : At 12) ?_; refine m_bake (At.mk : At 13) ?_; refine m_bake (At.mk : At 14) ?_; refine m_bake (At.mk : At 15) ?_; refine m_bake (At.mk : At 16) ?_
    (apply TB.last; kernel_rfl; exact rfl)
    (apply TL.storeOwn 0 (x); exact rfl; exact rfl; exact rfl; exact rfl; exact tb rfl; exact rfl; exact (Nat.zero_add _).symm; exact (by omega))
    refine TL.back (by (focus ((repeat (first | assumption | exact Ent.refl _ | apply Ent.tail)); done))) ?_
    refine m_take (At.mk : At 18) ?_
    (apply TA.one 19; kernel_rfl; exact rfl)
    (apply TL.storeOwn 0 (a + p); exact rfl; exact rfl; exact rfl; exact rfl; exact tb rfl; exact rfl; exact (Nat.zero_add _).symm; exact (by omega))
    refine TL.back (by (focus ((repeat (first | assumption | exact Ent.refl _ | apply Ent.tail)); done))) ?_
    refine TA.done (by kernel_rfl) ?_
    refine TK.imp (Δ := DD b c n (swp d (x) (a + p)) :: row s [.int .u64 (z : Int)] 170 :: Γ) (fun _ h => by show all (own _ _ _ _ (nums _ (swp d (x) (a + p)).toList) :: _) _; rw [← swpD]; exact h) ?_
    have hsz : (swp d (x) (a + p)).size = n := (size_swp _ _ _).trans hsz
    clear hcI hcK
    refine TK.perm (List.Perm.swap _ _ _) ?_
    refine m_run ?_
    exact IH (m - 1) _ _ (by omega) ⟨x + 1, z, _, by omega, by omega, hz, permIn_trans _ _ _ _ _ hP (swp_permIn _ _ _ _ _ (by omega) (by omega) (by omega) (by omega) (by rw [hP.1]; omega)), rfl, rfl, rfl, rfl, rfl, congrArg (Value.int .i64) (i64_succ x (by omega)), rfl⟩
  · refine m_run ?_
    refine TK.sub (Δ := DD b c n d :: Γ) (by (repeat (first | exact List.Sublist.refl _ | apply List.Sublist.cons_cons | apply List.Sublist.cons))) ?_
    exact TK.over0 rfl rfl ⟨_, rfl, rfl, d, hP, rfl⟩

set_option maxRecDepth 100000 in
set_option maxHeartbeats 4000000 in
theorem pdq_t (b c n : Nat) (Γ : List HP) (hn : n ≤ 1000000000) : ∀ (N a e : Nat) (z : Int) (d : Array Int), e - a = N → d.size = n → a ≤ e → e ≤ n → Below ltInt a e d →
    FnV Try.prog 58 [.slice (some ⟨b, 0, none⟩) n c, .int .i64 (a : Int), .int .i64 (e : Int), .int .i64 z] (DD b c n d :: Γ) fun v Γ' => v = .tuple #[] ∧ ∃ d', PermIn a e d d' ∧ SortedIn ltInt a e d' ∧ Γ' = DD b c n d' :: Γ := by
  intro N
  induction N using Nat.strongRecOn with
  | _ N IHN =>
  intro a0 e0 z0 d0 hN hsz0 hae0 he0 hB0
  refine Fn.enter Try.func58 rfl rfl rfl fun E => ?_
  refine m_run ?_
  apply TK.iter (fun m ρ' Γ' => ∃ (a e : Nat) (z : Int) (d : Array Int) (wb wp : Bool), e - a ≤ m ∧ a0 ≤ a ∧ a ≤ e ∧ e ≤ e0 ∧ d.size = n ∧ Below ltInt a e d ∧ (∀ R, PermIn a e d R → SortedIn ltInt a e R → PermIn a0 e0 d0 R ∧ SortedIn ltInt a0 e0 R) ∧ lk ρ' 0 = .slice (some ⟨b, 0, none⟩) n c ∧ lk ρ' 1 = .int .i64 (a : Int) ∧ lk ρ' 2 = .int .i64 (e : Int) ∧ lk ρ' 3 = .int .i64 z ∧ lk ρ' 8 = .bool wb ∧ lk ρ' 9 = .bool wp ∧ Γ' = DD b c n d :: Γ) (e0 - a0)
  · exact ⟨a0, e0, z0, d0, true, true, Nat.le_refl _, Nat.le_refl _, hae0, Nat.le_refl _, hsz0, hB0, fun R h1 h2 => ⟨h1, h2⟩, rfl, rfl, rfl, rfl, rfl, rfl, rfl⟩
  rintro m IH ρ' _ ⟨a, e, z, d, wb, wp, hm, ha0, hae, hee, hsz, hB, hfin, e0_, e1, e2, e3, e8, e9, rfl⟩
  refine TK.know6 e0_ e1 e2 e3 e8 e9 ?_
  have hea : IntKind.i64.wrap ((e : Int) - (a : Int)) = ((e - a : Nat) : Int) := by rw [i64_in (by omega) (by omega)]; omega
  by_cases h12 : e - a ≤ 12
  · refine m_run ?_
    (apply TL.callV; exact rfl; exact callB_of (by kernel_rfl); exact rfl; exact fun _ h => h)
    exact ins_t b c n a e d Γ hsz (by omega) (by omega) hn
    rintro _ _ ⟨rfl, rfl⟩
    obtain ⟨q1, q2⟩ := insertionSort_holds swo_ltInt d a e hae (by omega)
    obtain ⟨r1, r2⟩ := hfin _ q1 q2
    refine m_run ?_
    (apply TK.ret0; exact rfl; exact rfl)
    exact ⟨_, rfl, rfl, _, r1, r2, rfl⟩
  by_cases hz : z = 0
  · refine m_run ?_
    (apply TL.callV; exact rfl; exact callB_of (by kernel_rfl); exact rfl; exact fun _ h => h)
    exact heap_t b c n a e d Γ hsz (by omega) (by omega) hn
    rintro _ _ ⟨rfl, rfl⟩
    obtain ⟨q1, q2⟩ := heapSort_holds swo_ltInt d a e hae (by omega)
    obtain ⟨r1, r2⟩ := hfin _ q1 q2
    refine m_run ?_
    (apply TK.ret0; exact rfl; exact rfl)
    exact ⟨_, rfl, rfl, _, r1, r2, rfl⟩
  (repeat (first | refine TK.seq ?_ | refine TK.skip ?_))
  refine TK.block ?_
  (repeat (first | refine TK.seq ?_ | refine TK.skip ?_))
  refine TK.region ?_
  refine m_rrun ?_
  refine TL.nil ?_
  (repeat (first | refine TK.seq ?_ | refine TK.skip ?_))
  refine TK.know (t := 10) (v := .int .i64 ((e - a : Nat) : Int)) (congrArg (Value.int .i64) hea) ?_
  (repeat (first | refine TK.seq ?_ | refine TK.skip ?_))
  refine TK.region ?_
  refine m_rrun ?_
  refine TL.nil ?_
  (repeat (first | refine TK.seq ?_ | refine TK.skip ?_))
  refine TK.condF rfl (decide_eq_false (by omega)) ?_
  (repeat (first | refine TK.seq ?_ | refine TK.skip ?_))
  refine TK.region ?_
  refine m_rrun ?_
  refine TL.nil ?_
  (repeat (first | refine TK.seq ?_ | refine TK.skip ?_))
  refine TK.condF rfl (beq_eq_false_iff_ne.2 hz) ?_
  (repeat (first | refine TK.seq ?_ | refine TK.skip ?_))
  refine TK.region ?_
  refine m_rrun ?_
  refine TL.nil ?_
  (repeat (first | refine TK.seq ?_ | refine TK.skip ?_))
  apply TK.cut (fun ρ' Γ' => ∃ (z : Int) (d1 : Array Int), PermIn a e d d1 ∧ lk ρ' 0 = .slice (some ⟨b, 0, none⟩) n c ∧ lk ρ' 1 = .int .i64 (a : Int) ∧ lk ρ' 2 = .int .i64 (e : Int) ∧ lk ρ' 8 = .bool wb ∧ lk ρ' 9 = .bool wp ∧ lk ρ' 10 = .int .i64 ((e - a : Nat) : Int) ∧ lk ρ' 3 = .int .i64 z ∧ Γ' = DD b c n d1 :: Γ)
  · intro k' hk'
    cases wb with
    | true =>
      refine m_run ?_
      exact hk' _ _ ⟨z, d, permIn_refl _ _ _, rfl, rfl, rfl, rfl, rfl, rfl, rfl, rfl⟩
    | false =>
      refine m_run ?_
      (apply TL.callV; exact rfl; exact callB_of (by kernel_rfl); exact rfl; exact fun _ h => h)
      exact brk_t b c n a e d Γ hsz (by omega) (by omega) hn
      rintro _ _ ⟨rfl, d1, hP, rfl⟩
      refine m_run ?_
      exact hk' _ _ ⟨_, d1, hP, rfl, rfl, rfl, rfl, rfl, rfl, rfl, rfl⟩
  rintro ρ' _ ⟨z, d1, hP1, e0_, e1, e2, e8, e9, e10, e3, rfl⟩
  refine TK.know7 e0_ e1 e2 e8 e9 e10 e3 ?_
  have hsz1 : d1.size = n := hP1.1.trans hsz
  (repeat (first | refine TK.seq ?_ | refine TK.skip ?_))
  refine TK.region ?_
  refine m_rrun ?_
  (apply TL.callV; exact rfl; exact callB_of (by kernel_rfl); exact rfl; exact fun _ h => h)
  exact pivot_t b c n a e d1 Γ hsz1 (by omega) (by omega) hn
  rintro _ _ ⟨x, h, hx1, hx2, hh, rfl, rfl⟩
  refine m_rrun ?_
  refine TL.nil ?_
  (repeat (first | refine TK.seq ?_ | refine TK.skip ?_))
  refine TK.region ?_
  refine m_rrun ?_
  refine TL.nil ?_
  (repeat (first | refine TK.seq ?_ | refine TK.skip ?_))
  apply TK.cut (fun ρ' Γ' => ∃ (x : Nat) (h : Int) (d2 : Array Int), PermIn a e d1 d2 ∧ a ≤ x ∧ x < e ∧ lk ρ' 0 = .slice (some ⟨b, 0, none⟩) n c ∧ lk ρ' 1 = .int .i64 (a : Int) ∧ lk ρ' 2 = .int .i64 (e : Int) ∧ lk ρ' 8 = .bool wb ∧ lk ρ' 9 = .bool wp ∧ lk ρ' 10 = .int .i64 ((e - a : Nat) : Int) ∧ lk ρ' 3 = .int .i64 z ∧ lk ρ' 11 = .int .i64 (x : Int) ∧ lk ρ' 12 = .int .i64 h ∧ Γ' = DD b c n d2 :: Γ)
  · intro k' hk'
    by_cases hh2 : h = 2
    · refine m_run ?_
      (apply TL.callV; exact rfl; exact callB_of (by kernel_rfl); exact rfl; exact fun _ h => h)
      exact rev_t b c n a e d1 Γ hsz1 (by omega) (by omega) hn
      rintro _ _ ⟨rfl, rfl⟩
      have hP2 := reverseRange_holds d1 a e hae (by omega)
      refine m_run ?_
      exact hk' _ _ ⟨(e - 1) - (x - a), 1, _, hP2, by omega, by omega, rfl, rfl, rfl, rfl, rfl, rfl, rfl, congrArg (Value.int .i64) (by rw [i64_in (x := (e : Int) - 1) (by omega) (by omega), i64_in (x := (x : Int) - (a : Int)) (by omega) (by omega), i64_in (by omega) (by omega)]; omega), rfl, rfl⟩
    · refine m_run ?_
      exact hk' _ _ ⟨x, h, d1, permIn_refl _ _ _, hx1, hx2, rfl, rfl, rfl, rfl, rfl, rfl, rfl, rfl, rfl, rfl⟩
  clear hx1 hx2 hh
  rintro ρ' _ ⟨x, h, d2, hP2, hx1, hx2, e0_, e1, e2, e8, e9, e10, e3, e11, e12, rfl⟩
  refine TK.know9 e0_ e1 e2 e8 e9 e10 e3 e11 e12 ?_
  have hsz2 : d2.size = n := hP2.1.trans hsz1
  (repeat (first | refine TK.seq ?_ | refine TK.skip ?_))
  apply TK.cut (fun ρ' Γ' => ∃ (t : Bool), lk ρ' 0 = .slice (some ⟨b, 0, none⟩) n c ∧ lk ρ' 1 = .int .i64 (a : Int) ∧ lk ρ' 2 = .int .i64 (e : Int) ∧ lk ρ' 8 = .bool wb ∧ lk ρ' 9 = .bool wp ∧ lk ρ' 10 = .int .i64 ((e - a : Nat) : Int) ∧ lk ρ' 3 = .int .i64 z ∧ lk ρ' 11 = .int .i64 (x : Int) ∧ lk ρ' 68 = .bool t ∧ Γ' = DD b c n d2 :: Γ)
  · intro k' hk'
    cases wb <;> cases wp <;> (by_cases h1 : h = 1) <;> (refine m_run ?_; exact hk' _ _ ⟨_, rfl, rfl, rfl, rfl, rfl, rfl, rfl, rfl, rfl, rfl⟩)
  rintro ρ' _ ⟨t, e0_, e1, e2, e8, e9, e10, e3, e11, e68, rfl⟩
  refine TK.know9 e0_ e1 e2 e8 e9 e10 e3 e11 e68 ?_
  (repeat (first | refine TK.seq ?_ | refine TK.skip ?_))
  have hB2 : Below ltInt a e d2 := (hB.perm (by omega) hP1).perm (by omega) hP2
  apply TK.cut (fun ρ' Γ' => ∃ (d3 : Array Int), PermIn a e d2 d3 ∧ lk ρ' 0 = .slice (some ⟨b, 0, none⟩) n c ∧ lk ρ' 1 = .int .i64 (a : Int) ∧ lk ρ' 2 = .int .i64 (e : Int) ∧ lk ρ' 8 = .bool wb ∧ lk ρ' 9 = .bool wp ∧ lk ρ' 10 = .int .i64 ((e - a : Nat) : Int) ∧ lk ρ' 3 = .int .i64 z ∧ lk ρ' 11 = .int .i64 (x : Int) ∧ Γ' = DD b c n d3 :: Γ)
  · intro k' hk'
    cases t with
    | false =>
      refine m_run ?_
      exact hk' _ _ ⟨d2, permIn_refl _ _ _, rfl, rfl, rfl, rfl, rfl, rfl, rfl, rfl, rfl⟩
    | true =>
      refine m_run ?_
      (apply TL.callV; exact rfl; exact callB_of (by kernel_rfl); exact rfl; exact fun _ h => h)
      exact partial_t b c n a e d2 Γ hsz2 (by omega) (by omega) hn
      rintro _ _ ⟨rfl, rfl⟩
      obtain ⟨q1, q2⟩ := partialInsertionSort_holds swo_ltInt d2 a e (by omega) (by omega) hB2
      generalize partialInsertionSort ltInt d2 a e = r at *
      obtain ⟨d3, t⟩ := r
      cases t with
      | true =>
        obtain ⟨r1, r2⟩ := hfin _ (permIn_trans _ _ _ _ _ (permIn_trans _ _ _ _ _ hP1 hP2) q1) (q2 rfl)
        refine m_run ?_
        (apply TK.ret0; exact rfl; exact rfl)
        exact ⟨_, rfl, rfl, _, r1, r2, rfl⟩
      | false =>
        refine m_run ?_
        exact hk' _ _ ⟨d3, q1, rfl, rfl, rfl, rfl, rfl, rfl, rfl, rfl, rfl⟩
  rintro ρ' _ ⟨d3, hP3, e0_, e1, e2, e8, e9, e10, e3, e11, rfl⟩
  refine TK.know8 e0_ e1 e2 e8 e9 e10 e3 e11 ?_
  have hsz3 : d3.size = n := hP3.1.trans hsz2
  have hP : PermIn a e d d3 := permIn_trans _ _ _ _ _ (permIn_trans _ _ _ _ _ hP1 hP2) hP3
  have hB3 : Below ltInt a e d3 := hB2.perm (by omega) hP3
  clear hB2 hB hP1 hP2 hP3
  (repeat (first | refine TK.seq ?_ | refine TK.skip ?_))
  by_cases heq : 0 < a ∧ ¬ d3[a - 1]! < d3[x]!
  · obtain ⟨h0, hnl⟩ := heq
    have hc1 := cellD (b := b) (c := c) (Γ := Γ) hsz3 (show a - 1 < n by omega)
    have hc2 := cellD (b := b) (c := c) (Γ := Γ) hsz3 (show x < n by omega)
    refine TK.drawS mixed rfl ?_
    refine m_take (At.mk : At 0) ?_; refine m_take (At.mk : At 1) ?_
    refine TA.isT 74 rfl (decide_eq_true (by omega)) ?_
    refine m_take (At.mk : At 2) ?_; refine m_take (At.mk : At 3) ?_; refine m_take (At.mk : At 4) ?_; refine m_take (At.mk : At 5) ?_
    refine TA.know (t := 78) (v := .int .i64 ((a - 1 : Nat) : Int)) (congrArg (Value.int .i64) (by rw [i64_in (by omega) (by omega)]; omega)) ?_
    refine m_take (At.mk : At 6) ?_; refine m_take (At.mk : At 7) ?_; refine m_take (At.mk : At 8) ?_; refine m_take (At.mk : At 9) ?_; refine m_take (At.mk : At 10) ?_; refine m_take (At.mk : At 11) ?_
    (apply TA.one 12; kernel_rfl; exact rfl)
    refine m_rrun ?_
    (apply TL.callV; exact rfl; exact callB_of (by kernel_rfl); exact rfl; exact fun _ h => h)
    exact less_t _ _ _
    rintro _ _ ⟨rfl, rfl⟩
    refine TL.back (by (focus ((repeat (first | assumption | exact Ent.refl _ | apply Ent.tail)); done))) ?_
    refine m_take (At.mk : At 13) ?_; refine m_take (At.mk : At 14) ?_
    refine TA.isT 87 rfl (not_t (decide_eq_false hnl)) ?_
    refine TA.done (by kernel_rfl) ?_
    clear hc1 hc2
    refine m_run ?_
    (apply TL.callV; exact rfl; exact callB_of (by kernel_rfl); exact rfl; exact fun _ h => h)
    exact partEq_t b c n a e x d3 Γ hsz3 hx1 hx2 (by omega) hn
    rintro _ _ ⟨rfl, rfl⟩
    obtain ⟨mid, d4, hx⟩ : ∃ mid d4, partitionEqual ltInt d3 a e x = (mid, d4) := ⟨_, _, rfl⟩
    rw [show (partitionEqual ltInt d3 a e x).1 = mid by rw [hx], show (partitionEqual ltInt d3 a e x).2 = d4 by rw [hx]]
    obtain ⟨g1, g2, g3, g4, g5⟩ := round_eq swo_ltInt (partitionEqual_holds ltInt) h0 hx1 hx2 (by omega) hB3 (decide_eq_false hnl) hx
    refine m_run ?_
    exact IH (m - 1) _ _ (by omega) ⟨mid, e, z, d4, wb, wp, by omega, by omega, g2, hee, g3.trans hsz3, g4, fun R r1 r2 => by
      obtain ⟨q1, q2⟩ := g5 R r1 r2
      exact hfin R (permIn_trans _ _ _ _ _ hP q1) q2, rfl, rfl, rfl, rfl, rfl, rfl, rfl⟩
  apply TK.cut (fun ρ' Γ' => lk ρ' 0 = .slice (some ⟨b, 0, none⟩) n c ∧ lk ρ' 1 = .int .i64 (a : Int) ∧ lk ρ' 2 = .int .i64 (e : Int) ∧ lk ρ' 8 = .bool wb ∧ lk ρ' 9 = .bool wp ∧ lk ρ' 10 = .int .i64 ((e - a : Nat) : Int) ∧ lk ρ' 3 = .int .i64 z ∧ lk ρ' 11 = .int .i64 (x : Int) ∧ lk ρ' 87 = .bool false ∧ Γ' = DD b c n d3 :: Γ)
  · intro k' hk'
    by_cases h0 : 0 < a
    · have hlt : d3[a - 1]! < d3[x]! := Decidable.byContradiction fun h => heq ⟨h0, h⟩
      have hc1 := cellD (b := b) (c := c) (Γ := Γ) hsz3 (show a - 1 < n by omega)
      have hc2 := cellD (b := b) (c := c) (Γ := Γ) hsz3 (show x < n by omega)
      refine TK.drawS mixed rfl ?_
      refine m_take (At.mk : At 0) ?_; refine m_take (At.mk : At 1) ?_
      refine TA.isT 74 rfl (decide_eq_true (by omega)) ?_
      refine m_take (At.mk : At 2) ?_; refine m_take (At.mk : At 3) ?_; refine m_take (At.mk : At 4) ?_; refine m_take (At.mk : At 5) ?_
      refine TA.know (t := 78) (v := .int .i64 ((a - 1 : Nat) : Int)) (congrArg (Value.int .i64) (by rw [i64_in (by omega) (by omega)]; omega)) ?_
      refine m_take (At.mk : At 6) ?_; refine m_take (At.mk : At 7) ?_; refine m_take (At.mk : At 8) ?_; refine m_take (At.mk : At 9) ?_; refine m_take (At.mk : At 10) ?_; refine m_take (At.mk : At 11) ?_
      (apply TA.one 12; kernel_rfl; exact rfl)
      refine m_rrun ?_
      (apply TL.callV; exact rfl; exact callB_of (by kernel_rfl); exact rfl; exact fun _ h => h)
      exact less_t _ _ _
      rintro _ _ ⟨rfl, rfl⟩
      refine TL.back (by (focus ((repeat (first | assumption | exact Ent.refl _ | apply Ent.tail)); done))) ?_
      refine m_take (At.mk : At 13) ?_; refine m_take (At.mk : At 14) ?_
      refine TA.isF 87 rfl (not_f (decide_eq_true hlt)) ?_
      refine TA.done (by kernel_rfl) ?_
      exact hk' _ _ ⟨rfl, rfl, rfl, rfl, rfl, rfl, rfl, rfl, rfl, rfl⟩
    · refine TK.drawS mixed rfl ?_
      refine m_take (At.mk : At 0) ?_; refine m_take (At.mk : At 1) ?_
      refine TA.isF 74 rfl (decide_eq_false (by omega)) ?_
      refine m_take (At.mk : At 2) ?_; refine m_take (At.mk : At 3) ?_; refine m_take (At.mk : At 4) ?_; refine m_take (At.mk : At 5) ?_; refine m_take (At.mk : At 6) ?_; refine m_take (At.mk : At 7) ?_; refine m_take (At.mk : At 8) ?_; refine m_take (At.mk : At 9) ?_; refine m_take (At.mk : At 10) ?_; refine m_take (At.mk : At 11) ?_; refine m_take (At.mk : At 12) ?_; refine m_take (At.mk : At 13) ?_; refine m_take (At.mk : At 14) ?_
      refine TA.done (by kernel_rfl) ?_
      exact hk' _ _ ⟨rfl, rfl, rfl, rfl, rfl, rfl, rfl, rfl, rfl, rfl⟩
  rintro ρ' _ ⟨e0_, e1, e2, e8, e9, e10, e3, e11, e87, rfl⟩
  refine TK.know9 e0_ e1 e2 e8 e9 e10 e3 e11 e87 ?_
  clear heq
  refine m_run ?_
  (apply TL.callV; exact rfl; exact callB_of (by kernel_rfl); exact rfl; exact fun _ h => h)
  exact part_t b c n a e x d3 Γ hsz3 hx1 hx2 (by omega) hn
  rintro _ _ ⟨rfl, rfl⟩
  obtain ⟨mid, ap, d4, hx⟩ : ∃ mid ap d4, Sort.partition ltInt d3 a e x = (mid, ap, d4) := ⟨_, _, _, rfl⟩
  rw [show (Sort.partition ltInt d3 a e x).1 = mid by rw [hx], show (Sort.partition ltInt d3 a e x).2.1 = ap by rw [hx], show (Sort.partition ltInt d3 a e x).2.2 = d4 by rw [hx]]
  obtain ⟨g1, g2, g3, gBl, gBr, gL, gR⟩ := round_part swo_ltInt (partition_holds ltInt) hx1 hx2 (by omega) hB3 hx
  have hsz4 : d4.size = n := g3.trans hsz3
  have hma : IntKind.i64.wrap ((mid : Int) - (a : Int)) = ((mid - a : Nat) : Int) := by rw [i64_in (by omega) (by omega)]; omega
  have hme : IntKind.i64.wrap ((e : Int) - (mid : Int)) = ((e - mid : Nat) : Int) := by rw [i64_in (by omega) (by omega)]; omega
  by_cases hlt : mid - a < e - mid
  · refine m_run ?_
    (apply TL.callV; exact rfl; exact callB_of (by kernel_rfl); exact rfl; exact fun _ h => h)
    exact IHN (mid - a) (by omega) a mid z d4 rfl hsz4 g1 (by omega) gBl
    rintro _ _ ⟨rfl, d5, p1, p2, rfl⟩
    obtain ⟨b5, f5⟩ := gL d5 p1 p2
    refine m_run ?_
    exact IH (m - 1) _ _ (by omega) ⟨mid + 1, e, z, d5, _, ap, by omega, by omega, by omega, hee, p1.1.trans hsz4, b5, fun R r1 r2 => by
      obtain ⟨q1, q2⟩ := f5 R r1 r2
      exact hfin R (permIn_trans _ _ _ _ _ hP q1) q2, rfl, congrArg (Value.int .i64) (i64_succ mid (by omega)), rfl, rfl, rfl, rfl, rfl⟩
  · refine m_run ?_
    refine TL.know (t := 129) (v := .int .i64 ((mid + 1 : Nat) : Int)) (congrArg (Value.int .i64) (i64_succ mid (by omega))) ?_
    (apply TL.callV; exact rfl; exact callB_of (by kernel_rfl); exact rfl; exact fun _ h => h)
    exact IHN (e - (mid + 1)) (by omega) (mid + 1) e z d4 rfl hsz4 (by omega) (by omega) gBr
    rintro _ _ ⟨rfl, d5, p1, p2, rfl⟩
    obtain ⟨b5, f5⟩ := gR d5 p1 p2
    refine m_run ?_
    exact IH (m - 1) _ _ (by omega) ⟨a, mid, z, d5, _, ap, by omega, by omega, g1, by omega, p1.1.trans hsz4, b5, fun R r1 r2 => by
      obtain ⟨q1, q2⟩ := f5 R r1 r2
      exact hfin R (permIn_trans _ _ _ _ _ hP q1) q2, rfl, rfl, rfl, rfl, rfl, rfl, rfl⟩

theorem perm_whole {d d' : Array Int} (h : PermIn 0 d.size d d') : d'.toList.Perm d.toList := by
  obtain ⟨h1, _, h3⟩ := h
  have e1 : d'.extract 0 d.size = d' := by rw [← h1]; simp
  have e2 : d.extract 0 d.size = d := by simp
  rw [e1, e2] at h3
  exact h3
theorem sorted_whole {d : Array Int} (h : SortedIn ltInt 0 d.size d) : d.toList.Pairwise (· ≤ ·) := by
  refine List.pairwise_iff_getElem.2 fun i j hi hj hij => ?_
  simp only [Array.length_toList] at hi hj
  have := h i j (Nat.zero_le _) hij hj
  unfold ltInt at this
  have h2 := of_decide_eq_false this
  rw [getElem!_pos d i hi, getElem!_pos d j hj] at h2
  simp only [Array.getElem_toList]
  omega
set_option maxRecDepth 100000 in
set_option maxHeartbeats 4000000 in
theorem ins0_t (A : Option Addr) (c : Nat) (Γ : List HP) : FnV Try.prog 85 [.slice A 0 c, .int .i64 0, .int .i64 0] Γ fun v Γ' => v = .tuple #[] ∧ Γ' = Γ := by
  refine Fn.enter Try.func85 rfl rfl rfl fun E => ?_
  refine m_run ?_
  refine TK.know (t := 6) (v := .int .i64 1) rfl ?_
  apply TK.iter (fun m ρ' Γ' => lk ρ' 2 = .int .i64 0 ∧ lk ρ' 6 = .int .i64 1 ∧ Γ' = Γ) 0
  · exact ⟨rfl, rfl, rfl⟩
  rintro m IH ρ' _ ⟨e2, e6, rfl⟩
  refine TK.know2 e2 e6 ?_
  refine m_run ?_
  exact TK.over0 rfl rfl ⟨_, rfl, rfl, rfl⟩
set_option maxRecDepth 100000 in
set_option maxHeartbeats 4000000 in
theorem pdq0_t (A : Option Addr) (c : Nat) (z : Int) (Γ : List HP) : FnV Try.prog 58 [.slice A 0 c, .int .i64 0, .int .i64 0, .int .i64 z] Γ fun v Γ' => v = .tuple #[] ∧ Γ' = Γ := by
  refine Fn.enter Try.func58 rfl rfl rfl fun E => ?_
  refine m_run ?_
  apply TK.iter (fun m ρ' Γ' => lk ρ' 0 = .slice A 0 c ∧ lk ρ' 1 = .int .i64 0 ∧ lk ρ' 2 = .int .i64 0 ∧ Γ' = Γ) 0
  · exact ⟨rfl, rfl, rfl, rfl⟩
  rintro m IH ρ' _ ⟨e0, e1, e2, rfl⟩
  refine TK.know3 e0 e1 e2 ?_
  have hw : IntKind.i64.wrap ((0 : Int) - 0) = 0 := rfl
  refine m_run ?_
  (apply TL.callV; exact rfl; exact callB_of (by kernel_rfl); exact rfl; exact fun _ h => h)
  exact ins0_t A c _
  rintro _ _ ⟨rfl, rfl⟩
  refine m_run ?_
  (apply TK.ret0; exact rfl; exact rfl)
  exact ⟨_, rfl, rfl, rfl⟩
set_option maxRecDepth 100000 in
set_option maxHeartbeats 4000000 in
theorem sort_t (A : Option Addr) (c : Nat) (D : List Int) (Γ : List HP) (hn : D.length ≤ 1000000000) :
    FnV Try.prog 41 [.slice A D.length c] (own 3 1 (.slice A D.length c) D.length (nums .i64 D) :: Γ)
      fun v Γ' => v = .tuple #[] ∧ ∃ D', D'.Perm D ∧ D'.Pairwise (· ≤ ·) ∧ Γ' = own 3 1 (.slice A D.length c) D.length (nums .i64 D') :: Γ := by
  refine Fn.enter Try.func41 rfl rfl rfl fun E => ?_
  refine m_run ?_
  refine TL.know (t := 8) (v := .int .u64 (D.length : Int)) (congrArg (Value.int .u64) (u64_in (by omega) (by omega))) ?_
  (apply TL.callV; exact rfl; exact callB_of (by kernel_rfl); exact rfl; exact fun _ h => h)
  exact len_t D.length hn _
  rintro _ _ ⟨L, _, _, rfl, rfl⟩
  refine m_run ?_
  by_cases h0 : D.length = 0
  · rw [h0]
    (apply TL.callV; exact rfl; exact callB_of (by kernel_rfl); exact rfl; exact fun _ h => h)
    exact pdq0_t A c _ _
    rintro _ _ ⟨rfl, rfl⟩
    refine m_run ?_
    refine TK.over0 rfl rfl ⟨_, rfl, rfl, D, List.Perm.refl _, ?_, rfl⟩
    rw [List.eq_nil_of_length_eq_zero h0]
    exact List.Pairwise.nil
  refine TL.mem fun m0 hm0 => ?_
  obtain ⟨b, rfl⟩ : ∃ b, A = some ⟨b, 0, none⟩ := by
    obtain ⟨m1, m2, _, _, h1, _⟩ := hm0
    obtain ⟨_, ⟨_, h, _⟩ | ⟨g, cap, cur, hv, _⟩⟩ := h1
    · omega
    · injection hv with hv _ _
      exact ⟨g, hv⟩
  clear hm0 m0
  (apply TL.callV (Δ := DD b c D.length D.toArray :: Γ); exact rfl; exact callB_of (by kernel_rfl); exact rfl; exact fun _ h => h)
  exact pdq_t b c D.length Γ hn D.length 0 D.length L D.toArray rfl rfl (Nat.zero_le _) (Nat.le_refl _) (.inl rfl)
  rintro _ _ ⟨rfl, d', h1, h2, rfl⟩
  refine m_run ?_
  refine TK.over0 rfl rfl ⟨_, rfl, rfl, d'.toList, perm_whole (d := D.toArray) h1, sorted_whole (by rw [show d'.size = D.length from h1.1]; exact h2), rfl⟩
end Go.Proofs.Ythbcfamfaicneaa.E.SI
