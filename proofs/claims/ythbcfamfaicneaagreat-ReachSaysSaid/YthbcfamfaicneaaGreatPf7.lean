/- My own texts, one behind the other: TiB Yn Yo Yua Yva Nd Nia Oc Od Zb Oa Zbc. -/
import Derived.Test.YthbcfamfaicneaaGreatPf6
import Derived.Test.YthbcfamfaicneaaGreatPf4
import Derived.Test.YthbcfamfaicneaaGreatPf5
/- Parted by a pivot. -/
namespace Go.Proofs.YthbcfamfaicneaaGreat.E.SI
open Go Go.RowKit Go.Proofs Go.Sort
attribute [local irreducible] TK TL TQ TA TB Fn PV Sort.insInner Sort.heapBuild Sort.heapPop Sort.scanDown Sort.shiftDown Sort.partialIns
set_option maxRecDepth 100000 in
set_option maxHeartbeats 4000000 in
theorem part_t (b c n a e p : Nat) (d0 : Array Int) (Γ : List HP) (hsz0 : d0.size = n) (hap : a ≤ p) (hpe : p < e) (he : e ≤ n) (hn : n ≤ 1000000000) :
    FnV Tryz.prog 168 [.slice (some ⟨b, 0, none⟩) n c, .int .i64 (a : Int), .int .i64 (e : Int), .int .i64 (p : Int)] (DD b c n d0 :: Γ) fun v Γ' => v = .tuple #[.int .i64 ((Sort.partition ltInt d0 a e p).1 : Int), .bool (Sort.partition ltInt d0 a e p).2.1] ∧ Γ' = DD b c n (Sort.partition ltInt d0 a e p).2.2 :: Γ := by
  refine Fn.enter Tryz.func168 rfl rfl rfl fun E => ?_
  generalize hX : Sort.partition ltInt d0 a e p = X
  unfold Sort.partition at hX
  have hsz := hsz0
  refine m_run ?_
  have hcI := cellD (b := b) (c := c) (Γ := Γ) hsz (show a < n by omega)
  have hcK := cellD (b := b) (c := c) (Γ := Γ) hsz (show p < n by omega)
  refine TK.drawB mixed rfl 13 (DD b c n d0 :: Γ) (Γ) ?_
  refine m_bake (At.mk : At 0) ?_; refine m_bake (At.mk : At 1) ?_; refine m_bake (At.mk : At 2) ?_; refine m_bake (At.mk : At 3) ?_; refine m_bake (At.mk : At 4) ?_; refine m_bake (At.mk : At 5) ?_; refine m_bake (At.mk : At 6) ?_; refine m_bake (At.mk : At 7) ?_; refine m_bake (At.mk : At 8) ?_; refine m_bake (At.mk : At 9) ?_; refine m_bake (At.mk : At 10) ?_; refine m_bake (At.mk : At 11) ?_; refine m_bake (At.mk : At 12) ?_
  (apply TB.last; kernel_rfl; exact rfl)
  (apply TL.storeOwn 0 (a); exact rfl; exact rfl; exact rfl; exact rfl; exact tb rfl; exact rfl; exact (Nat.zero_add _).symm; exact (by omega))
  refine TL.back (by (focus ((repeat (first | assumption | exact Ent.refl _ | apply Ent.tail)); done))) ?_
  refine m_take (At.mk : At 14) ?_
  (apply TA.one 15; kernel_rfl; exact rfl)
  (apply TL.storeOwn 0 (p); exact rfl; exact rfl; exact rfl; exact rfl; exact tb rfl; exact rfl; exact (Nat.zero_add _).symm; exact (by omega))
  refine TL.back (by (focus ((repeat (first | assumption | exact Ent.refl _ | apply Ent.tail)); done))) ?_
  refine TA.done (by kernel_rfl) ?_
  refine TK.imp (Δ := DD b c n (swp d0 (a) (p)) :: Γ) (fun _ h => by show all (own _ _ _ _ (nums _ (swp d0 (a) (p)).toList) :: _) _; rw [← swpD]; exact h) ?_
  have hsz : (swp d0 (a) (p)).size = n := (size_swp _ _ _).trans hsz
  clear hcI hcK
  simp only [] at hX
  generalize swp d0 a p = d at *
  (repeat (first | refine TK.seq ?_ | refine TK.skip ?_))
  refine TK.region ?_
  refine m_rrun ?_
  refine TL.nil ?_
  (repeat (first | refine TK.seq ?_ | refine TK.skip ?_))
  refine TK.know (t := 10) (v := .int .i64 ((a + 1 : Nat) : Int)) (congrArg (Value.int .i64) (by rw [i64_in (by omega) (by omega)]; omega)) ?_
  refine TK.know (t := 11) (v := .int .i64 ((e - 1 : Nat) : Int)) (congrArg (Value.int .i64) (by rw [i64_in (by omega) (by omega)]; omega)) ?_
  have hij : a + 1 ≤ (e - 1) + 1 := by omega
  have hjn : e - 1 < n := by omega
  generalize hi1 : a + 1 = i at hij hX ⊢
  replace hi1 : a + 1 ≤ i := by omega
  generalize e - 1 = j at hij hjn hX ⊢
  apply TK.cut (fun ρ' Γ' => lk ρ' 0 = .slice (some ⟨b, 0, none⟩) n c ∧ lk ρ' 1 = .int .i64 (a : Int) ∧ lk ρ' 10 = .int .i64 ((scanUp (fun x => ltInt x d[a]!) d (j) (i) : Nat) : Int) ∧ lk ρ' 11 = .int .i64 (j : Int) ∧ Γ' = DD b c n d :: Γ)
  · intro k' hk'
    generalize hS : scanUp (fun x => ltInt x d[a]!) d (j) (i) = I at hk'
    refine m_run ?_
    apply TK.iter (fun m ρ' Γ' => ∃ (x : Nat), (j) + 1 - x ≤ m ∧ (i) ≤ x ∧ x ≤ (j) + 1 ∧ scanUp (fun x => ltInt x d[a]!) d (j) x = I ∧ lk ρ' 0 = .slice (some ⟨b, 0, none⟩) n c ∧ lk ρ' 1 = .int .i64 (a : Int) ∧ lk ρ' 10 = .int .i64 (x : Int) ∧ lk ρ' 11 = .int .i64 (j : Int) ∧ Γ' = DD b c n d :: Γ) ((j) + 1)
    · exact ⟨i, by omega, Nat.le_refl _, by omega, hS, rfl, rfl, rfl, rfl, rfl⟩
    clear hS
    rintro m IH ρ' _ ⟨x, hm, hx1, hx2, hS, e0, e1, ei, ej, rfl⟩
    refine TK.know4 e0 e1 ei ej ?_
    rw [Sort.scanUp] at hS
    by_cases hx : x ≤ j
    · have hc1 := cellD (b := b) (c := c) (Γ := Γ) hsz (show x < n by omega)
      have hc2 := cellD (b := b) (c := c) (Γ := Γ) hsz (show a < n by omega)
      refine m_run ?_
      refine TK.drawS mixed rfl ?_
      refine m_take (At.mk : At 0) ?_; refine m_take (At.mk : At 1) ?_; refine m_take (At.mk : At 2) ?_
      refine TA.isT 32 rfl (decide_eq_true (by omega)) ?_
      refine m_take (At.mk : At 3) ?_; refine m_take (At.mk : At 4) ?_; refine m_take (At.mk : At 5) ?_; refine m_take (At.mk : At 6) ?_; refine m_take (At.mk : At 7) ?_; refine m_take (At.mk : At 8) ?_; refine m_take (At.mk : At 9) ?_; refine m_take (At.mk : At 10) ?_; refine m_take (At.mk : At 11) ?_
      (apply TA.one 12; kernel_rfl; exact rfl)
      refine m_rrun ?_
      (apply TL.callV; exact rfl; exact callB_of (by kernel_rfl); exact rfl; exact fun _ h => h)
      exact less_t _ _ _
      rintro _ _ ⟨rfl, rfl⟩
      refine TL.back (by (focus ((repeat (first | assumption | exact Ent.refl _ | apply Ent.tail)); done))) ?_
      refine m_take (At.mk : At 13) ?_
      by_cases h : d[x]! < d[a]!
      · rw [if_pos (by simp [ltInt, h]; omega)] at hS
        refine TA.isT 43 rfl (decide_eq_true h) ?_
        refine TA.done (by kernel_rfl) ?_
        clear hc1 hc2
        refine m_run ?_
        exact IH (m - 1) _ _ (by omega) ⟨x + 1, by omega, by omega, by omega, hS, rfl, rfl, congrArg (Value.int .i64) (i64_succ x (by omega)), rfl, rfl⟩
      · rw [if_neg (by simp [ltInt, h])] at hS
        refine TA.isF 43 rfl (decide_eq_false h) ?_
        refine TA.done (by kernel_rfl) ?_
        clear hc1 hc2
        refine m_run ?_
        exact hk' _ _ ⟨rfl, rfl, congrArg (fun z : Nat => Value.int .i64 (z : Int)) hS, rfl, rfl⟩
    · rw [if_neg (by simp; omega)] at hS
      refine m_run ?_
      refine TK.drawS mixed rfl ?_
      refine m_take (At.mk : At 0) ?_; refine m_take (At.mk : At 1) ?_; refine m_take (At.mk : At 2) ?_
      refine TA.isF 32 rfl (decide_eq_false (by omega)) ?_
      refine m_take (At.mk : At 3) ?_; refine m_take (At.mk : At 4) ?_; refine m_take (At.mk : At 5) ?_; refine m_take (At.mk : At 6) ?_; refine m_take (At.mk : At 7) ?_; refine m_take (At.mk : At 8) ?_; refine m_take (At.mk : At 9) ?_; refine m_take (At.mk : At 10) ?_; refine m_take (At.mk : At 11) ?_; refine m_take (At.mk : At 12) ?_; refine m_take (At.mk : At 13) ?_
      refine TA.done (by kernel_rfl) ?_
      refine m_run ?_
      exact hk' _ _ ⟨rfl, rfl, congrArg (fun z : Nat => Value.int .i64 (z : Int)) hS, rfl, rfl⟩
  rintro ρ' _ ⟨e0, e1, ei, ej, rfl⟩
  refine TK.know4 e0 e1 ei ej ?_
  obtain ⟨hs1, hs2, _, hs4⟩ := scanUp_spec (fun x => ltInt x d[a]!) d j _ i rfl
  have hs2 := hs2 hij
  generalize hI : scanUp (fun x => ltInt x d[a]!) d j i = i2 at *
  (repeat (first | refine TK.seq ?_ | refine TK.skip ?_))
  apply TK.cut (fun ρ' Γ' => lk ρ' 0 = .slice (some ⟨b, 0, none⟩) n c ∧ lk ρ' 1 = .int .i64 (a : Int) ∧ lk ρ' 10 = .int .i64 (i2 : Int) ∧ lk ρ' 11 = .int .i64 ((scanDown (fun x => !ltInt x d[a]!) d (i2) (j) : Nat) : Int) ∧ Γ' = DD b c n d :: Γ)
  · intro k' hk'
    generalize hS : scanDown (fun x => !ltInt x d[a]!) d (i2) (j) = J at hk'
    refine m_run ?_
    apply TK.iter (fun m ρ' Γ' => m ≤ j ∧ (i2) ≤ m + 1 ∧ scanDown (fun x => !ltInt x d[a]!) d (i2) m = J ∧ lk ρ' 0 = .slice (some ⟨b, 0, none⟩) n c ∧ lk ρ' 1 = .int .i64 (a : Int) ∧ lk ρ' 10 = .int .i64 (i2 : Int) ∧ lk ρ' 11 = .int .i64 (m : Int) ∧ Γ' = DD b c n d :: Γ) (j)
    · exact ⟨Nat.le_refl _, by omega, hS, rfl, rfl, rfl, rfl, rfl⟩
    clear hS
    rintro x IH ρ' _ ⟨hx1, hx2, hS, e0, e1, ei, ej, rfl⟩
    refine TK.know4 e0 e1 ei ej ?_
    by_cases hx : i2 ≤ x
    · obtain ⟨w, rfl⟩ : ∃ w, x = w + 1 := ⟨x - 1, by omega⟩
      rw [Sort.scanDown] at hS
      have hc1 := cellD (b := b) (c := c) (Γ := Γ) hsz (show w + 1 < n by omega)
      have hc2 := cellD (b := b) (c := c) (Γ := Γ) hsz (show a < n by omega)
      refine m_run ?_
      refine TK.drawS mixed rfl ?_
      refine m_take (At.mk : At 0) ?_; refine m_take (At.mk : At 1) ?_; refine m_take (At.mk : At 2) ?_
      refine TA.isT 48 rfl (decide_eq_true (by omega)) ?_
      refine m_take (At.mk : At 3) ?_; refine m_take (At.mk : At 4) ?_; refine m_take (At.mk : At 5) ?_; refine m_take (At.mk : At 6) ?_; refine m_take (At.mk : At 7) ?_; refine m_take (At.mk : At 8) ?_; refine m_take (At.mk : At 9) ?_; refine m_take (At.mk : At 10) ?_; refine m_take (At.mk : At 11) ?_
      (apply TA.one 12; kernel_rfl; exact rfl)
      refine m_rrun ?_
      (apply TL.callV; exact rfl; exact callB_of (by kernel_rfl); exact rfl; exact fun _ h => h)
      exact less_t _ _ _
      rintro _ _ ⟨rfl, rfl⟩
      refine TL.back (by (focus ((repeat (first | assumption | exact Ent.refl _ | apply Ent.tail)); done))) ?_
      refine m_take (At.mk : At 13) ?_; refine m_take (At.mk : At 14) ?_
      by_cases h : d[w + 1]! < d[a]!
      · rw [if_neg (by simp [ltInt, h])] at hS
        refine TA.isF 60 rfl (not_f (decide_eq_true h)) ?_
        refine TA.done (by kernel_rfl) ?_
        clear hc1 hc2
        refine m_run ?_
        exact hk' _ _ ⟨rfl, rfl, rfl, congrArg (fun z : Nat => Value.int .i64 (z : Int)) hS, rfl⟩
      · rw [if_pos (by simp [ltInt, h]; omega)] at hS
        refine TA.isT 60 rfl (not_t (decide_eq_false h)) ?_
        refine TA.done (by kernel_rfl) ?_
        clear hc1 hc2
        refine m_run ?_
        exact IH w _ _ (by omega) ⟨by omega, by omega, hS, rfl, rfl, rfl, congrArg (Value.int .i64) (by rw [i64_in (by omega) (by omega)]; omega), rfl⟩
    · have hS : x = J := by
        rw [← hS]
        cases x with
        | zero => rw [Sort.scanDown]
        | succ w => rw [Sort.scanDown, if_neg (by simp; omega)]
      refine m_run ?_
      refine TK.drawS mixed rfl ?_
      refine m_take (At.mk : At 0) ?_; refine m_take (At.mk : At 1) ?_; refine m_take (At.mk : At 2) ?_
      refine TA.isF 48 rfl (decide_eq_false (by omega)) ?_
      refine m_take (At.mk : At 3) ?_; refine m_take (At.mk : At 4) ?_; refine m_take (At.mk : At 5) ?_; refine m_take (At.mk : At 6) ?_; refine m_take (At.mk : At 7) ?_; refine m_take (At.mk : At 8) ?_; refine m_take (At.mk : At 9) ?_; refine m_take (At.mk : At 10) ?_; refine m_take (At.mk : At 11) ?_; refine m_take (At.mk : At 12) ?_; refine m_take (At.mk : At 13) ?_; refine m_take (At.mk : At 14) ?_
      refine TA.done (by kernel_rfl) ?_
      refine m_run ?_
      exact hk' _ _ ⟨rfl, rfl, rfl, congrArg (fun z : Nat => Value.int .i64 (z : Int)) hS, rfl⟩
  rintro ρ' _ ⟨e0, e1, ei, ej, rfl⟩
  refine TK.know4 e0 e1 ei ej ?_
  obtain ⟨ht1, ht2, _, ht4⟩ := scanDown_spec (fun x => !ltInt x d[a]!) d i2 j
  have ht2 := ht2 hs2
  generalize hJ : scanDown (fun x => !ltInt x d[a]!) d i2 j = j2 at *
  by_cases hgt : i2 > j2
  · rw [if_pos hgt] at hX
    rw [← hX]
    refine m_run ?_
    have hcI := cellD (b := b) (c := c) (Γ := Γ) hsz (show j2 < n by omega)
    have hcK := cellD (b := b) (c := c) (Γ := Γ) hsz (show a < n by omega)
    refine TK.drawB mixed rfl 13 (DD b c n d :: Γ) (Γ) ?_
    refine m_bake (At.mk : At 0) ?_; refine m_bake (At.mk : At 1) ?_; refine m_bake (At.mk : At 2) ?_; refine m_bake (At.mk : At 3) ?_; refine m_bake (At.mk : At 4) ?_; refine m_bake (At.mk : At 5) ?_; refine m_bake (At.mk : At 6) ?_; refine m_bake (At.mk : At 7) ?_; refine m_bake (At.mk : At 8) ?_; refine m_bake (At.mk : At 9) ?_; refine m_bake (At.mk : At 10) ?_; refine m_bake (At.mk : At 11) ?_; refine m_bake (At.mk : At 12) ?_
    (apply TB.last; kernel_rfl; exact rfl)
    (apply TL.storeOwn 0 (j2); exact rfl; exact rfl; exact rfl; exact rfl; exact tb rfl; exact rfl; exact (Nat.zero_add _).symm; exact (by omega))
    refine TL.back (by (focus ((repeat (first | assumption | exact Ent.refl _ | apply Ent.tail)); done))) ?_
    refine m_take (At.mk : At 14) ?_
    (apply TA.one 15; kernel_rfl; exact rfl)
    (apply TL.storeOwn 0 (a); exact rfl; exact rfl; exact rfl; exact rfl; exact tb rfl; exact rfl; exact (Nat.zero_add _).symm; exact (by omega))
    refine TL.back (by (focus ((repeat (first | assumption | exact Ent.refl _ | apply Ent.tail)); done))) ?_
    refine TA.done (by kernel_rfl) ?_
    refine TK.imp (Δ := DD b c n (swp d (j2) (a)) :: Γ) (fun _ h => by show all (own _ _ _ _ (nums _ (swp d (j2) (a)).toList) :: _) _; rw [← swpD]; exact h) ?_
    have hsz : (swp d (j2) (a)).size = n := (size_swp _ _ _).trans hsz
    clear hcI hcK
    refine m_run ?_
    (apply TK.ret2; exact rfl; exact rfl; (exact m_val); (exact m_val))
    exact ⟨_, rfl, rfl, rfl⟩
  · rw [if_neg hgt] at hX
    have hne : i2 ≠ j2 := fun e => by
      have h1 := hs4 (by omega)
      have h2 := ht4 (by omega) (by omega)
      rw [← e] at h2
      simp only [h1] at h2
      cases h2
    refine m_run ?_
    have hcI := cellD (b := b) (c := c) (Γ := Γ) hsz (show i2 < n by omega)
    have hcK := cellD (b := b) (c := c) (Γ := Γ) hsz (show j2 < n by omega)
    refine TK.drawB mixed rfl 13 (DD b c n d :: Γ) (Γ) ?_
    refine m_bake (At.mk : At 0) ?_; refine m_bake (At.mk : At 1) ?_; refine m_bake (At.mk : At 2) ?_; refine m_bake (At.mk : At 3) ?_; refine m_bake (At.mk : At 4) ?_; refine m_bake (At.mk : At 5) ?_; refine m_bake (At.mk : At 6) ?_; refine m_bake (At.mk : At 7) ?_; refine m_bake (At.mk : At 8) ?_; refine m_bake (At.mk : At 9) ?_; refine m_bake (At.mk : At 10) ?_; refine m_bake (At.mk : At 11) ?_; refine m_bake (At.mk : At 12) ?_
    (apply TB.last; kernel_rfl; exact rfl)
    (apply TL.storeOwn 0 (i2); exact rfl; exact rfl; exact rfl; exact rfl; exact tb rfl; exact rfl; exact (Nat.zero_add _).symm; exact (by omega))
    refine TL.back (by (focus ((repeat (first | assumption | exact Ent.refl _ | apply Ent.tail)); done))) ?_
    refine m_take (At.mk : At 14) ?_
    (apply TA.one 15; kernel_rfl; exact rfl)
    (apply TL.storeOwn 0 (j2); exact rfl; exact rfl; exact rfl; exact rfl; exact tb rfl; exact rfl; exact (Nat.zero_add _).symm; exact (by omega))
    refine TL.back (by (focus ((repeat (first | assumption | exact Ent.refl _ | apply Ent.tail)); done))) ?_
    refine TA.done (by kernel_rfl) ?_
    refine TK.imp (Δ := DD b c n (swp d (i2) (j2)) :: Γ) (fun _ h => by show all (own _ _ _ _ (nums _ (swp d (i2) (j2)).toList) :: _) _; rw [← swpD]; exact h) ?_
    have hsz : (swp d (i2) (j2)).size = n := (size_swp _ _ _).trans hsz
    clear hcI hcK
    generalize swp d i2 j2 = d1 at *
    clear hs4 ht4 hI hJ
    generalize hR : partLoop ltInt a (i2 + 1) (j2 - 1) d1 = R at hX
    refine m_run ?_
    apply TK.iter (fun m ρ' Γ' => ∃ (i j : Nat) (d : Array Int), j + 1 - i ≤ m ∧ a + 1 ≤ i ∧ i ≤ j + 1 ∧ j < n ∧ d.size = n ∧ partLoop ltInt a i j d = R ∧ lk ρ' 0 = .slice (some ⟨b, 0, none⟩) n c ∧ lk ρ' 1 = .int .i64 (a : Int) ∧ lk ρ' 10 = .int .i64 (i : Int) ∧ lk ρ' 11 = .int .i64 (j : Int) ∧ Γ' = DD b c n d :: Γ) n
    · exact ⟨i2 + 1, j2 - 1, _, by omega, by omega, by omega, by omega, hsz, hR, rfl, rfl, congrArg (Value.int .i64) (by rw [i64_in (by omega) (by omega)]; omega), congrArg (Value.int .i64) (by rw [i64_in (by omega) (by omega)]; omega), rfl⟩
    clear hR hsz hne hgt ht1 ht2 hs1 hs2 hij hi1 hjn
    rintro m IH ρ' _ ⟨i, j, d, hm, hi1, hij, hjn, hsz, hR, e0, e1, e10, e11, rfl⟩
    refine TK.know4 e0 e1 e10 e11 ?_
    rw [partLoop_eq] at hR
    (repeat (first | refine TK.seq ?_ | refine TK.skip ?_))
    refine TK.block ?_
    (repeat (first | refine TK.seq ?_ | refine TK.skip ?_))
    apply TK.cut (fun ρ' Γ' => lk ρ' 0 = .slice (some ⟨b, 0, none⟩) n c ∧ lk ρ' 1 = .int .i64 (a : Int) ∧ lk ρ' 10 = .int .i64 ((scanUp (fun x => ltInt x d[a]!) d (j) (i) : Nat) : Int) ∧ lk ρ' 11 = .int .i64 (j : Int) ∧ Γ' = DD b c n d :: Γ)
    · intro k' hk'
      generalize hS : scanUp (fun x => ltInt x d[a]!) d (j) (i) = I at hk'
      refine m_run ?_
      apply TK.iter (fun m ρ' Γ' => ∃ (x : Nat), (j) + 1 - x ≤ m ∧ (i) ≤ x ∧ x ≤ (j) + 1 ∧ scanUp (fun x => ltInt x d[a]!) d (j) x = I ∧ lk ρ' 0 = .slice (some ⟨b, 0, none⟩) n c ∧ lk ρ' 1 = .int .i64 (a : Int) ∧ lk ρ' 10 = .int .i64 (x : Int) ∧ lk ρ' 11 = .int .i64 (j : Int) ∧ Γ' = DD b c n d :: Γ) ((j) + 1)
      · exact ⟨i, by omega, Nat.le_refl _, by omega, hS, rfl, rfl, rfl, rfl, rfl⟩
      clear hS
      rintro m IH ρ' _ ⟨x, hm, hx1, hx2, hS, e0, e1, ei, ej, rfl⟩
      refine TK.know4 e0 e1 ei ej ?_
      rw [Sort.scanUp] at hS
      by_cases hx : x ≤ j
      · have hc1 := cellD (b := b) (c := c) (Γ := Γ) hsz (show x < n by omega)
        have hc2 := cellD (b := b) (c := c) (Γ := Γ) hsz (show a < n by omega)
        refine m_run ?_
        refine TK.drawS mixed rfl ?_
        refine m_take (At.mk : At 0) ?_; refine m_take (At.mk : At 1) ?_; refine m_take (At.mk : At 2) ?_
        refine TA.isT 101 rfl (decide_eq_true (by omega)) ?_
        refine m_take (At.mk : At 3) ?_; refine m_take (At.mk : At 4) ?_; refine m_take (At.mk : At 5) ?_; refine m_take (At.mk : At 6) ?_; refine m_take (At.mk : At 7) ?_; refine m_take (At.mk : At 8) ?_; refine m_take (At.mk : At 9) ?_; refine m_take (At.mk : At 10) ?_; refine m_take (At.mk : At 11) ?_
        (apply TA.one 12; kernel_rfl; exact rfl)
        refine m_rrun ?_
        (apply TL.callV; exact rfl; exact callB_of (by kernel_rfl); exact rfl; exact fun _ h => h)
        exact less_t _ _ _
        rintro _ _ ⟨rfl, rfl⟩
        refine TL.back (by (focus ((repeat (first | assumption | exact Ent.refl _ | apply Ent.tail)); done))) ?_
        refine m_take (At.mk : At 13) ?_
        by_cases h : d[x]! < d[a]!
        · rw [if_pos (by simp [ltInt, h]; omega)] at hS
          refine TA.isT 112 rfl (decide_eq_true h) ?_
          refine TA.done (by kernel_rfl) ?_
          clear hc1 hc2
          refine m_run ?_
          exact IH (m - 1) _ _ (by omega) ⟨x + 1, by omega, by omega, by omega, hS, rfl, rfl, congrArg (Value.int .i64) (i64_succ x (by omega)), rfl, rfl⟩
        · rw [if_neg (by simp [ltInt, h])] at hS
          refine TA.isF 112 rfl (decide_eq_false h) ?_
          refine TA.done (by kernel_rfl) ?_
          clear hc1 hc2
          refine m_run ?_
          exact hk' _ _ ⟨rfl, rfl, congrArg (fun z : Nat => Value.int .i64 (z : Int)) hS, rfl, rfl⟩
      · rw [if_neg (by simp; omega)] at hS
        refine m_run ?_
        refine TK.drawS mixed rfl ?_
        refine m_take (At.mk : At 0) ?_; refine m_take (At.mk : At 1) ?_; refine m_take (At.mk : At 2) ?_
        refine TA.isF 101 rfl (decide_eq_false (by omega)) ?_
        refine m_take (At.mk : At 3) ?_; refine m_take (At.mk : At 4) ?_; refine m_take (At.mk : At 5) ?_; refine m_take (At.mk : At 6) ?_; refine m_take (At.mk : At 7) ?_; refine m_take (At.mk : At 8) ?_; refine m_take (At.mk : At 9) ?_; refine m_take (At.mk : At 10) ?_; refine m_take (At.mk : At 11) ?_; refine m_take (At.mk : At 12) ?_; refine m_take (At.mk : At 13) ?_
        refine TA.done (by kernel_rfl) ?_
        refine m_run ?_
        exact hk' _ _ ⟨rfl, rfl, congrArg (fun z : Nat => Value.int .i64 (z : Int)) hS, rfl, rfl⟩
    rintro ρ' _ ⟨e0, e1, ei, ej, rfl⟩
    refine TK.know4 e0 e1 ei ej ?_
    obtain ⟨hs1, hs2, _, hs4⟩ := scanUp_spec (fun x => ltInt x d[a]!) d j _ i rfl
    have hs2 := hs2 hij
    generalize hI : scanUp (fun x => ltInt x d[a]!) d j i = i2 at *
    (repeat (first | refine TK.seq ?_ | refine TK.skip ?_))
    apply TK.cut (fun ρ' Γ' => lk ρ' 0 = .slice (some ⟨b, 0, none⟩) n c ∧ lk ρ' 1 = .int .i64 (a : Int) ∧ lk ρ' 10 = .int .i64 (i2 : Int) ∧ lk ρ' 11 = .int .i64 ((scanDown (fun x => !ltInt x d[a]!) d (i2) (j) : Nat) : Int) ∧ Γ' = DD b c n d :: Γ)
    · intro k' hk'
      generalize hS : scanDown (fun x => !ltInt x d[a]!) d (i2) (j) = J at hk'
      refine m_run ?_
      apply TK.iter (fun m ρ' Γ' => m ≤ j ∧ (i2) ≤ m + 1 ∧ scanDown (fun x => !ltInt x d[a]!) d (i2) m = J ∧ lk ρ' 0 = .slice (some ⟨b, 0, none⟩) n c ∧ lk ρ' 1 = .int .i64 (a : Int) ∧ lk ρ' 10 = .int .i64 (i2 : Int) ∧ lk ρ' 11 = .int .i64 (m : Int) ∧ Γ' = DD b c n d :: Γ) (j)
      · exact ⟨Nat.le_refl _, by omega, hS, rfl, rfl, rfl, rfl, rfl⟩
      clear hS
      rintro x IH ρ' _ ⟨hx1, hx2, hS, e0, e1, ei, ej, rfl⟩
      refine TK.know4 e0 e1 ei ej ?_
      by_cases hx : i2 ≤ x
      · obtain ⟨w, rfl⟩ : ∃ w, x = w + 1 := ⟨x - 1, by omega⟩
        rw [Sort.scanDown] at hS
        have hc1 := cellD (b := b) (c := c) (Γ := Γ) hsz (show w + 1 < n by omega)
        have hc2 := cellD (b := b) (c := c) (Γ := Γ) hsz (show a < n by omega)
        refine m_run ?_
        refine TK.drawS mixed rfl ?_
        refine m_take (At.mk : At 0) ?_; refine m_take (At.mk : At 1) ?_; refine m_take (At.mk : At 2) ?_
        refine TA.isT 117 rfl (decide_eq_true (by omega)) ?_
        refine m_take (At.mk : At 3) ?_; refine m_take (At.mk : At 4) ?_; refine m_take (At.mk : At 5) ?_; refine m_take (At.mk : At 6) ?_; refine m_take (At.mk : At 7) ?_; refine m_take (At.mk : At 8) ?_; refine m_take (At.mk : At 9) ?_; refine m_take (At.mk : At 10) ?_; refine m_take (At.mk : At 11) ?_
        (apply TA.one 12; kernel_rfl; exact rfl)
        refine m_rrun ?_
        (apply TL.callV; exact rfl; exact callB_of (by kernel_rfl); exact rfl; exact fun _ h => h)
        exact less_t _ _ _
        rintro _ _ ⟨rfl, rfl⟩
        refine TL.back (by (focus ((repeat (first | assumption | exact Ent.refl _ | apply Ent.tail)); done))) ?_
        refine m_take (At.mk : At 13) ?_; refine m_take (At.mk : At 14) ?_
        by_cases h : d[w + 1]! < d[a]!
        · rw [if_neg (by simp [ltInt, h])] at hS
          refine TA.isF 129 rfl (not_f (decide_eq_true h)) ?_
          refine TA.done (by kernel_rfl) ?_
          clear hc1 hc2
          refine m_run ?_
          exact hk' _ _ ⟨rfl, rfl, rfl, congrArg (fun z : Nat => Value.int .i64 (z : Int)) hS, rfl⟩
        · rw [if_pos (by simp [ltInt, h]; omega)] at hS
          refine TA.isT 129 rfl (not_t (decide_eq_false h)) ?_
          refine TA.done (by kernel_rfl) ?_
          clear hc1 hc2
          refine m_run ?_
          exact IH w _ _ (by omega) ⟨by omega, by omega, hS, rfl, rfl, rfl, congrArg (Value.int .i64) (by rw [i64_in (by omega) (by omega)]; omega), rfl⟩
      · have hS : x = J := by
          rw [← hS]
          cases x with
          | zero => rw [Sort.scanDown]
          | succ w => rw [Sort.scanDown, if_neg (by simp; omega)]
        refine m_run ?_
        refine TK.drawS mixed rfl ?_
        refine m_take (At.mk : At 0) ?_; refine m_take (At.mk : At 1) ?_; refine m_take (At.mk : At 2) ?_
        refine TA.isF 117 rfl (decide_eq_false (by omega)) ?_
        refine m_take (At.mk : At 3) ?_; refine m_take (At.mk : At 4) ?_; refine m_take (At.mk : At 5) ?_; refine m_take (At.mk : At 6) ?_; refine m_take (At.mk : At 7) ?_; refine m_take (At.mk : At 8) ?_; refine m_take (At.mk : At 9) ?_; refine m_take (At.mk : At 10) ?_; refine m_take (At.mk : At 11) ?_; refine m_take (At.mk : At 12) ?_; refine m_take (At.mk : At 13) ?_; refine m_take (At.mk : At 14) ?_
        refine TA.done (by kernel_rfl) ?_
        refine m_run ?_
        exact hk' _ _ ⟨rfl, rfl, rfl, congrArg (fun z : Nat => Value.int .i64 (z : Int)) hS, rfl⟩
    rintro ρ' _ ⟨e0, e1, ei, ej, rfl⟩
    refine TK.know4 e0 e1 ei ej ?_
    obtain ⟨ht1, ht2, _, ht4⟩ := scanDown_spec (fun x => !ltInt x d[a]!) d i2 j
    have ht2 := ht2 hs2
    generalize hJ : scanDown (fun x => !ltInt x d[a]!) d i2 j = j2 at *
    by_cases hgt : i2 > j2
    · rw [if_pos hgt] at hR
      subst hR
      rw [← hX]
      refine m_run ?_
      have hcI := cellD (b := b) (c := c) (Γ := Γ) hsz (show j2 < n by omega)
      have hcK := cellD (b := b) (c := c) (Γ := Γ) hsz (show a < n by omega)
      refine TK.drawB mixed rfl 13 (DD b c n d :: Γ) (Γ) ?_
      refine m_bake (At.mk : At 0) ?_; refine m_bake (At.mk : At 1) ?_; refine m_bake (At.mk : At 2) ?_; refine m_bake (At.mk : At 3) ?_; refine m_bake (At.mk : At 4) ?_; refine m_bake (At.mk : At 5) ?_; refine m_bake (At.mk : At 6) ?_; refine m_bake (At.mk : At 7) ?_; refine m_bake (At.mk : At 8) ?_; refine m_bake (At.mk : At 9) ?_; refine m_bake (At.mk : At 10) ?_; refine m_bake (At.mk : At 11) ?_; refine m_bake (At.mk : At 12) ?_
      (apply TB.last; kernel_rfl; exact rfl)
      (apply TL.storeOwn 0 (j2); exact rfl; exact rfl; exact rfl; exact rfl; exact tb rfl; exact rfl; exact (Nat.zero_add _).symm; exact (by omega))
      refine TL.back (by (focus ((repeat (first | assumption | exact Ent.refl _ | apply Ent.tail)); done))) ?_
      refine m_take (At.mk : At 14) ?_
      (apply TA.one 15; kernel_rfl; exact rfl)
      (apply TL.storeOwn 0 (a); exact rfl; exact rfl; exact rfl; exact rfl; exact tb rfl; exact rfl; exact (Nat.zero_add _).symm; exact (by omega))
      refine TL.back (by (focus ((repeat (first | assumption | exact Ent.refl _ | apply Ent.tail)); done))) ?_
      refine TA.done (by kernel_rfl) ?_
      refine TK.imp (Δ := DD b c n (swp d (j2) (a)) :: Γ) (fun _ h => by show all (own _ _ _ _ (nums _ (swp d (j2) (a)).toList) :: _) _; rw [← swpD]; exact h) ?_
      have hsz : (swp d (j2) (a)).size = n := (size_swp _ _ _).trans hsz
      clear hcI hcK
      refine m_run ?_
      (apply TK.ret2; exact rfl; exact rfl; (exact m_val); (exact m_val))
      exact ⟨_, rfl, rfl, rfl⟩
    · rw [if_neg hgt] at hR
      have hne : i2 ≠ j2 := fun e => by
        have h1 := hs4 (by omega)
        have h2 := ht4 (by omega) (by omega)
        rw [← e] at h2
        simp only [h1] at h2
        cases h2
      refine m_run ?_
      have hcI := cellD (b := b) (c := c) (Γ := Γ) hsz (show i2 < n by omega)
      have hcK := cellD (b := b) (c := c) (Γ := Γ) hsz (show j2 < n by omega)
      refine TK.drawB mixed rfl 13 (DD b c n d :: Γ) (Γ) ?_
      refine m_bake (At.mk : At 0) ?_; refine m_bake (At.mk : At 1) ?_; refine m_bake (At.mk : At 2) ?_; refine m_bake (At.mk : At 3) ?_; refine m_bake (At.mk : At 4) ?_; refine m_bake (At.mk : At 5) ?_; refine m_bake (At.mk : At 6) ?_; refine m_bake (At.mk : At 7) ?_; refine m_bake (At.mk : At 8) ?_; refine m_bake (At.mk : At 9) ?_; refine m_bake (At.mk : At 10) ?_; refine m_bake (At.mk : At 11) ?_; refine m_bake (At.mk : At 12) ?_
      (apply TB.last; kernel_rfl; exact rfl)
      (apply TL.storeOwn 0 (i2); exact rfl; exact rfl; exact rfl; exact rfl; exact tb rfl; exact rfl; exact (Nat.zero_add _).symm; exact (by omega))
      refine TL.back (by (focus ((repeat (first | assumption | exact Ent.refl _ | apply Ent.tail)); done))) ?_
      refine m_take (At.mk : At 14) ?_
      (apply TA.one 15; kernel_rfl; exact rfl)
      (apply TL.storeOwn 0 (j2); exact rfl; exact rfl; exact rfl; exact rfl; exact tb rfl; exact rfl; exact (Nat.zero_add _).symm; exact (by omega))
      refine TL.back (by (focus ((repeat (first | assumption | exact Ent.refl _ | apply Ent.tail)); done))) ?_
      refine TA.done (by kernel_rfl) ?_
      refine TK.imp (Δ := DD b c n (swp d (i2) (j2)) :: Γ) (fun _ h => by show all (own _ _ _ _ (nums _ (swp d (i2) (j2)).toList) :: _) _; rw [← swpD]; exact h) ?_
      have hsz : (swp d (i2) (j2)).size = n := (size_swp _ _ _).trans hsz
      clear hcI hcK
      refine m_run ?_
      exact IH (m - 1) _ _ (by omega) ⟨i2 + 1, j2 - 1, _, by omega, by omega, by omega, by omega, hsz, hR, rfl, rfl, congrArg (Value.int .i64) (by rw [i64_in (by omega) (by omega)]; omega), congrArg (Value.int .i64) (by rw [i64_in (by omega) (by omega)]; omega), rfl⟩

theorem shiftDown_size : ∀ (j : Nat) (d : Array Int), (shiftDown ltInt j d).size = d.size
  | 0, d => by rw [Sort.shiftDown]
  | j + 1, d => by
    rw [Sort.shiftDown]
    split
    · rfl
    · rw [shiftDown_size j, size_swp]
theorem shiftUp_size (b j : Nat) (d : Array Int) : (shiftUp ltInt b j d).size = d.size := by
  have key : ∀ (N j : Nat) (d : Array Int), b - j ≤ N → (shiftUp ltInt b j d).size = d.size := by
    intro N
    induction N with
    | zero => intro j d h; rw [Sort.shiftUp, if_neg (by omega)]
    | succ N ih =>
      intro j d h
      rw [Sort.shiftUp]
      split
      · split
        · rfl
        · rw [ih _ _ (by omega), size_swp]
      · rfl
  exact key _ j d (Nat.le_refl _)
theorem scanSorted_le (b : Nat) (d : Array Int) : ∀ (i : Nat), i ≤ b → i ≤ scanSorted ltInt d b i ∧ scanSorted ltInt d b i ≤ b := by
  have key : ∀ (N i : Nat), b - i ≤ N → i ≤ b → i ≤ scanSorted ltInt d b i ∧ scanSorted ltInt d b i ≤ b := by
    intro N
    induction N with
    | zero => intro i h hb; rw [Sort.scanSorted, if_neg (by simp; omega)]; omega
    | succ N ih =>
      intro i h hb
      rw [Sort.scanSorted]
      split
      · rename_i hc
        simp at hc
        have := ih (i + 1) (by omega) (by omega)
        omega
      · omega
  exact fun i => key _ i (Nat.le_refl _)
set_option maxRecDepth 100000 in
set_option maxHeartbeats 4000000 in
theorem partial_t (b c n a e : Nat) (d0 : Array Int) (Γ : List HP) (hsz0 : d0.size = n) (hae : a < e) (he : e ≤ n) (hn : n ≤ 1000000000) :
    FnV Tryz.prog 165 [.slice (some ⟨b, 0, none⟩) n c, .int .i64 (a : Int), .int .i64 (e : Int)] (DD b c n d0 :: Γ) fun v Γ' => v = .bool (partialInsertionSort ltInt d0 a e).2 ∧ Γ' = DD b c n (partialInsertionSort ltInt d0 a e).1 :: Γ := by
  refine Fn.enter Tryz.func165 rfl rfl rfl fun E => ?_
  unfold partialInsertionSort
  generalize hX : partialIns ltInt a e 5 (a + 1) d0 = X
  refine m_run ?_
  apply TK.iter (fun m ρ' Γ' => ∃ (i : Nat) (d : Array Int), m ≤ 5 ∧ a + 1 ≤ i ∧ i ≤ e ∧ d.size = n ∧ partialIns ltInt a e m i d = X ∧ lk ρ' 0 = .slice (some ⟨b, 0, none⟩) n c ∧ lk ρ' 1 = .int .i64 (a : Int) ∧ lk ρ' 2 = .int .i64 (e : Int) ∧ lk ρ' 7 = .int .i64 (i : Int) ∧ lk ρ' 8 = .int .i64 ((5 - m : Nat) : Int) ∧ Γ' = DD b c n d :: Γ) 5
  · exact ⟨a + 1, d0, Nat.le_refl _, Nat.le_refl _, by omega, hsz0, hX, rfl, rfl, rfl, congrArg (Value.int .i64) (by rw [i64_in (by omega) (by omega)]; omega), rfl, rfl⟩
  clear hX
  rintro m IH ρ' _ ⟨i, d, hm, hi1, hie, hsz, hR, e0, e1, e2, e7, e8, rfl⟩
  refine TK.know5 e0 e1 e2 e7 e8 ?_
  cases m with
  | zero =>
    rw [Sort.partialIns] at hR
    rw [← hR]
    refine m_run ?_
    (apply TK.ret1; exact rfl; exact rfl; (exact m_val))
    exact ⟨_, rfl, rfl, rfl⟩
  | succ m =>
    rw [partialIns_succ] at hR
    obtain ⟨hs1, hs2⟩ := scanSorted_le e d i hie
    (repeat (first | refine TK.seq ?_ | refine TK.skip ?_))
    refine TK.region ?_
    refine m_rrun ?_
    refine TL.nil ?_
    (repeat (first | refine TK.seq ?_ | refine TK.skip ?_))
    refine TK.condT rfl (decide_eq_true (by omega)) ?_
    (repeat (first | refine TK.seq ?_ | refine TK.skip ?_))
    refine TK.block ?_
    (repeat (first | refine TK.seq ?_ | refine TK.skip ?_))
    apply TK.cut (fun ρ' Γ' => lk ρ' 0 = .slice (some ⟨b, 0, none⟩) n c ∧ lk ρ' 1 = .int .i64 (a : Int) ∧ lk ρ' 2 = .int .i64 (e : Int) ∧ lk ρ' 7 = .int .i64 ((scanSorted ltInt d e i : Nat) : Int) ∧ lk ρ' 8 = .int .i64 ((5 - (m + 1) : Nat) : Int) ∧ Γ' = DD b c n d :: Γ)
    · intro k' hk'
      generalize hS : scanSorted ltInt d e i = I at hk'
      refine m_run ?_
      apply TK.iter (fun q ρ' Γ' => ∃ (x : Nat), e - x ≤ q ∧ i ≤ x ∧ x ≤ e ∧ scanSorted ltInt d e x = I ∧ lk ρ' 0 = .slice (some ⟨b, 0, none⟩) n c ∧ lk ρ' 1 = .int .i64 (a : Int) ∧ lk ρ' 2 = .int .i64 (e : Int) ∧ lk ρ' 7 = .int .i64 (x : Int) ∧ lk ρ' 8 = .int .i64 ((5 - (m + 1) : Nat) : Int) ∧ Γ' = DD b c n d :: Γ) e
      · exact ⟨i, by omega, Nat.le_refl _, hie, hS, rfl, rfl, rfl, rfl, rfl, rfl⟩
      clear hS
      rintro q IH2 ρ2 _ ⟨x, hq, hx1, hx2, hS, f0, f1, f2, f7, f8, rfl⟩
      refine TK.know5 f0 f1 f2 f7 f8 ?_
      rw [Sort.scanSorted] at hS
      by_cases hx : x < e
      · have hc1 := cellD (b := b) (c := c) (Γ := Γ) hsz (show x < n by omega)
        have hc2 := cellD (b := b) (c := c) (Γ := Γ) hsz (show x - 1 < n by omega)
        refine m_run ?_
        refine TK.drawS mixed rfl ?_
        refine m_take (At.mk : At 0) ?_; refine m_take (At.mk : At 1) ?_; refine m_take (At.mk : At 2) ?_
        refine TA.isT 19 rfl (decide_eq_true (by omega)) ?_
        refine m_take (At.mk : At 3) ?_; refine m_take (At.mk : At 4) ?_; refine m_take (At.mk : At 5) ?_; refine m_take (At.mk : At 6) ?_; refine m_take (At.mk : At 7) ?_; refine m_take (At.mk : At 8) ?_; refine m_take (At.mk : At 9) ?_; refine m_take (At.mk : At 10) ?_
        refine TA.know (t := 27) (v := .int .i64 ((x - 1 : Nat) : Int)) (congrArg (Value.int .i64) (by rw [i64_in (by omega) (by omega)]; omega)) ?_
        refine m_take (At.mk : At 11) ?_; refine m_take (At.mk : At 12) ?_
        (apply TA.one 13; kernel_rfl; exact rfl)
        refine m_rrun ?_
        (apply TL.callV; exact rfl; exact callB_of (by kernel_rfl); exact rfl; exact fun _ h => h)
        exact less_t _ _ _
        rintro _ _ ⟨rfl, rfl⟩
        refine TL.back (by (focus ((repeat (first | assumption | exact Ent.refl _ | apply Ent.tail)); done))) ?_
        refine m_take (At.mk : At 14) ?_; refine m_take (At.mk : At 15) ?_
        by_cases h : d[x]! < d[x - 1]!
        · rw [if_neg (by simp [ltInt, h])] at hS
          refine TA.isF 32 rfl (not_f (decide_eq_true h)) ?_
          refine TA.done (by kernel_rfl) ?_
          clear hc1 hc2
          refine m_run ?_
          exact hk' _ _ ⟨rfl, rfl, rfl, congrArg (fun z : Nat => Value.int .i64 (z : Int)) hS, rfl, rfl⟩
        · rw [if_pos (by simp [ltInt, h]; omega)] at hS
          refine TA.isT 32 rfl (not_t (decide_eq_false h)) ?_
          refine TA.done (by kernel_rfl) ?_
          clear hc1 hc2
          refine m_run ?_
          exact IH2 (q - 1) _ _ (by omega) ⟨x + 1, by omega, by omega, by omega, hS, rfl, rfl, rfl, congrArg (Value.int .i64) (i64_succ x (by omega)), rfl, rfl⟩
      · rw [if_neg (by simp; omega)] at hS
        refine m_run ?_
        refine TK.drawS mixed rfl ?_
        refine m_take (At.mk : At 0) ?_; refine m_take (At.mk : At 1) ?_; refine m_take (At.mk : At 2) ?_
        refine TA.isF 19 rfl (decide_eq_false (by omega)) ?_
        refine m_take (At.mk : At 3) ?_; refine m_take (At.mk : At 4) ?_; refine m_take (At.mk : At 5) ?_; refine m_take (At.mk : At 6) ?_; refine m_take (At.mk : At 7) ?_; refine m_take (At.mk : At 8) ?_; refine m_take (At.mk : At 9) ?_; refine m_take (At.mk : At 10) ?_; refine m_take (At.mk : At 11) ?_; refine m_take (At.mk : At 12) ?_; refine m_take (At.mk : At 13) ?_; refine m_take (At.mk : At 14) ?_; refine m_take (At.mk : At 15) ?_
        refine TA.done (by kernel_rfl) ?_
        refine m_run ?_
        exact hk' _ _ ⟨rfl, rfl, rfl, congrArg (fun z : Nat => Value.int .i64 (z : Int)) hS, rfl, rfl⟩
    rintro ρ' _ ⟨e0, e1, e2, e7, e8, rfl⟩
    refine TK.know5 e0 e1 e2 e7 e8 ?_
    have hea : IntKind.i64.wrap ((e : Int) - (a : Int)) = ((e - a : Nat) : Int) := by rw [i64_in (by omega) (by omega)]; omega
    generalize scanSorted ltInt d e i = y at *
    have hya : IntKind.i64.wrap ((y : Int) - (a : Int)) = ((y - a : Nat) : Int) := by rw [i64_in (by omega) (by omega)]; omega
    have hey : IntKind.i64.wrap ((e : Int) - (y : Int)) = ((e - y : Nat) : Int) := by rw [i64_in (by omega) (by omega)]; omega
    by_cases hye : y = e
    · rw [if_pos hye] at hR
      rw [← hR]
      refine m_run ?_
      (apply TK.ret1; exact rfl; exact rfl; (exact m_val))
      exact ⟨_, rfl, rfl, rfl⟩
    rw [if_neg hye] at hR
    by_cases h50 : e - a < 50
    · rw [if_pos h50] at hR
      rw [← hR]
      refine m_run ?_
      refine TK.know (t := 41) (v := .bool true) (congrArg Value.bool (by rw [hea]; exact decide_eq_true (by omega))) ?_
      refine m_run ?_
      (apply TK.ret1; exact rfl; exact rfl; (exact m_val))
      exact ⟨_, rfl, rfl, rfl⟩
    rw [if_neg h50] at hR
    unfold fixUp fixDown at hR
    refine m_run ?_
    refine TK.know (t := 41) (v := .bool false) (congrArg Value.bool (by rw [hea]; exact decide_eq_false (by omega))) ?_
    refine m_run ?_
    have hcI := cellD (b := b) (c := c) (Γ := Γ) hsz (show y < n by omega)
    have hcK := cellD (b := b) (c := c) (Γ := Γ) hsz (show y - 1 < n by omega)
    refine TK.drawB mixed rfl 15 (DD b c n d :: Γ) (Γ) ?_
    refine m_bake (At.mk : At 0) ?_; refine m_bake (At.mk : At 1) ?_; refine m_bake (At.mk : At 2) ?_; refine m_bake (At.mk : At 3) ?_; refine m_bake (At.mk : At 4) ?_
    refine TB.know (t := 46) (v := .int .i64 ((y - 1 : Nat) : Int)) (congrArg (Value.int .i64) (by rw [i64_in (by omega) (by omega)]; omega)) ?_
    refine m_bake (At.mk : At 5) ?_; refine m_bake (At.mk : At 6) ?_; refine m_bake (At.mk : At 7) ?_
    refine TB.know (t := 49) (v := .int .i64 ((y - 1 : Nat) : Int)) (congrArg (Value.int .i64) (by rw [i64_in (by omega) (by omega)]; omega)) ?_
    refine m_bake (At.mk : At 8) ?_; refine m_bake (At.mk : At 9) ?_; refine m_bake (At.mk : At 10) ?_; refine m_bake (At.mk : At 11) ?_; refine m_bake (At.mk : At 12) ?_; refine m_bake (At.mk : At 13) ?_; refine m_bake (At.mk : At 14) ?_
    (apply TB.last; kernel_rfl; exact rfl)
    (apply TL.storeOwn 0 (y); exact rfl; exact rfl; exact rfl; exact rfl; exact tb rfl; exact rfl; exact (Nat.zero_add _).symm; exact (by omega))
    refine TL.back (by (focus ((repeat (first | assumption | exact Ent.refl _ | apply Ent.tail)); done))) ?_
    refine m_take (At.mk : At 16) ?_
    (apply TA.one 17; kernel_rfl; exact rfl)
    (apply TL.storeOwn 0 (y - 1); exact rfl; exact rfl; exact rfl; exact rfl; exact tb rfl; exact rfl; exact (Nat.zero_add _).symm; exact (by omega))
    refine TL.back (by (focus ((repeat (first | assumption | exact Ent.refl _ | apply Ent.tail)); done))) ?_
    refine TA.done (by kernel_rfl) ?_
    refine TK.imp (Δ := DD b c n (swp d (y) (y - 1)) :: Γ) (fun _ h => by show all (own _ _ _ _ (nums _ (swp d (y) (y - 1)).toList) :: _) _; rw [← swpD]; exact h) ?_
    have hsz : (swp d (y) (y - 1)).size = n := (size_swp _ _ _).trans hsz
    clear hcI hcK
    generalize swp d y (y - 1) = d at *
    (repeat (first | refine TK.seq ?_ | refine TK.skip ?_))
    refine TK.region ?_
    refine m_rrun ?_
    refine TL.nil ?_
    (repeat (first | refine TK.seq ?_ | refine TK.skip ?_))
    apply TK.cut (fun ρ' Γ' => lk ρ' 0 = .slice (some ⟨b, 0, none⟩) n c ∧ lk ρ' 1 = .int .i64 (a : Int) ∧ lk ρ' 2 = .int .i64 (e : Int) ∧ lk ρ' 7 = .int .i64 (y : Int) ∧ lk ρ' 8 = .int .i64 ((5 - (m + 1) : Nat) : Int) ∧ Γ' = DD b c n (if y - a ≥ 2 then shiftDown ltInt (y - 1) d else d) :: Γ)
    · intro k' hk'
      by_cases h2 : y - a ≥ 2
      · rw [if_pos h2] at hk'
        refine TK.know (t := 61) (v := .bool true) (congrArg Value.bool (by rw [hya]; exact decide_eq_true (by omega))) ?_
        refine m_run ?_
        generalize hS : shiftDown ltInt (y - 1) d = Y at hk'
        apply TK.iter (fun q ρ' Γ' => ∃ (d : Array Int), q + 1 ≤ y ∧ d.size = n ∧ shiftDown ltInt q d = Y ∧ lk ρ' 0 = .slice (some ⟨b, 0, none⟩) n c ∧ lk ρ' 1 = .int .i64 (a : Int) ∧ lk ρ' 2 = .int .i64 (e : Int) ∧ lk ρ' 7 = .int .i64 (y : Int) ∧ lk ρ' 8 = .int .i64 ((5 - (m + 1) : Nat) : Int) ∧ lk ρ' 9 = .int .i64 (q : Int) ∧ Γ' = DD b c n d :: Γ) (y - 1)
        · exact ⟨d, by omega, hsz, hS, rfl, rfl, rfl, rfl, rfl, congrArg (Value.int .i64) (by rw [i64_in (by omega) (by omega)]; omega), rfl⟩
        clear hS hsz hR
        rintro q IH2 ρ2 _ ⟨d, hq, hsz, hS, f0, f1, f2, f7, f8, f9, rfl⟩
        refine TK.know6 f0 f1 f2 f7 f8 f9 ?_
        cases q with
        | zero =>
          rw [Sort.shiftDown] at hS
          rw [hS]
          refine m_run ?_
          exact hk' _ _ ⟨rfl, rfl, rfl, rfl, rfl, rfl⟩
        | succ w =>
          rw [Sort.shiftDown] at hS
          have hc1 := cellD (b := b) (c := c) (Γ := Γ) hsz (show w + 1 < n by omega)
          have hc2 := cellD (b := b) (c := c) (Γ := Γ) hsz (show w < n by omega)
          refine m_run ?_
          refine TK.drawS mixed rfl ?_
          refine m_take (At.mk : At 0) ?_; refine m_take (At.mk : At 1) ?_; refine m_take (At.mk : At 2) ?_; refine m_take (At.mk : At 3) ?_; refine m_take (At.mk : At 4) ?_; refine m_take (At.mk : At 5) ?_; refine m_take (At.mk : At 6) ?_
          refine TA.know (t := 74) (v := .int .i64 ((w : Nat) : Int)) (congrArg (Value.int .i64) (by rw [i64_in (by omega) (by omega)]; omega)) ?_
          refine m_take (At.mk : At 7) ?_; refine m_take (At.mk : At 8) ?_
          (apply TA.one 9; kernel_rfl; exact rfl)
          (apply TL.callV; exact rfl; exact callB_of (by kernel_rfl); exact rfl; exact fun _ h => h)
          exact less_t _ _ _
          rintro _ _ ⟨rfl, rfl⟩
          refine TL.back (by (focus ((repeat (first | assumption | exact Ent.refl _ | apply Ent.tail)); done))) ?_
          refine m_take (At.mk : At 10) ?_
          by_cases h : d[w + 1]! < d[w]!
          · rw [if_neg (by simp [ltInt, h])] at hS
            refine TA.isF 78 rfl (not_f (decide_eq_true h)) ?_
            refine TA.done (by kernel_rfl) ?_
            clear hc1 hc2
            refine m_run ?_
            have hcI := cellD (b := b) (c := c) (Γ := Γ) hsz (show w + 1 < n by omega)
            have hcK := cellD (b := b) (c := c) (Γ := Γ) hsz (show w < n by omega)
            refine TK.drawB mixed rfl 15 (DD b c n d :: Γ) (Γ) ?_
            refine m_bake (At.mk : At 0) ?_; refine m_bake (At.mk : At 1) ?_; refine m_bake (At.mk : At 2) ?_; refine m_bake (At.mk : At 3) ?_; refine m_bake (At.mk : At 4) ?_
            refine TB.know (t := 83) (v := .int .i64 ((w : Nat) : Int)) (congrArg (Value.int .i64) (by rw [i64_in (by omega) (by omega)]; omega)) ?_
            refine m_bake (At.mk : At 5) ?_; refine m_bake (At.mk : At 6) ?_; refine m_bake (At.mk : At 7) ?_
            refine TB.know (t := 86) (v := .int .i64 ((w : Nat) : Int)) (congrArg (Value.int .i64) (by rw [i64_in (by omega) (by omega)]; omega)) ?_
            refine m_bake (At.mk : At 8) ?_; refine m_bake (At.mk : At 9) ?_; refine m_bake (At.mk : At 10) ?_; refine m_bake (At.mk : At 11) ?_; refine m_bake (At.mk : At 12) ?_; refine m_bake (At.mk : At 13) ?_; refine m_bake (At.mk : At 14) ?_
            (apply TB.last; kernel_rfl; exact rfl)
            (apply TL.storeOwn 0 (w + 1); exact rfl; exact rfl; exact rfl; exact rfl; exact tb rfl; exact rfl; exact (Nat.zero_add _).symm; exact (by omega))
            refine TL.back (by (focus ((repeat (first | assumption | exact Ent.refl _ | apply Ent.tail)); done))) ?_
            refine m_take (At.mk : At 16) ?_
            (apply TA.one 17; kernel_rfl; exact rfl)
            (apply TL.storeOwn 0 (w); exact rfl; exact rfl; exact rfl; exact rfl; exact tb rfl; exact rfl; exact (Nat.zero_add _).symm; exact (by omega))
            refine TL.back (by (focus ((repeat (first | assumption | exact Ent.refl _ | apply Ent.tail)); done))) ?_
            refine TA.done (by kernel_rfl) ?_
            refine TK.imp (Δ := DD b c n (swp d (w + 1) (w)) :: Γ) (fun _ h => by show all (own _ _ _ _ (nums _ (swp d (w + 1) (w)).toList) :: _) _; rw [← swpD]; exact h) ?_
            have hsz : (swp d (w + 1) (w)).size = n := (size_swp _ _ _).trans hsz
            clear hcI hcK
            refine m_run ?_
            exact IH2 w _ _ (by omega) ⟨_, by omega, hsz, hS, rfl, rfl, rfl, rfl, rfl, congrArg (Value.int .i64) (by rw [i64_in (by omega) (by omega)]; omega), rfl⟩
          · rw [if_pos (by simp [ltInt, h])] at hS
            refine TA.isT 78 rfl (not_t (decide_eq_false h)) ?_
            refine TA.done (by kernel_rfl) ?_
            rw [hS]
            refine m_run ?_
            exact hk' _ _ ⟨rfl, rfl, rfl, rfl, rfl, rfl⟩
      · rw [if_neg h2] at hk'
        refine TK.know (t := 61) (v := .bool false) (congrArg Value.bool (by rw [hya]; exact decide_eq_false (by omega))) ?_
        refine m_run ?_
        exact hk' _ _ ⟨rfl, rfl, rfl, rfl, rfl, rfl⟩
    rintro ρ' _ ⟨e0, e1, e2, e7, e8, rfl⟩
    refine TK.know5 e0 e1 e2 e7 e8 ?_
    have hsz : (if y - a ≥ 2 then shiftDown ltInt (y - 1) d else d).size = n := by
      split
      · rw [shiftDown_size]; exact hsz
      · exact hsz
    generalize (if y - a ≥ 2 then shiftDown ltInt (y - 1) d else d) = d at *
    (repeat (first | refine TK.seq ?_ | refine TK.skip ?_))
    refine TK.region ?_
    refine m_rrun ?_
    refine TL.nil ?_
    (repeat (first | refine TK.seq ?_ | refine TK.skip ?_))
    apply TK.cut (fun ρ' Γ' => lk ρ' 0 = .slice (some ⟨b, 0, none⟩) n c ∧ lk ρ' 1 = .int .i64 (a : Int) ∧ lk ρ' 2 = .int .i64 (e : Int) ∧ lk ρ' 7 = .int .i64 (y : Int) ∧ lk ρ' 8 = .int .i64 ((5 - (m + 1) : Nat) : Int) ∧ Γ' = DD b c n (if e - y ≥ 2 then shiftUp ltInt e (y + 1) d else d) :: Γ)
    · intro k' hk'
      by_cases h2 : e - y ≥ 2
      · rw [if_pos h2] at hk'
        refine TK.know (t := 98) (v := .bool true) (congrArg Value.bool (by rw [hey]; exact decide_eq_true (by omega))) ?_
        refine m_run ?_
        generalize hS : shiftUp ltInt e (y + 1) d = Y at hk'
        apply TK.iter (fun q ρ' Γ' => ∃ (x : Nat) (d : Array Int), e - x ≤ q ∧ y + 1 ≤ x ∧ x ≤ e ∧ d.size = n ∧ shiftUp ltInt e x d = Y ∧ lk ρ' 0 = .slice (some ⟨b, 0, none⟩) n c ∧ lk ρ' 1 = .int .i64 (a : Int) ∧ lk ρ' 2 = .int .i64 (e : Int) ∧ lk ρ' 7 = .int .i64 (y : Int) ∧ lk ρ' 8 = .int .i64 ((5 - (m + 1) : Nat) : Int) ∧ lk ρ' 10 = .int .i64 (x : Int) ∧ Γ' = DD b c n d :: Γ) e
        · exact ⟨y + 1, d, by omega, Nat.le_refl _, by omega, hsz, hS, rfl, rfl, rfl, rfl, rfl, congrArg (Value.int .i64) (i64_succ y (by omega)), rfl⟩
        clear hS hsz hR
        rintro q IH2 ρ2 _ ⟨x, d, hq, hx1, hx2, hsz, hS, f0, f1, f2, f7, f8, f10, rfl⟩
        refine TK.know6 f0 f1 f2 f7 f8 f10 ?_
        rw [Sort.shiftUp] at hS
        by_cases hx : x < e
        · rw [if_pos hx] at hS
          have hc1 := cellD (b := b) (c := c) (Γ := Γ) hsz (show x < n by omega)
          have hc2 := cellD (b := b) (c := c) (Γ := Γ) hsz (show x - 1 < n by omega)
          refine m_run ?_
          refine TK.drawS mixed rfl ?_
          refine m_take (At.mk : At 0) ?_; refine m_take (At.mk : At 1) ?_; refine m_take (At.mk : At 2) ?_; refine m_take (At.mk : At 3) ?_; refine m_take (At.mk : At 4) ?_; refine m_take (At.mk : At 5) ?_; refine m_take (At.mk : At 6) ?_
          refine TA.know (t := 112) (v := .int .i64 ((x - 1 : Nat) : Int)) (congrArg (Value.int .i64) (by rw [i64_in (by omega) (by omega)]; omega)) ?_
          refine m_take (At.mk : At 7) ?_; refine m_take (At.mk : At 8) ?_
          (apply TA.one 9; kernel_rfl; exact rfl)
          (apply TL.callV; exact rfl; exact callB_of (by kernel_rfl); exact rfl; exact fun _ h => h)
          exact less_t _ _ _
          rintro _ _ ⟨rfl, rfl⟩
          refine TL.back (by (focus ((repeat (first | assumption | exact Ent.refl _ | apply Ent.tail)); done))) ?_
          refine m_take (At.mk : At 10) ?_
          by_cases h : d[x]! < d[x - 1]!
          · rw [if_neg (by simp [ltInt, h])] at hS
            refine TA.isF 116 rfl (not_f (decide_eq_true h)) ?_
            refine TA.done (by kernel_rfl) ?_
            clear hc1 hc2
            refine m_run ?_
            have hcI := cellD (b := b) (c := c) (Γ := Γ) hsz (show x < n by omega)
            have hcK := cellD (b := b) (c := c) (Γ := Γ) hsz (show x - 1 < n by omega)
            refine TK.drawB mixed rfl 15 (DD b c n d :: Γ) (Γ) ?_
            refine m_bake (At.mk : At 0) ?_; refine m_bake (At.mk : At 1) ?_; refine m_bake (At.mk : At 2) ?_; refine m_bake (At.mk : At 3) ?_; refine m_bake (At.mk : At 4) ?_
            refine TB.know (t := 121) (v := .int .i64 ((x - 1 : Nat) : Int)) (congrArg (Value.int .i64) (by rw [i64_in (by omega) (by omega)]; omega)) ?_
            refine m_bake (At.mk : At 5) ?_; refine m_bake (At.mk : At 6) ?_; refine m_bake (At.mk : At 7) ?_
            refine TB.know (t := 124) (v := .int .i64 ((x - 1 : Nat) : Int)) (congrArg (Value.int .i64) (by rw [i64_in (by omega) (by omega)]; omega)) ?_
            refine m_bake (At.mk : At 8) ?_; refine m_bake (At.mk : At 9) ?_; refine m_bake (At.mk : At 10) ?_; refine m_bake (At.mk : At 11) ?_; refine m_bake (At.mk : At 12) ?_; refine m_bake (At.mk : At 13) ?_; refine m_bake (At.mk : At 14) ?_
            (apply TB.last; kernel_rfl; exact rfl)
            (apply TL.storeOwn 0 (x); exact rfl; exact rfl; exact rfl; exact rfl; exact tb rfl; exact rfl; exact (Nat.zero_add _).symm; exact (by omega))
            refine TL.back (by (focus ((repeat (first | assumption | exact Ent.refl _ | apply Ent.tail)); done))) ?_
            refine m_take (At.mk : At 16) ?_
            (apply TA.one 17; kernel_rfl; exact rfl)
            (apply TL.storeOwn 0 (x - 1); exact rfl; exact rfl; exact rfl; exact rfl; exact tb rfl; exact rfl; exact (Nat.zero_add _).symm; exact (by omega))
            refine TL.back (by (focus ((repeat (first | assumption | exact Ent.refl _ | apply Ent.tail)); done))) ?_
            refine TA.done (by kernel_rfl) ?_
            refine TK.imp (Δ := DD b c n (swp d (x) (x - 1)) :: Γ) (fun _ h => by show all (own _ _ _ _ (nums _ (swp d (x) (x - 1)).toList) :: _) _; rw [← swpD]; exact h) ?_
            have hsz : (swp d (x) (x - 1)).size = n := (size_swp _ _ _).trans hsz
            clear hcI hcK
            refine m_run ?_
            exact IH2 (q - 1) _ _ (by omega) ⟨x + 1, _, by omega, by omega, by omega, hsz, hS, rfl, rfl, rfl, rfl, rfl, congrArg (Value.int .i64) (i64_succ x (by omega)), rfl⟩
          · rw [if_pos (by simp [ltInt, h])] at hS
            refine TA.isT 116 rfl (not_t (decide_eq_false h)) ?_
            refine TA.done (by kernel_rfl) ?_
            rw [hS]
            refine m_run ?_
            exact hk' _ _ ⟨rfl, rfl, rfl, rfl, rfl, rfl⟩
        · rw [if_neg hx] at hS
          rw [hS]
          refine m_run ?_
          exact hk' _ _ ⟨rfl, rfl, rfl, rfl, rfl, rfl⟩
      · rw [if_neg h2] at hk'
        refine TK.know (t := 98) (v := .bool false) (congrArg Value.bool (by rw [hey]; exact decide_eq_false (by omega))) ?_
        refine m_run ?_
        exact hk' _ _ ⟨rfl, rfl, rfl, rfl, rfl, rfl⟩
    rintro ρ' _ ⟨e0, e1, e2, e7, e8, rfl⟩
    refine TK.know5 e0 e1 e2 e7 e8 ?_
    have hsz : (if e - y ≥ 2 then shiftUp ltInt e (y + 1) d else d).size = n := by
      split
      · rw [shiftUp_size]; exact hsz
      · exact hsz
    refine m_run ?_
    exact IH m _ _ (by omega) ⟨y, _, by omega, by omega, by omega, hsz, hR, rfl, rfl, rfl, rfl, congrArg (Value.int .i64) (by rw [i64_in (by omega) (by omega)]; omega), rfl⟩

def okTab (a : ByteArray) : Bool := Nat.beq a.size 256 && (List.range 256).all fun i => Nat.ble (a.get! i).toNat 8 && (Nat.beq i 0 || Nat.ble (2 ^ (a.get! i).toNat) (2 * i))
theorem okTab_spec {a : ByteArray} (h : okTab a = true) {i : Nat} (hi : i < 256) (hs : i < a.size) : (a[i]'hs).toNat ≤ 8 ∧ (0 < i → 2 ^ (a[i]'hs).toNat ≤ 2 * i) := by
  unfold okTab at h
  rw [Bool.and_eq_true] at h
  have h1 := List.all_eq_true.1 h.2 i (List.mem_range.2 hi)
  have e : a.get! i = a[i]'hs := by
    rw [ByteArray.getElem_eq_getElem_data]
    show a.data[i]! = _
    exact getElem!_pos a.data i hs
  rw [e, Bool.and_eq_true, Bool.or_eq_true] at h1
  refine ⟨Nat.le_of_ble_eq_true h1.1, fun h0 => ?_⟩
  rcases h1.2 with h2 | h2
  · have := Nat.eq_of_beq_eq_true h2; omega
  · exact Nat.le_of_ble_eq_true h2
theorem TL.indexTab {cx : Cx} {ops : Array Oper} {K : Act → World → Prop} {rest : List Oper} {ρ : Env} {ds : List Deferred} {Γ : List HP} {d : Nat} {ty t : TypeId} {pos : String} {after : Array Edge} {x y : Operand} {a : ByteArray} {q : IntKind} {i : Nat} {r : TR} (hd : Nat.blt d cx.n = true) (ea : ev ρ x = .string a) (eb : ev ρ y = .int q i) (ht : TabOk cx.P t r) (hq : r.und = .string) (hok : okTab a = true) (hi : i < 256)
    (h : ∀ u : Nat, u ≤ 8 → (0 < i → 2 ^ u ≤ 2 * i) → TL cx ops K rest ((d, .int .u8 (u : Int)) :: ρ) ds Γ) : TL cx ops K (⟨some d, .index t x y, ty, pos, after, none⟩ :: rest) ρ ds Γ := by
  have hs : i < a.size := by
    unfold okTab at hok
    rw [Bool.and_eq_true] at hok
    rw [Nat.eq_of_beq_eq_true hok.1]; exact hi
  obtain ⟨h1, h2⟩ := okTab_spec hok hi hs
  exact TL.pv hd (PV.indexStr ea eb ht hq hs) (h _ h1 h2)
theorem bxor_nat (a b : Int) : ∃ y : Nat, bitsOf .xor .u64 a b = (y : Int) ∧ y < 18446744073709551616 := by
  refine ⟨(BitVec.ofInt 64 a ^^^ BitVec.ofInt 64 b).toNat % 2 ^ 64, ?_, Nat.mod_lt _ (by decide)⟩
  show IntKind.u64.wrap _ = _
  exact wrap_nat rfl _
set_option maxRecDepth 100000 in
set_option maxHeartbeats 4000000 in
theorem len64_t (n : Nat) (hn : n ≤ 1000000000) (Γ : List HP) : FnV Tryz.prog 146 [.int .u64 (n : Int)] Γ fun v Γ' => ∃ L : Nat, L ≤ 32 ∧ (0 < n → 2 ^ L ≤ 2 * n) ∧ v = .int .i64 (L : Int) ∧ Γ' = Γ := by
  refine Fn.enter Tryz.func146 rfl rfl rfl fun E => ?_
  by_cases h16 : 65536 ≤ n
  · have h17 : 256 ≤ n / 2 ^ 16 ∨ ¬ 256 ≤ n / 2 ^ 16 := Decidable.em _
    rcases h17 with h8 | h8
    · have hm : n / 2 ^ 16 / 2 ^ 8 < 256 := by omega
      have hm0 : 0 < n / 2 ^ 16 / 2 ^ 8 := by omega
      have hd : n / 2 ^ 16 / 2 ^ 8 * 16777216 ≤ n := by omega
      refine m_run ?_
      generalize n / 2 ^ 16 / 2 ^ 8 = m at *
      refine TL.know (t := 21) (v := .int .u8 ((m : Nat) : Int)) (congrArg (Value.int .u8) (u8_in (by omega) (by omega))) ?_
      (apply TL.indexTab (i := m); exact rfl; exact rfl; exact rfl; exact tb rfl; exact rfl; kernel_rfl; exact (by omega))
      intro u hu hu2
      refine m_run ?_
      refine TK.know (t := 2) (v := .int .i64 ((24 + u : Nat) : Int)) (congrArg (Value.int .i64) (by rw [i64_in (x := (0 : Int) + 16) (by decide) (by decide), i64_in (x := (0 : Int) + 16 + 8) (by decide) (by decide), i64_in (x := (u : Int)) (by omega) (by omega), i64_in (by omega) (by omega)]; omega)) ?_
      (apply TK.ret1; exact rfl; exact rfl; (exact m_val))
      exact ⟨_, rfl, _, by omega, fun h0 => by have := hu2 (by omega); rw [Nat.pow_add]; show 16777216 * 2 ^ u ≤ _; generalize 2 ^ u = w at *; omega, rfl, rfl⟩
    · have hm : n / 2 ^ 16 < 256 := by omega
      have hm0 : 0 < n / 2 ^ 16 := by omega
      have hd : n / 2 ^ 16 * 65536 ≤ n := by omega
      refine m_run ?_
      generalize n / 2 ^ 16 = m at *
      refine TL.know (t := 21) (v := .int .u8 ((m : Nat) : Int)) (congrArg (Value.int .u8) (u8_in (by omega) (by omega))) ?_
      (apply TL.indexTab (i := m); exact rfl; exact rfl; exact rfl; exact tb rfl; exact rfl; kernel_rfl; exact (by omega))
      intro u hu hu2
      refine m_run ?_
      refine TK.know (t := 2) (v := .int .i64 ((16 + u : Nat) : Int)) (congrArg (Value.int .i64) (by rw [i64_in (x := (0 : Int) + 16) (by decide) (by decide), i64_in (x := (u : Int)) (by omega) (by omega), i64_in (by omega) (by omega)]; omega)) ?_
      (apply TK.ret1; exact rfl; exact rfl; (exact m_val))
      exact ⟨_, rfl, _, by omega, fun h0 => by have := hu2 (by omega); rw [Nat.pow_add]; show 65536 * 2 ^ u ≤ _; generalize 2 ^ u = w at *; omega, rfl, rfl⟩
  · by_cases h8 : 256 ≤ n
    · have hm : n / 2 ^ 8 < 256 := by omega
      have hm0 : 0 < n / 2 ^ 8 := by omega
      have hd : n / 2 ^ 8 * 256 ≤ n := by omega
      refine m_run ?_
      generalize n / 2 ^ 8 = m at *
      refine TL.know (t := 21) (v := .int .u8 ((m : Nat) : Int)) (congrArg (Value.int .u8) (u8_in (by omega) (by omega))) ?_
      (apply TL.indexTab (i := m); exact rfl; exact rfl; exact rfl; exact tb rfl; exact rfl; kernel_rfl; exact (by omega))
      intro u hu hu2
      refine m_run ?_
      refine TK.know (t := 2) (v := .int .i64 ((8 + u : Nat) : Int)) (congrArg (Value.int .i64) (by rw [i64_in (x := (0 : Int) + 8) (by decide) (by decide), i64_in (x := (u : Int)) (by omega) (by omega), i64_in (by omega) (by omega)]; omega)) ?_
      (apply TK.ret1; exact rfl; exact rfl; (exact m_val))
      exact ⟨_, rfl, _, by omega, fun h0 => by have := hu2 (by omega); rw [Nat.pow_add]; show 256 * 2 ^ u ≤ _; generalize 2 ^ u = w at *; omega, rfl, rfl⟩
    · refine m_run ?_
      refine TL.know (t := 21) (v := .int .u8 ((n : Nat) : Int)) (congrArg (Value.int .u8) (u8_in (by omega) (by omega))) ?_
      (apply TL.indexTab (i := n); exact rfl; exact rfl; exact rfl; exact tb rfl; exact rfl; kernel_rfl; exact (by omega))
      intro u hu hu2
      refine m_run ?_
      refine TK.know (t := 2) (v := .int .i64 ((0 + u : Nat) : Int)) (congrArg (Value.int .i64) (by rw [i64_in (x := (u : Int)) (by omega) (by omega), i64_in (by omega) (by omega)]; omega)) ?_
      (apply TK.ret1; exact rfl; exact rfl; (exact m_val))
      exact ⟨_, rfl, _, by omega, fun h0 => by rw [Nat.zero_add]; exact hu2 h0, rfl, rfl⟩
set_option maxRecDepth 100000 in
set_option maxHeartbeats 4000000 in
theorem len_t (n : Nat) (hn : n ≤ 1000000000) (Γ : List HP) : FnV Tryz.prog 107 [.int .u64 (n : Int)] Γ fun v Γ' => ∃ L : Nat, L ≤ 32 ∧ (0 < n → 2 ^ L ≤ 2 * n) ∧ v = .int .i64 (L : Int) ∧ Γ' = Γ := by
  refine Fn.enter Tryz.func107 rfl rfl rfl fun E => ?_
  refine m_run ?_
  (apply TL.callV; exact rfl; exact callB_of (by kernel_rfl); exact rfl; exact fun _ h => h)
  exact len64_t n hn Γ
  rintro _ Γ ⟨L, h1, h2, rfl, rfl⟩
  refine m_run ?_
  (apply TK.ret1; exact rfl; exact rfl; (exact m_val))
  exact ⟨_, rfl, L, h1, h2, rfl, rfl⟩
set_option maxRecDepth 100000 in
set_option maxHeartbeats 4000000 in
theorem npow_t (n : Nat) (h0 : 0 < n) (hn : n ≤ 1000000000) (Γ : List HP) : FnV Tryz.prog 178 [.int .i64 (n : Int)] Γ fun v Γ' => ∃ M : Nat, 1 ≤ M ∧ M ≤ 2 * n ∧ v = .int .u64 (M : Int) ∧ Γ' = Γ := by
  refine Fn.enter Tryz.func178 rfl rfl rfl fun E => ?_
  refine m_run ?_
  refine TL.know (t := 4) (v := .int .u64 (n : Int)) (congrArg (Value.int .u64) (u64_nat (by omega))) ?_
  (apply TL.callV; exact rfl; exact callB_of (by kernel_rfl); exact rfl; exact fun _ h => h)
  exact len_t n hn Γ
  rintro _ Γ ⟨L, h1, h2, rfl, rfl⟩
  have h2 := h2 h0
  have h3 := Nat.two_pow_pos L
  have hw : IntKind.u64.wrap (1 * 2 ^ (min ((L : Int)).toNat IntKind.u64.bits)) = ((2 ^ L : Nat) : Int) := by
    rw [Int.toNat_natCast, Nat.min_eq_left (by show L ≤ 64; omega), Int.one_mul, show (2 : Int) ^ L = ((2 ^ L : Nat) : Int) by simp, u64_nat (by omega)]
  (apply TL.pv; exact rfl; (apply PV.shl; exact rfl; exact rfl; exact (by omega)))
  rw [hw]
  generalize 2 ^ L = M at *
  refine m_run ?_
  (apply TK.ret1; exact rfl; exact rfl; (exact m_val))
  exact ⟨_, rfl, M, h3, h2, rfl, rfl⟩
set_option maxRecDepth 100000 in
set_option maxHeartbeats 4000000 in
theorem next_t (s x : Nat) (Γ : List HP) : FnV Tryz.prog 179 [.pointer (some ⟨s, 0, none⟩)] (row s [.int .u64 (x : Int)] 224 :: Γ) fun v Γ' => ∃ y : Nat, y < 18446744073709551616 ∧ v = .int .u64 (y : Int) ∧ Γ' = row s [.int .u64 (y : Int)] 224 :: Γ := by
  refine Fn.enter Tryz.func179 rfl rfl rfl fun E => ?_
  refine m_run ?_
  refine TK.drawB mixed rfl 9 (row s [.int .u64 (x : Int)] 224 :: Γ) Γ ?_
  refine m_bake (At.mk : At 0) ?_; refine m_bake (At.mk : At 1) ?_; refine m_bake (At.mk : At 2) ?_; refine m_bake (At.mk : At 3) ?_; refine m_bake (At.mk : At 4) ?_; refine m_bake (At.mk : At 5) ?_
  (apply TB.takeA (At.mk : At 6); exact rfl; exact rfl; kernel_rfl; exact rfl; ((focus ((repeat (first | assumption | exact Ent.refl _ | apply Ent.tail)); done))); (apply PV.shl; exact rfl; exact rfl; exact (by decide)))
  refine m_bake (At.mk : At 7) ?_; refine m_bake (At.mk : At 8) ?_
  (apply TB.last; kernel_rfl; exact rfl)
  refine m_rrun ?_
  refine TL.back (by (focus ((repeat (first | assumption | exact Ent.refl _ | apply Ent.tail)); done))) ?_
  refine TA.done (by kernel_rfl) ?_
  generalize bitsOf .xor .u64 _ _ = x1
  refine m_run ?_
  refine TK.drawB mixed rfl 9 (row s [.int .u64 x1] 224 :: Γ) Γ ?_
  refine m_bake (At.mk : At 0) ?_; refine m_bake (At.mk : At 1) ?_; refine m_bake (At.mk : At 2) ?_; refine m_bake (At.mk : At 3) ?_; refine m_bake (At.mk : At 4) ?_; refine m_bake (At.mk : At 5) ?_
  (apply TB.takeA (At.mk : At 6); exact rfl; exact rfl; kernel_rfl; exact rfl; ((focus ((repeat (first | assumption | exact Ent.refl _ | apply Ent.tail)); done))); (apply PV.shr; exact rfl; exact rfl; exact (by decide)))
  refine m_bake (At.mk : At 7) ?_; refine m_bake (At.mk : At 8) ?_
  (apply TB.last; kernel_rfl; exact rfl)
  refine m_rrun ?_
  refine TL.back (by (focus ((repeat (first | assumption | exact Ent.refl _ | apply Ent.tail)); done))) ?_
  refine TA.done (by kernel_rfl) ?_
  generalize bitsOf .xor .u64 _ _ = x2
  refine m_run ?_
  refine TK.drawB mixed rfl 9 (row s [.int .u64 x2] 224 :: Γ) Γ ?_
  refine m_bake (At.mk : At 0) ?_; refine m_bake (At.mk : At 1) ?_; refine m_bake (At.mk : At 2) ?_; refine m_bake (At.mk : At 3) ?_; refine m_bake (At.mk : At 4) ?_; refine m_bake (At.mk : At 5) ?_
  (apply TB.takeA (At.mk : At 6); exact rfl; exact rfl; kernel_rfl; exact rfl; ((focus ((repeat (first | assumption | exact Ent.refl _ | apply Ent.tail)); done))); (apply PV.shl; exact rfl; exact rfl; exact (by decide)))
  refine m_bake (At.mk : At 7) ?_
  obtain ⟨y, hy, hy2⟩ := bxor_nat x2 (IntKind.u64.wrap (x2 * 2 ^ min (Int.toNat 17) IntKind.u64.bits))
  refine TB.know (t := 28) (v := .int .u64 (y : Int)) (congrArg (Value.int .u64) hy) ?_
  refine m_bake (At.mk : At 8) ?_
  (apply TB.last; kernel_rfl; exact rfl)
  refine m_rrun ?_
  refine TL.back (by (focus ((repeat (first | assumption | exact Ent.refl _ | apply Ent.tail)); done))) ?_
  refine TA.done (by kernel_rfl) ?_
  refine m_run ?_
  (apply TK.ret1; exact rfl; exact rfl; (exact m_val))
  exact ⟨_, rfl, y, hy2, rfl, rfl⟩
set_option maxRecDepth 100000 in
set_option maxHeartbeats 4000000 in
theorem brk_t (b c n a e : Nat) (d0 : Array Int) (Γ : List HP) (hsz0 : d0.size = n) (hae : a + 12 < e) (he : e ≤ n) (hn : n ≤ 1000000000) :
    FnV Tryz.prog 162 [.slice (some ⟨b, 0, none⟩) n c, .int .i64 (a : Int), .int .i64 (e : Int)] (DD b c n d0 :: Γ) fun v Γ' => v = .tuple #[] ∧ ∃ d, PermIn a e d0 d ∧ Γ' = DD b c n d :: Γ := by
  refine Fn.enter Tryz.func162 rfl rfl rfl fun E => ?_
  have hq1 : (e - a) / 4 * 4 ≤ e - a := Nat.div_mul_le_self _ _
  have hq3 : 3 ≤ (e - a) / 4 := by omega
  have hqt : IntKind.i64.wrap (((e - a : Nat) : Int).tdiv 4) = (((e - a) / 4 : Nat) : Int) := by
    rw [show ((e - a : Nat) : Int).tdiv 4 = (((e - a) / 4 : Nat) : Int) from rfl, i64_in (by omega) (by omega)]
  generalize (e - a) / 4 = q at *
  have hea : IntKind.i64.wrap ((e : Int) - (a : Int)) = ((e - a : Nat) : Int) := by rw [i64_in (by omega) (by omega)]; omega
  refine m_run ?_
  refine TL.know (t := 17) (v := .int .u64 ((e - a : Nat) : Int)) (congrArg (Value.int .u64) (by rw [hea]; exact u64_nat (by omega))) ?_
  refine TL.know (t := 6) (v := .int .i64 ((e - a : Nat) : Int)) (congrArg (Value.int .i64) hea) ?_
  obtain ⟨L, hL⟩ : ∃ L, e - a = L := ⟨_, rfl⟩
  rw [hL] at hqt hq1 ⊢
  (apply TL.alloc; exact rfl; exact tb rfl; (exact m_lst))
  intro s
  refine m_run ?_
  refine TL.imp (Δ := row s [.int .u64 (L : Int)] 224 :: DD b c n d0 :: Γ) (fun _ h => h) ?_
  (apply TL.callV; exact rfl; exact callB_of (by kernel_rfl); exact rfl; exact fun _ h => h)
  exact npow_t L (by omega) (by omega) _
  rintro _ _ ⟨M, hM1, hM2, rfl, rfl⟩
  refine m_run ?_
  refine TK.know (t := 9) (v := .int .i64 ((a + q * 2 - 1 : Nat) : Int)) (congrArg (Value.int .i64) (by rw [hqt, i64_in (x := (q : Int) * 2) (by omega) (by omega), i64_in (x := (a : Int) + (q : Int) * 2) (by omega) (by omega), i64_in (by omega) (by omega)]; omega)) ?_
  apply TK.iter (fun m ρ' Γ' => ∃ (x y : Nat) (d : Array Int), x + m = a + q * 2 + 3 ∧ a + q * 2 ≤ x + 1 ∧ y < 18446744073709551616 ∧ PermIn a e d0 d ∧ lk ρ' 0 = .slice (some ⟨b, 0, none⟩) n c ∧ lk ρ' 1 = .int .i64 (a : Int) ∧ lk ρ' 6 = .int .i64 (L : Int) ∧ lk ρ' 7 = .pointer (some ⟨s, 0, none⟩) ∧ lk ρ' 8 = .int .u64 (M : Int) ∧ lk ρ' 9 = .int .i64 (x : Int) ∧ Γ' = row s [.int .u64 (y : Int)] 224 :: DD b c n d :: Γ) 4
  · exact ⟨a + q * 2 - 1, L, d0, by omega, by omega, by omega, permIn_refl _ _ _, rfl, rfl, rfl, rfl, rfl, rfl, rfl⟩
  rintro m IH ρ' _ ⟨x, y, d, hm, hx, hy, hP, e0, e1, e6, e7, e8, e9, rfl⟩
  refine TK.know6 e0 e1 e6 e7 e8 e9 ?_
  have hsz : d.size = n := hP.1.trans hsz0
  have hw : IntKind.i64.wrap (IntKind.i64.wrap ((a : Int) + IntKind.i64.wrap (IntKind.i64.wrap ((L : Int).tdiv 4) * 2)) + 1) = ((a + q * 2 + 1 : Nat) : Int) := by
    rw [hqt, i64_in (x := (q : Int) * 2) (by omega) (by omega), i64_in (x := (a : Int) + (q : Int) * 2) (by omega) (by omega), i64_in (by omega) (by omega)]; omega
  by_cases hx2 : x ≤ a + q * 2 + 1
  · refine m_run ?_
    (apply TL.callV; exact rfl; exact callB_of (by kernel_rfl); exact rfl; exact fun _ h => h)
    exact next_t s y _
    rintro _ _ ⟨z, hz, rfl, rfl⟩
    have hand : bitsOf .and .u64 (z : Int) ((M - 1 : Nat) : Int) = ((z &&& (M - 1) : Nat) : Int) := bits_and rfl hz (show M - 1 < 18446744073709551616 by omega)
    have hle : z &&& (M - 1) ≤ M - 1 := Nat.and_le_right
    have hM' : IntKind.u64.wrap ((M : Int) - 1) = ((M - 1 : Nat) : Int) := by rw [u64_in (by omega) (by omega)]; omega
    refine m_rrun ?_
    refine TL.know (t := 10) (v := .int .i64 ((z &&& (M - 1) : Nat) : Int)) (congrArg (Value.int .i64) (by rw [hM', hand]; exact i64_nat (by omega))) ?_
    generalize z &&& (M - 1) = o at *
    refine TL.nil ?_
    (repeat (first | refine TK.seq ?_ | refine TK.skip ?_))
    refine TK.region ?_
    refine m_rrun ?_
    refine TL.nil ?_
    (repeat (first | refine TK.seq ?_ | refine TK.skip ?_))
    apply TK.cut (fun ρ' Γ' => ∃ p : Nat, p < L ∧ lk ρ' 0 = .slice (some ⟨b, 0, none⟩) n c ∧ lk ρ' 1 = .int .i64 (a : Int) ∧ lk ρ' 6 = .int .i64 (L : Int) ∧ lk ρ' 7 = .pointer (some ⟨s, 0, none⟩) ∧ lk ρ' 8 = .int .u64 (M : Int) ∧ lk ρ' 9 = .int .i64 (x : Int) ∧ lk ρ' 10 = .int .i64 (p : Int) ∧ Γ' = row s [.int .u64 (z : Int)] 224 :: DD b c n d :: Γ)
    · intro k' hk'
      by_cases ho : L ≤ o
      · refine m_run ?_
        exact hk' _ _ ⟨o - L, by omega, rfl, rfl, rfl, rfl, rfl, rfl, congrArg (Value.int .i64) (by rw [i64_in (by omega) (by omega)]; omega), rfl⟩
      · refine m_run ?_
        exact hk' _ _ ⟨o, by omega, rfl, rfl, rfl, rfl, rfl, rfl, rfl, rfl⟩
    rintro ρ' _ ⟨p, hp, e0, e1, e6, e7, e8, e9, e10, rfl⟩
    refine TK.know7 e0 e1 e6 e7 e8 e9 e10 ?_
    refine TK.perm (List.Perm.swap _ _ _) ?_
    refine m_run ?_
    have hcI := cellD (b := b) (c := c) (Γ := row s [.int .u64 (z : Int)] 224 :: Γ) hsz (show x < n by omega)
    have hcK := cellD (b := b) (c := c) (Γ := row s [.int .u64 (z : Int)] 224 :: Γ) hsz (show a + p < n by omega)
    refine TK.drawB mixed rfl 17 (DD b c n d :: row s [.int .u64 (z : Int)] 224 :: Γ) (row s [.int .u64 (z : Int)] 224 :: Γ) ?_
    refine m_bake (At.mk : At 0) ?_; refine m_bake (At.mk : At 1) ?_; refine m_bake (At.mk : At 2) ?_; refine m_bake (At.mk : At 3) ?_; refine m_bake (At.mk : At 4) ?_; refine m_bake (At.mk : At 5) ?_
    refine TB.know (t := 52) (v := .int .i64 ((a + p : Nat) : Int)) (congrArg (Value.int .i64) (by rw [i64_in (by omega) (by omega)]; omega)) ?_
    refine m_bake (At.mk : At 6) ?_; refine m_bake (At.mk : At 7) ?_; refine m_bake (At.mk : At 8) ?_; refine m_bake (At.mk : At 9) ?_
    refine TB.know (t := 56) (v := .int .i64 ((a + p : Nat) : Int)) (congrArg (Value.int .i64) (by rw [i64_in (by omega) (by omega)]; omega)) ?_
    refine m_bake (At.mk : At 10) ?_; refine m_bake (At.mk : At 11) ?_; refine m_bake (At.mk : At 12) ?_; refine m_bake (At.mk : At 13) ?_; refine m_bake (At.mk : At 14) ?_; refine m_bake (At.mk : At 15) ?_; refine m_bake (At.mk : At 16) ?_
    (apply TB.last; kernel_rfl; exact rfl)
    (apply TL.storeOwn 0 (x); exact rfl; exact rfl; exact rfl; exact rfl; exact tb rfl; exact rfl; exact (Nat.zero_add _).symm; exact (by omega))
    refine TL.back (by (focus ((repeat (first | assumption | exact Ent.refl _ | apply Ent.tail)); done))) ?_
    refine m_take (At.mk : At 18) ?_
    (apply TA.one 19; kernel_rfl; exact rfl)
    (apply TL.storeOwn 0 (a + p); exact rfl; exact rfl; exact rfl; exact rfl; exact tb rfl; exact rfl; exact (Nat.zero_add _).symm; exact (by omega))
    refine TL.back (by (focus ((repeat (first | assumption | exact Ent.refl _ | apply Ent.tail)); done))) ?_
    refine TA.done (by kernel_rfl) ?_
    refine TK.imp (Δ := DD b c n (swp d (x) (a + p)) :: row s [.int .u64 (z : Int)] 224 :: Γ) (fun _ h => by show all (own _ _ _ _ (nums _ (swp d (x) (a + p)).toList) :: _) _; rw [← swpD]; exact h) ?_
    have hsz : (swp d (x) (a + p)).size = n := (size_swp _ _ _).trans hsz
    clear hcI hcK
    refine TK.perm (List.Perm.swap _ _ _) ?_
    refine m_run ?_
    exact IH (m - 1) _ _ (by omega) ⟨x + 1, z, _, by omega, by omega, hz, permIn_trans _ _ _ _ _ hP (swp_permIn _ _ _ _ _ (by omega) (by omega) (by omega) (by omega) (by rw [hP.1]; omega)), rfl, rfl, rfl, rfl, rfl, congrArg (Value.int .i64) (i64_succ x (by omega)), rfl⟩
  · refine m_run ?_
    refine TK.sub (Δ := DD b c n d :: Γ) (by (repeat (first | exact List.Sublist.refl _ | apply List.Sublist.cons_cons | apply List.Sublist.cons))) ?_
    exact TK.over0 rfl rfl ⟨_, rfl, rfl, d, hP, rfl⟩

set_option maxRecDepth 100000 in
set_option maxHeartbeats 4000000 in
theorem pdq_t (b c n : Nat) (Γ : List HP) (hn : n ≤ 1000000000) : ∀ (N a e : Nat) (z : Int) (d : Array Int), e - a = N → d.size = n → a ≤ e → e ≤ n → Below ltInt a e d →
    FnV Tryz.prog 130 [.slice (some ⟨b, 0, none⟩) n c, .int .i64 (a : Int), .int .i64 (e : Int), .int .i64 z] (DD b c n d :: Γ) fun v Γ' => v = .tuple #[] ∧ ∃ d', PermIn a e d d' ∧ SortedIn ltInt a e d' ∧ Γ' = DD b c n d' :: Γ := by
  intro N
  induction N using Nat.strongRecOn with
  | _ N IHN =>
  intro a0 e0 z0 d0 hN hsz0 hae0 he0 hB0
  refine Fn.enter Tryz.func130 rfl rfl rfl fun E => ?_
  refine m_run ?_
  apply TK.iter (fun m ρ' Γ' => ∃ (a e : Nat) (z : Int) (d : Array Int) (wb wp : Bool), e - a ≤ m ∧ a0 ≤ a ∧ a ≤ e ∧ e ≤ e0 ∧ d.size = n ∧ Below ltInt a e d ∧ (∀ R, PermIn a e d R → SortedIn ltInt a e R → PermIn a0 e0 d0 R ∧ SortedIn ltInt a0 e0 R) ∧ lk ρ' 0 = .slice (some ⟨b, 0, none⟩) n c ∧ lk ρ' 1 = .int .i64 (a : Int) ∧ lk ρ' 2 = .int .i64 (e : Int) ∧ lk ρ' 3 = .int .i64 z ∧ lk ρ' 8 = .bool wb ∧ lk ρ' 9 = .bool wp ∧ Γ' = DD b c n d :: Γ) (e0 - a0)
  · exact ⟨a0, e0, z0, d0, true, true, Nat.le_refl _, Nat.le_refl _, hae0, Nat.le_refl _, hsz0, hB0, fun R h1 h2 => ⟨h1, h2⟩, rfl, rfl, rfl, rfl, rfl, rfl, rfl⟩
  rintro m IH ρ' _ ⟨a, e, z, d, wb, wp, hm, ha0, hae, hee, hsz, hB, hfin, e0_, e1, e2, e3, e8, e9, rfl⟩
  refine TK.know6 e0_ e1 e2 e3 e8 e9 ?_
  have hea : IntKind.i64.wrap ((e : Int) - (a : Int)) = ((e - a : Nat) : Int) := by rw [i64_in (by omega) (by omega)]; omega
  by_cases h12 : e - a ≤ 12
  · refine m_run ?_
    (apply TL.callV; exact rfl; exact callB_of (by kernel_rfl); exact rfl; exact fun _ h => h)
    exact ins_t b c n a e d Γ hsz (by omega) (by omega) hn
    rintro _ _ ⟨rfl, rfl⟩
    obtain ⟨q1, q2⟩ := insertionSort_holds swo_ltInt d a e hae (by omega)
    obtain ⟨r1, r2⟩ := hfin _ q1 q2
    refine m_run ?_
    (apply TK.ret0; exact rfl; exact rfl)
    exact ⟨_, rfl, rfl, _, r1, r2, rfl⟩
  by_cases hz : z = 0
  · refine m_run ?_
    (apply TL.callV; exact rfl; exact callB_of (by kernel_rfl); exact rfl; exact fun _ h => h)
    exact heap_t b c n a e d Γ hsz (by omega) (by omega) hn
    rintro _ _ ⟨rfl, rfl⟩
    obtain ⟨q1, q2⟩ := heapSort_holds swo_ltInt d a e hae (by omega)
    obtain ⟨r1, r2⟩ := hfin _ q1 q2
    refine m_run ?_
    (apply TK.ret0; exact rfl; exact rfl)
    exact ⟨_, rfl, rfl, _, r1, r2, rfl⟩
  (repeat (first | refine TK.seq ?_ | refine TK.skip ?_))
  refine TK.block ?_
  (repeat (first | refine TK.seq ?_ | refine TK.skip ?_))
  refine TK.region ?_
  refine m_rrun ?_
  refine TL.nil ?_
  (repeat (first | refine TK.seq ?_ | refine TK.skip ?_))
  refine TK.know (t := 10) (v := .int .i64 ((e - a : Nat) : Int)) (congrArg (Value.int .i64) hea) ?_
  (repeat (first | refine TK.seq ?_ | refine TK.skip ?_))
  refine TK.region ?_
  refine m_rrun ?_
  refine TL.nil ?_
  (repeat (first | refine TK.seq ?_ | refine TK.skip ?_))
  refine TK.condF rfl (decide_eq_false (by omega)) ?_
  (repeat (first | refine TK.seq ?_ | refine TK.skip ?_))
  refine TK.region ?_
  refine m_rrun ?_
  refine TL.nil ?_
  (repeat (first | refine TK.seq ?_ | refine TK.skip ?_))
  refine TK.condF rfl (beq_eq_false_iff_ne.2 hz) ?_
  (repeat (first | refine TK.seq ?_ | refine TK.skip ?_))
  refine TK.region ?_
  refine m_rrun ?_
  refine TL.nil ?_
  (repeat (first | refine TK.seq ?_ | refine TK.skip ?_))
  apply TK.cut (fun ρ' Γ' => ∃ (z : Int) (d1 : Array Int), PermIn a e d d1 ∧ lk ρ' 0 = .slice (some ⟨b, 0, none⟩) n c ∧ lk ρ' 1 = .int .i64 (a : Int) ∧ lk ρ' 2 = .int .i64 (e : Int) ∧ lk ρ' 8 = .bool wb ∧ lk ρ' 9 = .bool wp ∧ lk ρ' 10 = .int .i64 ((e - a : Nat) : Int) ∧ lk ρ' 3 = .int .i64 z ∧ Γ' = DD b c n d1 :: Γ)
  · intro k' hk'
    cases wb with
    | true =>
      refine m_run ?_
      exact hk' _ _ ⟨z, d, permIn_refl _ _ _, rfl, rfl, rfl, rfl, rfl, rfl, rfl, rfl⟩
    | false =>
      refine m_run ?_
      (apply TL.callV; exact rfl; exact callB_of (by kernel_rfl); exact rfl; exact fun _ h => h)
      exact brk_t b c n a e d Γ hsz (by omega) (by omega) hn
      rintro _ _ ⟨rfl, d1, hP, rfl⟩
      refine m_run ?_
      exact hk' _ _ ⟨_, d1, hP, rfl, rfl, rfl, rfl, rfl, rfl, rfl, rfl⟩
  rintro ρ' _ ⟨z, d1, hP1, e0_, e1, e2, e8, e9, e10, e3, rfl⟩
  refine TK.know7 e0_ e1 e2 e8 e9 e10 e3 ?_
  have hsz1 : d1.size = n := hP1.1.trans hsz
  (repeat (first | refine TK.seq ?_ | refine TK.skip ?_))
  refine TK.region ?_
  refine m_rrun ?_
  (apply TL.callV; exact rfl; exact callB_of (by kernel_rfl); exact rfl; exact fun _ h => h)
  exact pivot_t b c n a e d1 Γ hsz1 (by omega) (by omega) hn
  rintro _ _ ⟨x, h, hx1, hx2, hh, rfl, rfl⟩
  refine m_rrun ?_
  refine TL.nil ?_
  (repeat (first | refine TK.seq ?_ | refine TK.skip ?_))
  refine TK.region ?_
  refine m_rrun ?_
  refine TL.nil ?_
  (repeat (first | refine TK.seq ?_ | refine TK.skip ?_))
  apply TK.cut (fun ρ' Γ' => ∃ (x : Nat) (h : Int) (d2 : Array Int), PermIn a e d1 d2 ∧ a ≤ x ∧ x < e ∧ lk ρ' 0 = .slice (some ⟨b, 0, none⟩) n c ∧ lk ρ' 1 = .int .i64 (a : Int) ∧ lk ρ' 2 = .int .i64 (e : Int) ∧ lk ρ' 8 = .bool wb ∧ lk ρ' 9 = .bool wp ∧ lk ρ' 10 = .int .i64 ((e - a : Nat) : Int) ∧ lk ρ' 3 = .int .i64 z ∧ lk ρ' 11 = .int .i64 (x : Int) ∧ lk ρ' 12 = .int .i64 h ∧ Γ' = DD b c n d2 :: Γ)
  · intro k' hk'
    by_cases hh2 : h = 2
    · refine m_run ?_
      (apply TL.callV; exact rfl; exact callB_of (by kernel_rfl); exact rfl; exact fun _ h => h)
      exact rev_t b c n a e d1 Γ hsz1 (by omega) (by omega) hn
      rintro _ _ ⟨rfl, rfl⟩
      have hP2 := reverseRange_holds d1 a e hae (by omega)
      refine m_run ?_
      exact hk' _ _ ⟨(e - 1) - (x - a), 1, _, hP2, by omega, by omega, rfl, rfl, rfl, rfl, rfl, rfl, rfl, congrArg (Value.int .i64) (by rw [i64_in (x := (e : Int) - 1) (by omega) (by omega), i64_in (x := (x : Int) - (a : Int)) (by omega) (by omega), i64_in (by omega) (by omega)]; omega), rfl, rfl⟩
    · refine m_run ?_
      exact hk' _ _ ⟨x, h, d1, permIn_refl _ _ _, hx1, hx2, rfl, rfl, rfl, rfl, rfl, rfl, rfl, rfl, rfl, rfl⟩
  clear hx1 hx2 hh
  rintro ρ' _ ⟨x, h, d2, hP2, hx1, hx2, e0_, e1, e2, e8, e9, e10, e3, e11, e12, rfl⟩
  refine TK.know9 e0_ e1 e2 e8 e9 e10 e3 e11 e12 ?_
  have hsz2 : d2.size = n := hP2.1.trans hsz1
  (repeat (first | refine TK.seq ?_ | refine TK.skip ?_))
  apply TK.cut (fun ρ' Γ' => ∃ (t : Bool), lk ρ' 0 = .slice (some ⟨b, 0, none⟩) n c ∧ lk ρ' 1 = .int .i64 (a : Int) ∧ lk ρ' 2 = .int .i64 (e : Int) ∧ lk ρ' 8 = .bool wb ∧ lk ρ' 9 = .bool wp ∧ lk ρ' 10 = .int .i64 ((e - a : Nat) : Int) ∧ lk ρ' 3 = .int .i64 z ∧ lk ρ' 11 = .int .i64 (x : Int) ∧ lk ρ' 68 = .bool t ∧ Γ' = DD b c n d2 :: Γ)
  · intro k' hk'
    cases wb <;> cases wp <;> (by_cases h1 : h = 1) <;> (refine m_run ?_; exact hk' _ _ ⟨_, rfl, rfl, rfl, rfl, rfl, rfl, rfl, rfl, rfl, rfl⟩)
  rintro ρ' _ ⟨t, e0_, e1, e2, e8, e9, e10, e3, e11, e68, rfl⟩
  refine TK.know9 e0_ e1 e2 e8 e9 e10 e3 e11 e68 ?_
  (repeat (first | refine TK.seq ?_ | refine TK.skip ?_))
  have hB2 : Below ltInt a e d2 := (hB.perm (by omega) hP1).perm (by omega) hP2
  apply TK.cut (fun ρ' Γ' => ∃ (d3 : Array Int), PermIn a e d2 d3 ∧ lk ρ' 0 = .slice (some ⟨b, 0, none⟩) n c ∧ lk ρ' 1 = .int .i64 (a : Int) ∧ lk ρ' 2 = .int .i64 (e : Int) ∧ lk ρ' 8 = .bool wb ∧ lk ρ' 9 = .bool wp ∧ lk ρ' 10 = .int .i64 ((e - a : Nat) : Int) ∧ lk ρ' 3 = .int .i64 z ∧ lk ρ' 11 = .int .i64 (x : Int) ∧ Γ' = DD b c n d3 :: Γ)
  · intro k' hk'
    cases t with
    | false =>
      refine m_run ?_
      exact hk' _ _ ⟨d2, permIn_refl _ _ _, rfl, rfl, rfl, rfl, rfl, rfl, rfl, rfl, rfl⟩
    | true =>
      refine m_run ?_
      (apply TL.callV; exact rfl; exact callB_of (by kernel_rfl); exact rfl; exact fun _ h => h)
      exact partial_t b c n a e d2 Γ hsz2 (by omega) (by omega) hn
      rintro _ _ ⟨rfl, rfl⟩
      obtain ⟨q1, q2⟩ := partialInsertionSort_holds swo_ltInt d2 a e (by omega) (by omega) hB2
      generalize partialInsertionSort ltInt d2 a e = r at *
      obtain ⟨d3, t⟩ := r
      cases t with
      | true =>
        obtain ⟨r1, r2⟩ := hfin _ (permIn_trans _ _ _ _ _ (permIn_trans _ _ _ _ _ hP1 hP2) q1) (q2 rfl)
        refine m_run ?_
        (apply TK.ret0; exact rfl; exact rfl)
        exact ⟨_, rfl, rfl, _, r1, r2, rfl⟩
      | false =>
        refine m_run ?_
        exact hk' _ _ ⟨d3, q1, rfl, rfl, rfl, rfl, rfl, rfl, rfl, rfl, rfl⟩
  rintro ρ' _ ⟨d3, hP3, e0_, e1, e2, e8, e9, e10, e3, e11, rfl⟩
  refine TK.know8 e0_ e1 e2 e8 e9 e10 e3 e11 ?_
  have hsz3 : d3.size = n := hP3.1.trans hsz2
  have hP : PermIn a e d d3 := permIn_trans _ _ _ _ _ (permIn_trans _ _ _ _ _ hP1 hP2) hP3
  have hB3 : Below ltInt a e d3 := hB2.perm (by omega) hP3
  clear hB2 hB hP1 hP2 hP3
  (repeat (first | refine TK.seq ?_ | refine TK.skip ?_))
  by_cases heq : 0 < a ∧ ¬ d3[a - 1]! < d3[x]!
  · obtain ⟨h0, hnl⟩ := heq
    have hc1 := cellD (b := b) (c := c) (Γ := Γ) hsz3 (show a - 1 < n by omega)
    have hc2 := cellD (b := b) (c := c) (Γ := Γ) hsz3 (show x < n by omega)
    refine TK.drawS mixed rfl ?_
    refine m_take (At.mk : At 0) ?_; refine m_take (At.mk : At 1) ?_
    refine TA.isT 74 rfl (decide_eq_true (by omega)) ?_
    refine m_take (At.mk : At 2) ?_; refine m_take (At.mk : At 3) ?_; refine m_take (At.mk : At 4) ?_; refine m_take (At.mk : At 5) ?_
    refine TA.know (t := 78) (v := .int .i64 ((a - 1 : Nat) : Int)) (congrArg (Value.int .i64) (by rw [i64_in (by omega) (by omega)]; omega)) ?_
    refine m_take (At.mk : At 6) ?_; refine m_take (At.mk : At 7) ?_; refine m_take (At.mk : At 8) ?_; refine m_take (At.mk : At 9) ?_; refine m_take (At.mk : At 10) ?_; refine m_take (At.mk : At 11) ?_
    (apply TA.one 12; kernel_rfl; exact rfl)
    refine m_rrun ?_
    (apply TL.callV; exact rfl; exact callB_of (by kernel_rfl); exact rfl; exact fun _ h => h)
    exact less_t _ _ _
    rintro _ _ ⟨rfl, rfl⟩
    refine TL.back (by (focus ((repeat (first | assumption | exact Ent.refl _ | apply Ent.tail)); done))) ?_
    refine m_take (At.mk : At 13) ?_; refine m_take (At.mk : At 14) ?_
    refine TA.isT 87 rfl (not_t (decide_eq_false hnl)) ?_
    refine TA.done (by kernel_rfl) ?_
    clear hc1 hc2
    refine m_run ?_
    (apply TL.callV; exact rfl; exact callB_of (by kernel_rfl); exact rfl; exact fun _ h => h)
    exact partEq_t b c n a e x d3 Γ hsz3 hx1 hx2 (by omega) hn
    rintro _ _ ⟨rfl, rfl⟩
    obtain ⟨mid, d4, hx⟩ : ∃ mid d4, partitionEqual ltInt d3 a e x = (mid, d4) := ⟨_, _, rfl⟩
    rw [show (partitionEqual ltInt d3 a e x).1 = mid by rw [hx], show (partitionEqual ltInt d3 a e x).2 = d4 by rw [hx]]
    obtain ⟨g1, g2, g3, g4, g5⟩ := round_eq swo_ltInt (partitionEqual_holds ltInt) h0 hx1 hx2 (by omega) hB3 (decide_eq_false hnl) hx
    refine m_run ?_
    exact IH (m - 1) _ _ (by omega) ⟨mid, e, z, d4, wb, wp, by omega, by omega, g2, hee, g3.trans hsz3, g4, fun R r1 r2 => by
      obtain ⟨q1, q2⟩ := g5 R r1 r2
      exact hfin R (permIn_trans _ _ _ _ _ hP q1) q2, rfl, rfl, rfl, rfl, rfl, rfl, rfl⟩
  apply TK.cut (fun ρ' Γ' => lk ρ' 0 = .slice (some ⟨b, 0, none⟩) n c ∧ lk ρ' 1 = .int .i64 (a : Int) ∧ lk ρ' 2 = .int .i64 (e : Int) ∧ lk ρ' 8 = .bool wb ∧ lk ρ' 9 = .bool wp ∧ lk ρ' 10 = .int .i64 ((e - a : Nat) : Int) ∧ lk ρ' 3 = .int .i64 z ∧ lk ρ' 11 = .int .i64 (x : Int) ∧ lk ρ' 87 = .bool false ∧ Γ' = DD b c n d3 :: Γ)
  · intro k' hk'
    by_cases h0 : 0 < a
    · have hlt : d3[a - 1]! < d3[x]! := Decidable.byContradiction fun h => heq ⟨h0, h⟩
      have hc1 := cellD (b := b) (c := c) (Γ := Γ) hsz3 (show a - 1 < n by omega)
      have hc2 := cellD (b := b) (c := c) (Γ := Γ) hsz3 (show x < n by omega)
      refine TK.drawS mixed rfl ?_
      refine m_take (At.mk : At 0) ?_; refine m_take (At.mk : At 1) ?_
      refine TA.isT 74 rfl (decide_eq_true (by omega)) ?_
      refine m_take (At.mk : At 2) ?_; refine m_take (At.mk : At 3) ?_; refine m_take (At.mk : At 4) ?_; refine m_take (At.mk : At 5) ?_
      refine TA.know (t := 78) (v := .int .i64 ((a - 1 : Nat) : Int)) (congrArg (Value.int .i64) (by rw [i64_in (by omega) (by omega)]; omega)) ?_
      refine m_take (At.mk : At 6) ?_; refine m_take (At.mk : At 7) ?_; refine m_take (At.mk : At 8) ?_; refine m_take (At.mk : At 9) ?_; refine m_take (At.mk : At 10) ?_; refine m_take (At.mk : At 11) ?_
      (apply TA.one 12; kernel_rfl; exact rfl)
      refine m_rrun ?_
      (apply TL.callV; exact rfl; exact callB_of (by kernel_rfl); exact rfl; exact fun _ h => h)
      exact less_t _ _ _
      rintro _ _ ⟨rfl, rfl⟩
      refine TL.back (by (focus ((repeat (first | assumption | exact Ent.refl _ | apply Ent.tail)); done))) ?_
      refine m_take (At.mk : At 13) ?_; refine m_take (At.mk : At 14) ?_
      refine TA.isF 87 rfl (not_f (decide_eq_true hlt)) ?_
      refine TA.done (by kernel_rfl) ?_
      exact hk' _ _ ⟨rfl, rfl, rfl, rfl, rfl, rfl, rfl, rfl, rfl, rfl⟩
    · refine TK.drawS mixed rfl ?_
      refine m_take (At.mk : At 0) ?_; refine m_take (At.mk : At 1) ?_
      refine TA.isF 74 rfl (decide_eq_false (by omega)) ?_
      refine m_take (At.mk : At 2) ?_; refine m_take (At.mk : At 3) ?_; refine m_take (At.mk : At 4) ?_; refine m_take (At.mk : At 5) ?_; refine m_take (At.mk : At 6) ?_; refine m_take (At.mk : At 7) ?_; refine m_take (At.mk : At 8) ?_; refine m_take (At.mk : At 9) ?_; refine m_take (At.mk : At 10) ?_; refine m_take (At.mk : At 11) ?_; refine m_take (At.mk : At 12) ?_; refine m_take (At.mk : At 13) ?_; refine m_take (At.mk : At 14) ?_
      refine TA.done (by kernel_rfl) ?_
      exact hk' _ _ ⟨rfl, rfl, rfl, rfl, rfl, rfl, rfl, rfl, rfl, rfl⟩
  rintro ρ' _ ⟨e0_, e1, e2, e8, e9, e10, e3, e11, e87, rfl⟩
  refine TK.know9 e0_ e1 e2 e8 e9 e10 e3 e11 e87 ?_
  clear heq
  refine m_run ?_
  (apply TL.callV; exact rfl; exact callB_of (by kernel_rfl); exact rfl; exact fun _ h => h)
  exact part_t b c n a e x d3 Γ hsz3 hx1 hx2 (by omega) hn
  rintro _ _ ⟨rfl, rfl⟩
  obtain ⟨mid, ap, d4, hx⟩ : ∃ mid ap d4, Sort.partition ltInt d3 a e x = (mid, ap, d4) := ⟨_, _, _, rfl⟩
  rw [show (Sort.partition ltInt d3 a e x).1 = mid by rw [hx], show (Sort.partition ltInt d3 a e x).2.1 = ap by rw [hx], show (Sort.partition ltInt d3 a e x).2.2 = d4 by rw [hx]]
  obtain ⟨g1, g2, g3, gBl, gBr, gL, gR⟩ := round_part swo_ltInt (partition_holds ltInt) hx1 hx2 (by omega) hB3 hx
  have hsz4 : d4.size = n := g3.trans hsz3
  have hma : IntKind.i64.wrap ((mid : Int) - (a : Int)) = ((mid - a : Nat) : Int) := by rw [i64_in (by omega) (by omega)]; omega
  have hme : IntKind.i64.wrap ((e : Int) - (mid : Int)) = ((e - mid : Nat) : Int) := by rw [i64_in (by omega) (by omega)]; omega
  by_cases hlt : mid - a < e - mid
  · refine m_run ?_
    (apply TL.callV; exact rfl; exact callB_of (by kernel_rfl); exact rfl; exact fun _ h => h)
    exact IHN (mid - a) (by omega) a mid z d4 rfl hsz4 g1 (by omega) gBl
    rintro _ _ ⟨rfl, d5, p1, p2, rfl⟩
    obtain ⟨b5, f5⟩ := gL d5 p1 p2
    refine m_run ?_
    exact IH (m - 1) _ _ (by omega) ⟨mid + 1, e, z, d5, _, ap, by omega, by omega, by omega, hee, p1.1.trans hsz4, b5, fun R r1 r2 => by
      obtain ⟨q1, q2⟩ := f5 R r1 r2
      exact hfin R (permIn_trans _ _ _ _ _ hP q1) q2, rfl, congrArg (Value.int .i64) (i64_succ mid (by omega)), rfl, rfl, rfl, rfl, rfl⟩
  · refine m_run ?_
    refine TL.know (t := 129) (v := .int .i64 ((mid + 1 : Nat) : Int)) (congrArg (Value.int .i64) (i64_succ mid (by omega))) ?_
    (apply TL.callV; exact rfl; exact callB_of (by kernel_rfl); exact rfl; exact fun _ h => h)
    exact IHN (e - (mid + 1)) (by omega) (mid + 1) e z d4 rfl hsz4 (by omega) (by omega) gBr
    rintro _ _ ⟨rfl, d5, p1, p2, rfl⟩
    obtain ⟨b5, f5⟩ := gR d5 p1 p2
    refine m_run ?_
    exact IH (m - 1) _ _ (by omega) ⟨a, mid, z, d5, _, ap, by omega, by omega, g1, by omega, p1.1.trans hsz4, b5, fun R r1 r2 => by
      obtain ⟨q1, q2⟩ := f5 R r1 r2
      exact hfin R (permIn_trans _ _ _ _ _ hP q1) q2, rfl, rfl, rfl, rfl, rfl, rfl, rfl⟩

theorem perm_whole {d d' : Array Int} (h : PermIn 0 d.size d d') : d'.toList.Perm d.toList := by
  obtain ⟨h1, _, h3⟩ := h
  have e1 : d'.extract 0 d.size = d' := by rw [← h1]; simp
  have e2 : d.extract 0 d.size = d := by simp
  rw [e1, e2] at h3
  exact h3
theorem sorted_whole {d : Array Int} (h : SortedIn ltInt 0 d.size d) : d.toList.Pairwise (· ≤ ·) := by
  refine List.pairwise_iff_getElem.2 fun i j hi hj hij => ?_
  simp only [Array.length_toList] at hi hj
  have := h i j (Nat.zero_le _) hij hj
  unfold ltInt at this
  have h2 := of_decide_eq_false this
  rw [getElem!_pos d i hi, getElem!_pos d j hj] at h2
  simp only [Array.getElem_toList]
  omega
set_option maxRecDepth 100000 in
set_option maxHeartbeats 4000000 in
theorem ins0_t (A : Option Addr) (c : Nat) (Γ : List HP) : FnV Tryz.prog 160 [.slice A 0 c, .int .i64 0, .int .i64 0] Γ fun v Γ' => v = .tuple #[] ∧ Γ' = Γ := by
  refine Fn.enter Tryz.func160 rfl rfl rfl fun E => ?_
  refine m_run ?_
  refine TK.know (t := 6) (v := .int .i64 1) rfl ?_
  apply TK.iter (fun m ρ' Γ' => lk ρ' 2 = .int .i64 0 ∧ lk ρ' 6 = .int .i64 1 ∧ Γ' = Γ) 0
  · exact ⟨rfl, rfl, rfl⟩
  rintro m IH ρ' _ ⟨e2, e6, rfl⟩
  refine TK.know2 e2 e6 ?_
  refine m_run ?_
  exact TK.over0 rfl rfl ⟨_, rfl, rfl, rfl⟩
set_option maxRecDepth 100000 in
set_option maxHeartbeats 4000000 in
theorem pdq0_t (A : Option Addr) (c : Nat) (z : Int) (Γ : List HP) : FnV Tryz.prog 130 [.slice A 0 c, .int .i64 0, .int .i64 0, .int .i64 z] Γ fun v Γ' => v = .tuple #[] ∧ Γ' = Γ := by
  refine Fn.enter Tryz.func130 rfl rfl rfl fun E => ?_
  refine m_run ?_
  apply TK.iter (fun m ρ' Γ' => lk ρ' 0 = .slice A 0 c ∧ lk ρ' 1 = .int .i64 0 ∧ lk ρ' 2 = .int .i64 0 ∧ Γ' = Γ) 0
  · exact ⟨rfl, rfl, rfl, rfl⟩
  rintro m IH ρ' _ ⟨e0, e1, e2, rfl⟩
  refine TK.know3 e0 e1 e2 ?_
  have hw : IntKind.i64.wrap ((0 : Int) - 0) = 0 := rfl
  refine m_run ?_
  (apply TL.callV; exact rfl; exact callB_of (by kernel_rfl); exact rfl; exact fun _ h => h)
  exact ins0_t A c _
  rintro _ _ ⟨rfl, rfl⟩
  refine m_run ?_
  (apply TK.ret0; exact rfl; exact rfl)
  exact ⟨_, rfl, rfl, rfl⟩
set_option maxRecDepth 100000 in
set_option maxHeartbeats 4000000 in
theorem sort_t (A : Option Addr) (c : Nat) (D : List Int) (Γ : List HP) (hn : D.length ≤ 1000000000) :
    FnV Tryz.prog 96 [.slice A D.length c] (own 3 1 (.slice A D.length c) D.length (nums .i64 D) :: Γ)
      fun v Γ' => v = .tuple #[] ∧ ∃ D', D'.Perm D ∧ D'.Pairwise (· ≤ ·) ∧ Γ' = own 3 1 (.slice A D.length c) D.length (nums .i64 D') :: Γ := by
  refine Fn.enter Tryz.func96 rfl rfl rfl fun E => ?_
  refine m_run ?_
  refine TL.know (t := 8) (v := .int .u64 (D.length : Int)) (congrArg (Value.int .u64) (u64_in (by omega) (by omega))) ?_
  (apply TL.callV; exact rfl; exact callB_of (by kernel_rfl); exact rfl; exact fun _ h => h)
  exact len_t D.length hn _
  rintro _ _ ⟨L, _, _, rfl, rfl⟩
  refine m_run ?_
  by_cases h0 : D.length = 0
  · rw [h0]
    (apply TL.callV; exact rfl; exact callB_of (by kernel_rfl); exact rfl; exact fun _ h => h)
    exact pdq0_t A c _ _
    rintro _ _ ⟨rfl, rfl⟩
    refine m_run ?_
    refine TK.over0 rfl rfl ⟨_, rfl, rfl, D, List.Perm.refl _, ?_, rfl⟩
    rw [List.eq_nil_of_length_eq_zero h0]
    exact List.Pairwise.nil
  refine TL.mem fun m0 hm0 => ?_
  obtain ⟨b, rfl⟩ : ∃ b, A = some ⟨b, 0, none⟩ := by
    obtain ⟨m1, m2, _, _, h1, _⟩ := hm0
    obtain ⟨_, ⟨_, h, _⟩ | ⟨g, cap, cur, hv, _⟩⟩ := h1
    · omega
    · injection hv with hv _ _
      exact ⟨g, hv⟩
  clear hm0 m0
  (apply TL.callV (Δ := DD b c D.length D.toArray :: Γ); exact rfl; exact callB_of (by kernel_rfl); exact rfl; exact fun _ h => h)
  exact pdq_t b c D.length Γ hn D.length 0 D.length L D.toArray rfl rfl (Nat.zero_le _) (Nat.le_refl _) (.inl rfl)
  rintro _ _ ⟨rfl, d', h1, h2, rfl⟩
  refine m_run ?_
  refine TK.over0 rfl rfl ⟨_, rfl, rfl, d'.toList, perm_whole (d := D.toArray) h1, sorted_whole (by rw [show d'.size = D.length from h1.1]; exact h2), rfl⟩
end Go.Proofs.YthbcfamfaicneaaGreat.E.SI

/- Of, as the program tells it, walked. -/
namespace Go.Proofs.YthbcfamfaicneaaGreat.E
open Go Go.RowKit Go.Proofs
attribute [local irreducible] TK TL TQ TA TB Fn PV
namespace Rch
theorem flat_len {α β : Type} (f : α → List β) (k : Nat) : ∀ L : List α, (∀ x ∈ L, (f x).length ≤ k) → (L.flatMap f).length ≤ L.length * k
  | [], _ => by simp
  | x :: L, h => by
    rw [List.flatMap_cons, List.length_append, List.length_cons, Nat.add_mul]
    have h1 := h x (List.mem_cons_self ..)
    have h2 := flat_len f k L fun y hy => h y (List.mem_cons_of_mem _ hy)
    omega
theorem chs_len (K : List Nat) (nx : Sp → Nat → Option Sp) (s0 : Sp) : ∀ n, (chs K nx s0 n).length ≤ K.length ^ n
  | 0 => Nat.le_refl _
  | n + 1 => by
    rw [Nat.pow_succ]
    exact Nat.le_trans (flat_len _ K.length _ fun x _ => List.length_filterMap_le _ _) (Nat.mul_le_mul_right _ (chs_len K nx s0 n))
theorem fresh_len : ∀ (L : List Stp) (S : List Sp), (fresh S L).length ≤ L.length
  | [], _ => Nat.le_refl _
  | s :: L, S => by
    rw [fresh]
    split
    · exact Nat.le_succ_of_le (fresh_len L S)
    · exact Nat.succ_le_succ (fresh_len L _)
theorem allC_len (K : List Nat) (nx : Sp → Nat → Option Sp) (s0 : Sp) (h : K.length ≤ 50) : (allC K nx s0 4).length ≤ 200000 := by
  rw [allC_succ, allC_succ, allC_succ, allC_succ]
  simp only [List.length_append]
  have h1 := chs_len K nx s0
  have p1 := Nat.pow_le_pow_left h 1
  have p2 := Nat.pow_le_pow_left h 2
  have p3 := Nat.pow_le_pow_left h 3
  have c0 := h1 0
  have c1 := h1 1
  have c2 := h1 2
  have c3 := h1 3
  have h0 : (allC K nx s0 0).length = 0 := rfl
  have e0 : K.length ^ 0 = 1 := rfl
  have e1 : 50 ^ 1 = 50 := rfl
  have e2 : 50 ^ 2 = 2500 := rfl
  have e3 : 50 ^ 3 = 125000 := rfl
  omega
end Rch
theorem compL_up : ∀ {D : List Nat}, D.Pairwise (· ≤ ·) → (compL D).Pairwise (· < ·)
  | [], _ => List.Pairwise.nil
  | [x], _ => List.pairwise_singleton _ _
  | x :: y :: l, h => by
    have h1 : compL (x :: y :: l) = if x = y then compL (y :: l) else x :: compL (y :: l) := rfl
    obtain ⟨h2, h3⟩ := List.pairwise_cons.1 h
    have ih := compL_up h3
    rw [h1]
    split
    · exact ih
    · rename_i hne
      refine List.pairwise_cons.2 ⟨fun z hz => ?_, ih⟩
      have hz' := (compL_mem _ _).1 hz
      have hy := h2 y (List.mem_cons_self ..)
      rcases List.mem_cons.1 hz' with rfl | hz'
      · omega
      · have := (List.pairwise_cons.1 h3).1 z hz'
        omega
theorem all_free {H : HP} {Γ : List HP} {m : Mem} (hH : ∀ m, emp m → H m) (h : all Γ m) : all (H :: Γ) m := sep_mono (sep_comm (sep_emp h)) hH (fun _ => id)
/-- Who is reached: told once, in order. -/
def OfSpec (l : List Cr) (who p : Nat) (args : Int) (O : List Nat) : Prop := O.Pairwise (· < ·) ∧ ∀ v, v ∈ O ↔ (predS p args true 0).2 = true ∧ ∃ s ∈ Rch.allC (linksOf l p args) (nxL l) (who, 3) 4, s.1.1 = v
theorem unskip_no (K : List Nat) : unskip K (-1) = K := by
  unfold unskip
  exact List.filter_eq_self.2 fun i _ => by simp
def TOf (b : Nat) (L : List Wy) : HP := fun m => ∃ p : Option Addr × Nat, sep (own 23 1 (.slice p.1 (L.map Wy.pos).length p.2) (L.map Wy.pos).length (u32s (L.map Wy.pos))) (row b [.slice p.1 (L.map Wy.pos).length p.2] 38) m
set_option maxRecDepth 100000 in
theorem ofc_t (b : Nat) (L : List Wy) (s : Wy) (Γ : List HP) (hl : L.length ≤ 10000000000) :
    FnV Tryz.prog 56 [.agg (spotL (s.pos, s.left)).toArray, .slice s.A s.w.length s.c, .pointer (some ⟨b, 0, none⟩)] (TOf b L :: Γ) fun v Γ' => v = .tuple #[] ∧ Γ' = TOf b (L ++ [s]) :: Γ := by
  show Fn _ _ _ _ _
  refine Fn.ex fun p => ?_
  obtain ⟨A, c⟩ := p
  refine Fn.imp (Δ := own 23 1 (.slice A (L.map Wy.pos).length c) (L.map Wy.pos).length (u32s (L.map Wy.pos)) :: row b [.slice A (L.map Wy.pos).length c] 38 :: Γ) ?_ (fun m hm => sep_assoc hm)
  have hlm : (L.map Wy.pos).length = L.length := List.length_map _
  have hsn : (L ++ [s]).map Wy.pos = L.map Wy.pos ++ [s.pos] := by simp
  unfold TOf
  rw [hsn]
  generalize L.map Wy.pos = D at *
  refine Fn.enter Tryz.func56 rfl rfl rfl fun E => ?_
  refine m_run ?_
  (apply TL.box; exact rfl; exact rfl; (exact m_lst))
  intro b3
  refine TL.imp (Δ := row b3 [.int .u32 (s.pos : Int), .int .i64 (s.left : Int)] 102 :: own 23 1 (.slice A D.length c) D.length (u32s D) :: row b [.slice A D.length c] 38 :: Γ) (fun _ h => h) ?_
  refine m_run ?_
  (apply TL.buildSlice (l := u32s [s.pos]); exact rfl; exact tb rfl; exact rfl; exact tb rfl; exact rfl; exact rfl; exact rfl; exact rfl; exact rfl)
  intro b8
  refine m_run ?_
  (apply TL.append 2; exact rfl; exact rfl; exact tb rfl; exact rfl; exact tb rfl; exact rfl; exact rfl; exact rfl)
  · exact fun _ h => h
  · exact rfl
  · exact has_src_row 0 rfl rfl
  · exact u32s_one [s.pos]
  · show (D.length + 1) * 4 ≤ _; omega
  · show D.length + 1 ≤ maxLen; unfold maxLen; omega
  · exact fun _ => (rfl : _ = _ :: _ :: _ :: _)
  intro A2 c2 hc2
  rw [show u32s D ++ u32s [s.pos] = u32s (D ++ [s.pos]) by simp [u32s], show D.length + 1 = (D ++ [s.pos]).length by simp]
  refine m_run ?_
  refine TK.sub (Δ := own 23 1 (.slice A2 (D ++ [s.pos]).length c2) (D ++ [s.pos]).length (u32s (D ++ [s.pos])) :: row b [.slice A2 (D ++ [s.pos]).length c2] 38 :: Γ) (by (repeat (first | exact List.Sublist.refl _ | apply List.Sublist.cons_cons | apply List.Sublist.cons))) ?_
  refine TK.imp (Δ := (fun m => ∃ p : Option Addr × Nat, sep (own 23 1 (.slice p.1 (D ++ [s.pos]).length p.2) (D ++ [s.pos]).length (u32s (D ++ [s.pos]))) (row b [.slice p.1 (D ++ [s.pos]).length p.2] 38) m) :: Γ) (fun m hm => sep_mono (sep_assoc' hm) (fun q hq => ⟨(A2, c2), hq⟩) (fun _ => id)) ?_
  exact TK.over0 rfl rfl ⟨_, rfl, rfl, rfl⟩
set_option maxRecDepth 100000 in
set_option maxHeartbeats 4000000 in
theorem ofR_t (A : Option Addr) (c : Nat) (l : List Cr) (who p : Nat) (args : Int) (Γ : List HP) (h : Crs A l Γ) (hl : l.length ≤ 50) :
    FnV Tryz.prog 15 [.slice A l.length c, .int .u32 (who : Int), .int .u32 (p : Int), .int .i64 args] Γ fun v Γ' => ∃ (O : List Nat) (B : Option Addr) (k : Nat) (Γ2 : List HP), OfSpec l who p args O ∧ O.length ≤ 200000 ∧ Γ.Sublist Γ2 ∧ v = .slice B O.length k ∧ Γ' = own 23 1 (.slice B O.length k) O.length (u32s O) :: Γ2 := by
  refine Fn.enter Tryz.func15 rfl rfl rfl fun E => ?_
  refine m_run ?_
  (apply TL.alloc; exact rfl; exact tb rfl; exact (rfl : _ = [_]))
  intro b9
  refine m_run ?_
  (apply TL.callV; exact rfl; exact callB_of (by kernel_rfl); exact rfl; exact fun _ h => h)
  exact of_t A c l p args _ (Crs.tl h)
  rintro _ _ ⟨B, k, hk, rfl, rfl⟩
  refine m_run ?_
  (apply TL.pv; exact rfl; (apply PV.makeFunc; exact rfl; exact rfl))
  refine m_run ?_
  have hKl : (linksOf l p args).length ≤ 50 := Nat.le_trans (linksOf_len l p args) hl
  have hKd : ∀ i ∈ linksOf l p args, ∃ x, l[i]? = some x ∧ 0 ≤ x.dep ∧ x.dep ≤ 3 := fun i hi => by
    obtain ⟨x, hx, hb⟩ := linksOf_mem.1 hi
    exact ⟨x, hx, linkB_dep hb⟩
  (apply TL.callV (Δ := TOf b9 [] :: own 3 1 (.slice B (linksOf l p args).length k) (linksOf l p args).length (ints (linksOf l p args)) :: Γ); exact rfl; exact callB_of (by kernel_rfl); exact rfl; exact fun m hm => sep_mono (sep_assoc' (all_free (fun _ h => own_nil 23 1 h) (all_perm (.swap _ _ _) hm))) (fun q hq => ⟨(none, 0), hq⟩) (fun _ => id))
  exact rounds_t A B c k l (linksOf l p args) (predS p args true 0).2 who (-1) 56 [.pointer (some ⟨b9, 0, none⟩)] (TOf b9) (own 3 1 (.slice B (linksOf l p args).length k) (linksOf l p args).length (ints (linksOf l p args)) :: Γ) (Crs.tl h) (has_at (up_src _ _ _ _) 0 rfl fun _ h => own_src h) (by omega) hKd (callB_of (by kernel_rfl)) (fun L s Γ' hL _ _ => ofc_t b9 L s Γ' hL)
  rintro _ _ ⟨rfl, L, Γ2, rfl, hsub, hok, hL⟩
  rw [unskip_no] at hL
  refine TL.nil ?_
  refine TK.ex fun q => ?_
  obtain ⟨A1, c1⟩ := q
  refine TK.imp (Δ := own 23 1 (.slice A1 (L.map Wy.pos).length c1) (L.map Wy.pos).length (u32s (L.map Wy.pos)) :: row b9 [.slice A1 (L.map Wy.pos).length c1] 38 :: Γ2) (fun m hm => sep_assoc hm) ?_
  have hpos : ∀ v, v ∈ L.map Wy.pos ↔ (predS p args true 0).2 = true ∧ ∃ s ∈ Rch.allC (linksOf l p args) (nxL l) (who, 3) 4, s.1.1 = v := fun v => by
    have h1 : L.map Wy.pos = (L.map pureY).map fun s => s.1.1 := by rw [List.map_map]; rfl
    rw [h1, hL]
    cases (predS p args true 0).2 with
    | false => simp
    | true =>
      rw [if_pos rfl]
      have h2 := Rch.fresh_mem (Rch.allC (linksOf l p args) (nxL l) (who, 3) 4) []
      simp only [List.nil_append, List.not_mem_nil, false_or, List.mem_map] at h2
      simp only [List.mem_map, true_and]
      constructor
      · rintro ⟨s, hs, rfl⟩
        obtain ⟨t, ht, hts⟩ := (h2 s.1).1 ⟨s, hs, rfl⟩
        exact ⟨t, ht, by rw [hts]⟩
      · rintro ⟨s, hs, rfl⟩
        obtain ⟨t, ht, hts⟩ := (h2 s.1).2 ⟨s, hs, rfl⟩
        exact ⟨t, ht, by rw [hts]⟩
  have hlenL : (L.map Wy.pos).length ≤ 200000 := by
    have h1 : (L.map Wy.pos).length = (L.map pureY).length := by simp
    rw [h1, hL]
    split
    · exact Nat.le_trans (Rch.fresh_len _ _) (Rch.allC_len _ _ _ hKl)
    · exact Nat.zero_le _
  generalize L.map Wy.pos = D at *
  refine m_run ?_
  (apply TL.callV (Δ := own 23 1 (.slice A1 D.length c1) D.length (u32s D) :: row b9 [.slice A1 D.length c1] 38 :: Γ2); exact rfl; exact callB_of (by kernel_rfl); exact rfl; exact fun _ h => h)
  exact SU.sortN_t A1 c1 D _ (by omega)
  rintro _ _ ⟨rfl, D2, hp2, hs2, rfl⟩
  have hlen2 := hp2.length_eq
  rw [← hlen2] at hlenL ⊢
  refine m_run ?_
  (apply TL.callV; exact rfl; exact callB_of (by kernel_rfl); exact rfl; exact fun _ h => h)
  exact compact_t A1 c1 D2 _ (by omega)
  rintro _ _ ⟨rfl, rfl⟩
  refine m_run ?_
  (apply TK.retS1; exact rfl; exact rfl; (exact m_val))
  refine ⟨_, rfl, compL D2, A1, c1, row b9 [.slice A1 D2.length c1] 38 :: Γ2, ⟨compL_up hs2, fun v => ?_⟩, Nat.le_trans (compL_len D2) hlenL, .cons _ ((List.sublist_cons_self _ _).trans hsub), rfl, rfl⟩
  · rw [compL_mem, hp2.mem_iff, hpos]
  · (repeat (first | exact List.Sublist.refl _ | apply List.Sublist.cons_cons | apply List.Sublist.cons))
end Go.Proofs.YthbcfamfaicneaaGreat.E

/- Chain and Cuts, as the program tells them, walked. -/
namespace Go.Proofs.YthbcfamfaicneaaGreat.E
open Go Go.RowKit Go.Proofs
attribute [local irreducible] TK TL TQ TA TB Fn PV
def fnd (L : List Wy) (x : Nat) : Option Wy := L.find? fun s => decide (s.pos = x)
def wayV : Option Wy → Value
  | none => .slice none 0 0
  | some s => .slice s.A s.w.length s.c
theorem wayV_one (f : Option Wy) : (wayV f).oneCell' = true := by cases f <;> rfl
def TCh (bx bi bw x : Nat) (L : List Wy) : HP := sep (row bx [.int .u32 (x : Int)] 23) (sep (row bi [.bool (fnd L x).isSome] 4) (row bw [wayV (fnd L x)] 51))
theorem all3 {H K M : HP} {Γ : List HP} {m : Mem} (h : all (sep H (sep K M) :: Γ) m) : all (H :: K :: M :: Γ) m := sep_mono (sep_assoc h) (fun _ => id) (fun _ h => sep_assoc h)
theorem all3' {H K M : HP} {Γ : List HP} {m : Mem} (h : all (H :: K :: M :: Γ) m) : all (sep H (sep K M) :: Γ) m := sep_assoc' (sep_mono h (fun _ => id) (fun _ h => sep_assoc' h))
theorem fnd_snoc (L : List Wy) (s : Wy) (x : Nat) : fnd (L ++ [s]) x = if (fnd L x).isSome then fnd L x else if s.pos = x then some s else none := by
  unfold fnd
  rw [List.find?_append]
  cases L.find? fun s => decide (s.pos = x) with
  | some y => rfl
  | none =>
    by_cases hs : s.pos = x <;> simp [hs]
set_option maxRecDepth 100000 in
theorem chainc_t (bx bi bw x : Nat) (L : List Wy) (s : Wy) (Γ : List HP) :
    FnV Tryz.prog 108 [.agg (spotL (s.pos, s.left)).toArray, .slice s.A s.w.length s.c, .pointer (some ⟨bx, 0, none⟩), .pointer (some ⟨bi, 0, none⟩), .pointer (some ⟨bw, 0, none⟩)] (TCh bx bi bw x L :: Γ) fun v Γ' => v = .tuple #[] ∧ Γ' = TCh bx bi bw x (L ++ [s]) :: Γ := by
  show Fn _ _ _ _ _
  refine Fn.imp (Δ := row bx [.int .u32 (x : Int)] 23 :: row bi [.bool (fnd L x).isSome] 4 :: row bw [wayV (fnd L x)] 51 :: Γ) ?_ (fun m hm => all3 hm)
  unfold TCh
  rw [fnd_snoc]
  refine Fn.enter Tryz.func108 rfl rfl rfl fun E => ?_
  generalize hf : fnd L x = f
  refine m_run ?_
  (apply TL.box; exact rfl; exact rfl; (exact m_lst))
  intro b5
  refine TL.imp (Δ := row b5 [.int .u32 (s.pos : Int), .int .i64 (s.left : Int)] 102 :: row bx [.int .u32 (x : Int)] 23 :: row bi [.bool f.isSome] 4 :: row bw [wayV f] 51 :: Γ) (fun _ h => h) ?_
  by_cases hx : s.pos = x
  · cases f with
    | some y =>
      refine m_run ?_
      refine TK.drop ?_
      refine TK.imp (fun m hm => all3' hm) ?_
      exact TK.over0 rfl rfl ⟨_, rfl, rfl, rfl⟩
    | none =>
      refine m_run ?_
      refine TK.drop ?_
      refine TK.imp (fun m hm => all3' hm) ?_
      refine TK.over0 rfl rfl ⟨_, rfl, rfl, ?_⟩
      simp [hx, wayV]
  · refine m_run ?_
    refine TK.drop ?_
    refine TK.imp (fun m hm => all3' hm) ?_
    refine TK.over0 rfl rfl ⟨_, rfl, rfl, ?_⟩
    cases f <;> simp [hx]
/-- The least chain, without a link. -/
def chainS (l : List Cr) (who p : Nat) (args : Int) (x : Nat) (skip : Int) : Option (List Nat) := if (predS p args true 0).2 then ((Rch.allC (unskip (linksOf l p args) skip) (nxL l) (who, 3) 4).find? fun s => decide (s.1.1 = x)).map (·.2) else none
set_option maxRecDepth 100000 in
set_option maxHeartbeats 4000000 in
theorem chain_t (A B : Option Addr) (c k : Nat) (l : List Cr) (who p : Nat) (args : Int) (x : Nat) (skip : Int) (Γ : List HP) (h : Crs A l Γ) (hK : has Γ (srcAt 1 B (linksOf l p args).length (ints (linksOf l p args)))) (hl : l.length ≤ 50) :
    FnV Tryz.prog 59 [.agg #[.slice A l.length c, .slice B (linksOf l p args).length k, .bool (predS p args true 0).2], .int .u32 (who : Int), .int .u32 (x : Int), .int .i64 skip] Γ fun v Γ' => ∃ f : Option Wy, v = .tuple #[wayV f, .bool f.isSome] ∧ Γ.Sublist Γ' ∧ (∀ s, f = some s → s.ok Γ') ∧ f.map (·.w) = chainS l who p args x skip := by
  refine Fn.enter Tryz.func59 rfl rfl rfl fun E => ?_
  have hKl : (linksOf l p args).length ≤ 50 := Nat.le_trans (linksOf_len l p args) hl
  have hKd : ∀ i ∈ linksOf l p args, ∃ x, l[i]? = some x ∧ 0 ≤ x.dep ∧ x.dep ≤ 3 := fun i hi => by
    obtain ⟨x, hx, hb⟩ := linksOf_mem.1 hi
    exact ⟨x, hx, linkB_dep hb⟩
  generalize hKK : linksOf l p args = K at *
  refine m_run ?_
  (apply TL.box; exact rfl; exact rfl; (exact m_lst))
  intro b4
  refine m_run ?_
  (apply TL.box; exact rfl; exact rfl; (exact m_lst))
  intro b6
  refine m_run ?_
  (apply TL.alloc; exact rfl; exact tb rfl; exact (rfl : _ = [_]))
  intro b8
  refine m_run ?_
  (apply TL.alloc; exact rfl; exact tb rfl; exact (rfl : _ = [_]))
  intro b9
  refine TL.imp (Δ := row b9 [.bool false] 4 :: row b8 [.slice none 0 0] 51 :: row b6 [.int .u32 (x : Int)] 23 :: row b4 [.slice A l.length c, .slice B K.length k, .bool (predS p args true 0).2] 98 :: Γ) (fun _ h => h) ?_
  have hb4 : has (row b9 [.bool false] 4 :: row b8 [.slice none 0 0] 51 :: row b6 [.int .u32 (x : Int)] 23 :: row b4 [.slice A l.length c, .slice B K.length k, .bool (predS p args true 0).2] 98 :: Γ) (fun m => cellsAt m b4 0 [.slice A l.length c, .slice B K.length k, .bool (predS p args true 0).2]) := has_rows 3 rfl rfl
  refine m_run ?_
  (apply TL.pv; exact rfl; (apply PV.makeFunc; exact rfl; exact rfl))
  refine m_run ?_
  (apply TL.callV (Δ := TCh b6 b9 b8 x [] :: row b4 [.slice A l.length c, .slice B K.length k, .bool (predS p args true 0).2] 98 :: Γ); exact rfl; exact callB_of (by kernel_rfl); exact rfl; exact fun m hm => all3' (all_perm (List.perm_middle (a := row b6 [.int .u32 (x : Int)] 23) (l₁ := [row b9 [.bool false] 4, row b8 [.slice none 0 0] 51]) (l₂ := row b4 [.slice A l.length c, .slice B K.length k, .bool (predS p args true 0).2] 98 :: Γ)) hm))
  exact rounds_t A B c k l K (predS p args true 0).2 who skip 108 [.pointer (some ⟨b6, 0, none⟩), .pointer (some ⟨b9, 0, none⟩), .pointer (some ⟨b8, 0, none⟩)] (TCh b6 b9 b8 x) (row b4 [.slice A l.length c, .slice B K.length k, .bool (predS p args true 0).2] 98 :: Γ) (Crs.tl h) (has_tls hK) (by omega) hKd (callB_of (by kernel_rfl)) (fun L s Γ' _ _ _ => chainc_t b6 b9 b8 x L s Γ')
  rintro _ _ ⟨rfl, L, Γ2, rfl, hsub, hok, hL⟩
  refine TL.nil ?_
  refine TK.imp (Δ := row b6 [.int .u32 (x : Int)] 23 :: row b9 [.bool (fnd L x).isSome] 4 :: row b8 [wayV (fnd L x)] 51 :: Γ2) (fun m hm => all3 hm) ?_
  have hfw : (fnd L x).map (·.w) = chainS l who p args x skip := by
    have h1 : (fnd L x).map (·.w) = ((L.map pureY).find? fun s => decide (s.1.1 = x)).map (·.2) := by
      unfold fnd
      rw [List.find?_map]
      show _ = ((L.find? fun s => decide (s.pos = x)).map pureY).map (·.2)
      cases L.find? fun s => decide (s.pos = x) <;> rfl
    rw [h1, hL]
    unfold chainS
    rw [hKK]
    cases (predS p args true 0).2 with
    | false => rfl
    | true =>
      rw [if_pos rfl, if_pos rfl]
      have := Rch.fresh_find (fun t => decide (t.1 = x)) (Rch.allC (unskip K skip) (nxL l) (who, 3) 4) [] (by simp)
      exact congrArg (Option.map (·.2)) this
  have hfo : ∀ s, fnd L x = some s → s.ok Γ2 := fun s hs => hok s (List.mem_of_find?_eq_some hs)
  generalize fnd L x = f at *
  have hone := wayV_one f
  generalize hw : wayV f = W at *
  refine m_run ?_
  refine TK.drawS mixed rfl ?_
  refine m_take (At.mk : At 0) ?_; refine m_take (At.mk : At 1) ?_
  (apply TA.one 2; kernel_rfl; exact rfl)
  (apply TL.storeR 2; exact rfl; exact rfl; exact rfl; exact hone; exact tb rfl; exact rfl; exact rfl; exact rfl; exact (rfl : _ = _ :: _ :: _ :: _))
  refine TL.back (by (focus ((repeat (first | assumption | exact Ent.refl _ | apply Ent.tail)); done))) ?_
  (apply TA.one 3; kernel_rfl; exact rfl)
  (apply TL.storeR 1; exact rfl; exact rfl; (exact m_val); exact rfl; exact tb rfl; exact rfl; exact rfl; exact rfl; exact (rfl : _ = _ :: _ :: _ :: _))
  refine TL.back (by (focus ((repeat (first | assumption | exact Ent.refl _ | apply Ent.tail)); done))) ?_
  refine TA.done (by kernel_rfl) ?_
  refine m_run ?_
  refine TK.rets (rvs := [.cell 8 51, .cell 9 4]) (vs := [W, .bool f.isSome]) rfl rfl (.cons (.cell rfl (tb rfl) rfl (has_row 2 rfl rfl)) (.cons (.cell rfl (tb rfl) rfl (has_row 1 rfl rfl)) .nil)) ⟨_, rfl, f, by rw [hw]; rfl, .cons _ (.cons _ (.cons _ ((List.sublist_cons_self _ _).trans hsub))), fun s hs => Wy.ok_tl (Wy.ok_tl (Wy.ok_tl (hfo s hs))), hfw⟩
set_option maxRecDepth 100000 in
theorem chainR_t (A : Option Addr) (c : Nat) (l : List Cr) (who p : Nat) (args : Int) (x : Nat) (Γ : List HP) (h : Crs A l Γ) (hl : l.length ≤ 50) :
    FnV Tryz.prog 16 [.slice A l.length c, .int .u32 (who : Int), .int .u32 (p : Int), .int .i64 args, .int .u32 (x : Int)] Γ fun v Γ' => ∃ f : Option Wy, v = .tuple #[wayV f, .bool f.isSome] ∧ Γ.Sublist Γ' ∧ (∀ s, f = some s → s.ok Γ') ∧ f.map (·.w) = chainS l who p args x (-1) := by
  refine Fn.enter Tryz.func16 rfl rfl rfl fun E => ?_
  refine m_run ?_
  (apply TL.callV; exact rfl; exact callB_of (by kernel_rfl); exact rfl; exact fun _ h => h)
  exact of_t A c l p args _ h
  rintro _ _ ⟨B, k, hk, rfl, rfl⟩
  refine m_run ?_
  (apply TL.callV; exact rfl; exact callB_of (by kernel_rfl); exact rfl; exact fun _ h => h)
  exact chain_t A B c k l who p args x (-1) _ (Crs.tl h) (has_at (up_src _ _ _ _) 0 rfl fun _ h => own_src h) hl
  rintro _ Γ3 ⟨f, rfl, hsub, hok, hf⟩
  generalize hw : wayV f = W
  refine m_run ?_
  (apply TK.ret2; exact rfl; exact rfl; exact (rfl : _ = W); exact (rfl : _ = Value.bool f.isSome))
  exact ⟨_, rfl, f, by rw [hw], (List.sublist_cons_self _ _).trans hsub, hok, hf⟩
theorem sub_perm {α : Type} {l m : List α} (h : l.Sublist m) : ∃ r, m.Perm (l ++ r) := by
  induction h with
  | slnil => exact ⟨[], .refl _⟩
  | cons a _ ih =>
    obtain ⟨r, hr⟩ := ih
    exact ⟨a :: r, (hr.cons a).trans List.perm_middle.symm⟩
  | cons_cons a _ ih =>
    obtain ⟨r, hr⟩ := ih
    exact ⟨r, hr.cons a⟩
theorem Atm.ok_sub {a : Atm} {Γ Δ : List HP} (hs : Γ.Sublist Δ) (h : a.ok Γ) : a.ok Δ := ⟨has_sublist (up_src _ _ _ _) hs h.1, h.2⟩
theorem Cr.ok_sub {c : Cr} {Γ Δ : List HP} (hs : Γ.Sublist Δ) (h : c.ok Γ) : c.ok Δ := ⟨Atm.ok_sub hs h.1, has_sublist (up_src _ _ _ _) hs h.2.1, h.2.2.1, fun x hx => Atm.ok_sub hs (h.2.2.2 x hx)⟩
theorem Crs.sub {A : Option Addr} {l : List Cr} {Γ Δ : List HP} (hs : Γ.Sublist Δ) (h : Crs A l Γ) : Crs A l Δ := ⟨has_sublist (up_src _ _ _ _) hs h.src, fun x hx => Cr.ok_sub hs (h.ok x hx), h.few, h.len⟩
theorem chainS_len {l : List Cr} {who p : Nat} {args : Int} {x : Nat} {skip : Int} : ((chainS l who p args x skip).getD []).length ≤ 3 := by
  unfold chainS
  split
  · cases hf : (Rch.allC (unskip (linksOf l p args) skip) (nxL l) (who, 3) 4).find? fun s => decide (s.1.1 = x) with
    | none => exact Nat.zero_le _
    | some s =>
      obtain ⟨k, hk, hm⟩ := (Rch.mem_allC _ _).1 (List.mem_of_find?_eq_some hf)
      have := ((Rch.mem_chs _ _ _ k s.1 s.2).1 hm).1
      show s.2.length ≤ 3
      omega
  · exact Nat.zero_le _
theorem nums_ints (D : List Nat) : nums .i64 (D.map fun n : Nat => (n : Int)) = ints D := by simp [nums, Function.comp_def]
theorem sortI_t (A : Option Addr) (c : Nat) (D : List Nat) (Γ : List HP) (hn : D.length ≤ 1000000000) :
    FnV Tryz.prog 96 [.slice A D.length c] (own 3 1 (.slice A D.length c) D.length (ints D) :: Γ)
      fun v Γ' => v = .tuple #[] ∧ ∃ D', D'.Perm D ∧ D'.Pairwise (· ≤ ·) ∧ Γ' = own 3 1 (.slice A D.length c) D.length (ints D') :: Γ := by
  have h := SI.sort_t A c (D.map fun n : Nat => (n : Int)) Γ (by rw [List.length_map]; exact hn)
  rw [nums_ints, List.length_map] at h
  refine Fn.mono h fun e Γ' => ?_
  rintro ⟨v, rfl, rfl, D', hp, hs, rfl⟩
  have hn : ∀ x ∈ D', 0 ≤ x := fun x hx => by
    obtain ⟨n, _, rfl⟩ := List.mem_map.1 (hp.mem_iff.1 hx)
    omega
  have hback : (D'.map Int.toNat).map (fun n : Nat => (n : Int)) = D' := by
    rw [List.map_map]
    exact (List.map_congr_left fun x hx => Int.toNat_of_nonneg (hn x hx)).trans (List.map_id _)
  refine ⟨_, rfl, rfl, D'.map Int.toNat, ?_, ?_, by rw [← nums_ints, hback]⟩
  · have := hp.map Int.toNat
    rw [List.map_map] at this
    exact this.trans (.of_eq ((List.map_congr_left fun x _ => rfl).trans (List.map_id _)))
  · rw [List.pairwise_map]
    exact hs.imp fun h => Int.toNat_le_toNat h
/-- The links without which one is not reached, as they lie on the way. -/
def cutsL (l : List Cr) (who p : Nat) (args : Int) (x : Nat) : List Nat := ((chainS l who p args x (-1)).getD []).filter fun i : Nat => (chainS l who p args x i).isNone
set_option maxRecDepth 100000 in
set_option maxHeartbeats 4000000 in
theorem cutsR_t (A : Option Addr) (c : Nat) (l : List Cr) (who p : Nat) (args : Int) (x : Nat) (Γ : List HP) (h : Crs A l Γ) (hl : l.length ≤ 50) :
    FnV Tryz.prog 45 [.slice A l.length c, .int .u32 (who : Int), .int .u32 (p : Int), .int .i64 args, .int .u32 (x : Int)] Γ fun v Γ' => ∃ (O : List Nat) (B : Option Addr) (k : Nat) (Γ2 : List HP), O.Perm (cutsL l who p args x) ∧ O.Pairwise (· ≤ ·) ∧ Γ.Sublist Γ2 ∧ v = .slice B O.length k ∧ Γ' = own 3 1 (.slice B O.length k) O.length (ints O) :: Γ2 := by
  refine Fn.enter Tryz.func45 rfl rfl rfl fun E => ?_
  refine m_run ?_
  (apply TL.callV; exact rfl; exact callB_of (by kernel_rfl); exact rfl; exact fun _ h => h)
  exact of_t A c l p args _ h
  rintro _ _ ⟨B, k, hk, rfl, rfl⟩
  (apply TL.alloc; exact rfl; exact tb rfl; exact (rfl : _ = [_, _, _]))
  intro b11
  refine m_rrun ?_
  refine TL.nil ?_
  refine TK.imp (Δ := row b11 [.slice A l.length c, .slice B (linksOf l p args).length k, .bool (predS p args true 0).2] 98 :: own 3 1 (.slice B (linksOf l p args).length k) (linksOf l p args).length (ints (linksOf l p args)) :: Γ) (fun _ h => h) ?_
  have hb11 : has (row b11 [.slice A l.length c, .slice B (linksOf l p args).length k, .bool (predS p args true 0).2] 98 :: own 3 1 (.slice B (linksOf l p args).length k) (linksOf l p args).length (ints (linksOf l p args)) :: Γ) (fun m => cellsAt m b11 0 [.slice A l.length c, .slice B (linksOf l p args).length k, .bool (predS p args true 0).2]) := has_rows 0 rfl rfl
  refine m_run ?_
  (apply TL.callV; exact rfl; exact callB_of (by kernel_rfl); exact rfl; exact fun _ h => h)
  exact chain_t A B c k l who p args x (-1) _ (Crs.tl (Crs.tl h)) (has_at (up_src _ _ _ _) 1 rfl fun _ h => own_src h) hl
  rintro _ Γ3 ⟨f, rfl, hsub, hok, hf⟩
  have hb3 : has Γ3 (fun m => cellsAt m b11 0 [.slice A l.length c, .slice B (linksOf l p args).length k, .bool (predS p args true 0).2]) := has_sublist (up_cells _ _ _) hsub hb11
  have hK3 : has Γ3 (srcAt 1 B (linksOf l p args).length (ints (linksOf l p args))) := has_sublist (up_src _ _ _ _) hsub (has_at (up_src _ _ _ _) 1 rfl fun _ h => own_src h)
  have hG3 : Γ.Sublist Γ3 := ((List.sublist_cons_self _ _).trans (List.sublist_cons_self _ _)).trans hsub
  clear hb11
  have hwl := @chainS_len l who p args x (-1)
  obtain ⟨w, hwd⟩ : ∃ w, w = (chainS l who p args x (-1)).getD [] := ⟨_, rfl⟩
  rw [← hwd] at hwl
  obtain ⟨WA, Wc, hwv, hws⟩ : ∃ WA Wc, wayV f = .slice WA w.length Wc ∧ has Γ3 (srcAt 1 WA w.length (ints w)) := by
    rw [hwd, ← hf]
    cases f with
    | none => exact ⟨none, 0, rfl, has_srcnil _ _⟩
    | some s => exact ⟨s.A, s.c, rfl, (hok s rfl).1⟩
  rw [hwv]
  unfold cutsL
  rw [← hwd]
  refine m_run ?_
  refine TK.free (H := own 3 1 (.slice none 0 0) 0 []) (fun m hm => own_nil _ _ hm) ?_
  apply TK.iter (fun j ρ' Γ' => ∃ (a : Nat) (O : List Nat) (B2 : Option Addr) (k2 : Nat) (Γ4 : List HP), a + j = w.length ∧ O = (w.take a).filter (fun i : Nat => (chainS l who p args x i).isNone) ∧ O.length ≤ a ∧ Γ3.Sublist Γ4 ∧ lk ρ' 1 = .int .u32 (who : Int) ∧ lk ρ' 4 = .int .u32 (x : Int) ∧ lk ρ' 11 = .pointer (some ⟨b11, 0, none⟩) ∧ lk ρ' 14 = .slice B2 O.length k2 ∧ lk ρ' 30 = .slice WA w.length Wc ∧ lk ρ' 31 = .int .i64 (w.length : Int) ∧ lk ρ' 32 = .int .i64 (a : Int) ∧ Γ' = own 3 1 (.slice B2 O.length k2) O.length (ints O) :: Γ4) w.length
  · exact ⟨0, [], none, 0, Γ3, Nat.zero_add _, rfl, Nat.le_refl _, .refl _, rfl, rfl, rfl, rfl, rfl, rfl, rfl, rfl⟩
  rintro j IH ρ' _ ⟨a, O, B2, k2, Γ4, haj, hO, hOl, hs4, e1, e4, e11, e14, e30, e31, e32, rfl⟩
  refine TK.know7 e1 e4 e11 e14 e30 e31 e32 ?_
  by_cases ha : a < w.length
  · obtain ⟨i, hi⟩ : ∃ i, w[a]? = some i := ⟨w[a], List.getElem?_eq_getElem ha⟩
    have hw4 : has Γ4 (srcAt 1 WA w.length (ints w)) := has_sublist (up_src _ _ _ _) hs4 hws
    have hb4 : has Γ4 (fun m => cellsAt m b11 0 [.slice A l.length c, .slice B (linksOf l p args).length k, .bool (predS p args true 0).2]) := has_sublist (up_cells _ _ _) hs4 hb3
    have hK4 : has Γ4 (srcAt 1 B (linksOf l p args).length (ints (linksOf l p args))) := has_sublist (up_src _ _ _ _) hs4 hK3
    refine TK.mem fun m0 hm0 => ?_
    obtain ⟨g, u, rfl⟩ := src_some ((has_tls hw4 : has (_ :: Γ4) _) m0 hm0) (by rw [ints_len]; omega)
    clear hm0 m0
    have hcell := has_ints hw4 hi
    refine m_run ?_
    (apply TL.callV; exact rfl; exact callB_of (by kernel_rfl); exact rfl; exact fun _ h => h)
    exact chain_t A B c k l who p args x (i : Int) _ (Crs.tl (Crs.sub (hG3.trans hs4) h)) (has_tls hK4) hl
    rintro _ Γ5 ⟨f2, rfl, hsub5, hok5, hf5⟩
    obtain ⟨R, hR⟩ := sub_perm hsub5
    refine TL.imp (Δ := own 3 1 (.slice B2 O.length k2) O.length (ints O) :: (Γ4 ++ R)) (fun m hm => all_perm hR hm) ?_
    have hs5 : Γ3.Sublist (Γ4 ++ R) := hs4.trans (List.sublist_append_left _ _)
    have hone := wayV_one f2
    generalize wayV f2 = W2 at *
    have hisn : (chainS l who p args x (i : Int)).isNone = !f2.isSome := by rw [← hf5]; cases f2 <;> rfl
    have hsn : (w.take (a + 1)).filter (fun i : Nat => (chainS l who p args x i).isNone) = O ++ (if f2.isSome then [] else [i]) := by
      rw [List.take_add_one, hi, List.filter_append, ← hO]
      congr 1
      simp only [Option.toList_some, List.filter_cons, List.filter_nil, hisn]
      cases f2 <;> rfl
    cases f2 with
    | some y =>
      refine m_run ?_
      exact IH (j - 1) _ _ (by omega) ⟨a + 1, O, B2, k2, Γ4 ++ R, by omega, by rw [hsn]; simp, by omega, hs5, rfl, rfl, rfl, rfl, rfl, rfl, congrArg (Value.int .i64) (i64_succ a (by omega)), rfl⟩
    | none =>
      refine m_run ?_
      (apply TL.buildSlice (l := ints [i]); exact rfl; exact tb rfl; exact rfl; exact tb rfl; exact rfl; exact rfl; exact rfl; exact rfl; exact rfl)
      intro b48
      refine m_run ?_
      (apply TL.append 1; exact rfl; exact rfl; exact tb rfl; exact rfl; exact tb rfl; exact rfl; exact rfl; exact rfl)
      · exact fun _ h => h
      · exact rfl
      · exact has_src_row 0 rfl rfl
      · exact ints_one [i]
      · show (O.length + 1) * 8 ≤ _; omega
      · show O.length + 1 ≤ maxLen; unfold maxLen; omega
      · exact fun _ => (rfl : _ = _ :: _ :: _)
      intro B3 k3 hk3
      rw [show ints O ++ ints [i] = ints (O ++ [i]) by simp, show O.length + 1 = (O ++ [i]).length by simp]
      refine m_run ?_
      refine TK.drop ?_
      exact IH (j - 1) _ _ (by omega) ⟨a + 1, O ++ [i], B3, k3, Γ4 ++ R, by omega, by rw [hsn]; simp, by simp; omega, hs5, rfl, rfl, rfl, rfl, rfl, rfl, congrArg (Value.int .i64) (i64_succ a (by omega)), rfl⟩
  obtain rfl : a = w.length := by omega
  rw [List.take_length] at hO
  refine m_run ?_
  (apply TL.callV (Δ := own 3 1 (.slice B2 O.length k2) O.length (ints O) :: Γ4); exact rfl; exact callB_of (by kernel_rfl); exact rfl; exact fun _ h => h)
  exact sortI_t B2 k2 O _ (by omega)
  rintro _ _ ⟨rfl, D2, hp2, hs2, rfl⟩
  rw [← hp2.length_eq]
  refine m_run ?_
  (apply TK.ret1; exact rfl; exact rfl; (exact m_val))
  exact ⟨_, rfl, D2, B2, k2, Γ4, by rw [← hO]; exact hp2, hs2, hG3.trans hs4, rfl, rfl⟩
end Go.Proofs.YthbcfamfaicneaaGreat.E

/- Credentials in memory; numbers and places compared; few credentials. -/
namespace Go.Proofs.YthbcfamfaicneaaGreat.E
open Go Go.RowKit Go.Proofs
attribute [local irreducible] TK TL TQ TA TB Fn PV
theorem crs_one (l : List Cr) : ∀ u ∈ crsC l, u.oneCell' = true := by
  intro u hu
  obtain ⟨c, _, hc⟩ := List.mem_flatMap.1 hu
  simp only [Cr.cells, Rl.cells, Sy.cells, List.mem_append, List.mem_cons, List.not_mem_nil, or_false] at hc
  rcases hc with ((rfl | rfl | rfl | rfl | rfl) | ((rfl | rfl | rfl | rfl | rfl) | rfl)) | (rfl | rfl | rfl | rfl) <;> rfl
set_option maxRecDepth 100000 in
theorem numbers_t (A B : Option Addr) (c d : Nat) (a b : List Nat) (Γ : List HP) (ha : has Γ (srcAt 1 A a.length (u32s a))) (hb : has Γ (srcAt 1 B b.length (u32s b))) (hn : a.length ≤ 1000000) (hn2 : b.length ≤ 1000000) :
    FnV Tryz.prog 46 [.slice A a.length c, .slice B b.length d] Γ fun v Γ' => v = .bool (decide (a = b)) ∧ Γ' = Γ := by
  refine Fn.enter Tryz.func46 rfl rfl rfl fun E => ?_
  by_cases hl : a.length = b.length
  rotate_left
  · have hl' : ((a.length : Int) != (b.length : Int)) = true := bne_iff_ne.2 (by omega)
    refine m_run ?_
    (apply TK.ret1; exact rfl; exact rfl; (exact m_val))
    exact ⟨_, rfl, by rw [decide_eq_false (fun e => hl (congrArg List.length e))], rfl⟩
  refine m_run ?_
  apply TK.iter (fun j ρ' Γ' => ∃ i : Nat, i + j = a.length ∧ a.take i = b.take i ∧ lk ρ' 0 = .slice A a.length c ∧ lk ρ' 1 = .slice B b.length d ∧ lk ρ' 5 = .int .i64 (i : Int) ∧ Γ' = Γ) a.length
  · exact ⟨0, Nat.zero_add _, rfl, rfl, rfl, rfl, rfl⟩
  rintro j IH ρ' Γ ⟨i, hij, heq, e0, e1, e5, rfl⟩
  refine TK.know3 e0 e1 e5 ?_
  by_cases hi : i < a.length
  · obtain ⟨x, hx⟩ : ∃ x, a[i]? = some x := ⟨a[i], List.getElem?_eq_getElem hi⟩
    obtain ⟨y, hy⟩ : ∃ y, b[i]? = some y := ⟨b[i]'(by omega), List.getElem?_eq_getElem _⟩
    refine TK.mem fun m0 hm0 => ?_
    obtain ⟨g, u, rfl⟩ := src_some (ha m0 hm0) (by rw [u32s_len]; omega)
    obtain ⟨g2, u2, rfl⟩ := src_some (hb m0 hm0) (by rw [u32s_len]; omega)
    clear hm0 m0
    have hcx := has_u32 ha hx
    have hcy := has_u32 hb hy
    refine m_run ?_
    refine TK.drawS mixed rfl ?_
    refine m_take (At.mk : At 0) ?_; refine m_take (At.mk : At 1) ?_; refine m_take (At.mk : At 2) ?_; refine m_take (At.mk : At 3) ?_; refine m_take (At.mk : At 4) ?_; refine m_take (At.mk : At 5) ?_; refine m_take (At.mk : At 6) ?_; refine m_take (At.mk : At 7) ?_; refine m_take (At.mk : At 8) ?_
    refine TA.done (by kernel_rfl) ?_
    by_cases hxy : x = y
    · subst hxy
      refine m_run ?_
      refine IH (j - 1) _ _ (by omega) ⟨i + 1, by omega, ?_, rfl, rfl, congrArg (Value.int .i64) (i64_succ i (by omega)), rfl⟩
      rw [List.take_add_one, List.take_add_one, hx, hy, heq]
    · have hxy' : ((x : Int) != (y : Int)) = true := bne_iff_ne.2 (by omega)
      refine m_run ?_
      (apply TK.ret1; exact rfl; exact rfl; (exact m_val))
      refine ⟨_, rfl, ?_, rfl⟩
      rw [decide_eq_false (fun e => hxy (by rw [e, hy] at hx; exact (Option.some.inj hx).symm))]
  obtain rfl : i = a.length := by omega
  rw [List.take_length, List.take_of_length_le (by omega)] at heq
  refine m_run ?_
  (apply TK.ret1; exact rfl; exact rfl; (exact m_val))
  exact ⟨_, rfl, by rw [decide_eq_true heq], rfl⟩
set_option maxRecDepth 100000 in
theorem same_t (A B : Option Addr) (c d : Nat) (a b : List Nat) (Γ : List HP) (ha : has Γ (srcAt 1 A a.length (ints a))) (hb : has Γ (srcAt 1 B b.length (ints b))) (hn : a.length ≤ 1000000) (hn2 : b.length ≤ 1000000) :
    FnV Tryz.prog 26 [.slice A a.length c, .slice B b.length d] Γ fun v Γ' => v = .bool (decide (a = b)) ∧ Γ' = Γ := by
  refine Fn.enter Tryz.func26 rfl rfl rfl fun E => ?_
  by_cases hl : a.length = b.length
  rotate_left
  · have hl' : ((a.length : Int) != (b.length : Int)) = true := bne_iff_ne.2 (by omega)
    refine m_run ?_
    (apply TK.ret1; exact rfl; exact rfl; (exact m_val))
    exact ⟨_, rfl, by rw [decide_eq_false (fun e => hl (congrArg List.length e))], rfl⟩
  refine m_run ?_
  apply TK.iter (fun j ρ' Γ' => ∃ i : Nat, i + j = a.length ∧ a.take i = b.take i ∧ lk ρ' 0 = .slice A a.length c ∧ lk ρ' 1 = .slice B b.length d ∧ lk ρ' 5 = .int .i64 (i : Int) ∧ Γ' = Γ) a.length
  · exact ⟨0, Nat.zero_add _, rfl, rfl, rfl, rfl, rfl⟩
  rintro j IH ρ' Γ ⟨i, hij, heq, e0, e1, e5, rfl⟩
  refine TK.know3 e0 e1 e5 ?_
  by_cases hi : i < a.length
  · obtain ⟨x, hx⟩ : ∃ x, a[i]? = some x := ⟨a[i], List.getElem?_eq_getElem hi⟩
    obtain ⟨y, hy⟩ : ∃ y, b[i]? = some y := ⟨b[i]'(by omega), List.getElem?_eq_getElem _⟩
    refine TK.mem fun m0 hm0 => ?_
    obtain ⟨g, u, rfl⟩ := src_some (ha m0 hm0) (by rw [ints_len]; omega)
    obtain ⟨g2, u2, rfl⟩ := src_some (hb m0 hm0) (by rw [ints_len]; omega)
    clear hm0 m0
    have hcx := has_ints ha hx
    have hcy := has_ints hb hy
    refine m_run ?_
    refine TK.drawS mixed rfl ?_
    refine m_take (At.mk : At 0) ?_; refine m_take (At.mk : At 1) ?_; refine m_take (At.mk : At 2) ?_; refine m_take (At.mk : At 3) ?_; refine m_take (At.mk : At 4) ?_; refine m_take (At.mk : At 5) ?_; refine m_take (At.mk : At 6) ?_; refine m_take (At.mk : At 7) ?_; refine m_take (At.mk : At 8) ?_
    refine TA.done (by kernel_rfl) ?_
    by_cases hxy : x = y
    · subst hxy
      refine m_run ?_
      refine IH (j - 1) _ _ (by omega) ⟨i + 1, by omega, ?_, rfl, rfl, congrArg (Value.int .i64) (i64_succ i (by omega)), rfl⟩
      rw [List.take_add_one, List.take_add_one, hx, hy, heq]
    · have hxy' : ((x : Int) != (y : Int)) = true := bne_iff_ne.2 (by omega)
      refine m_run ?_
      (apply TK.ret1; exact rfl; exact rfl; (exact m_val))
      refine ⟨_, rfl, ?_, rfl⟩
      rw [decide_eq_false (fun e => hxy (by rw [e, hy] at hx; exact (Option.some.inj hx).symm))]
  obtain rfl : i = a.length := by omega
  rw [List.take_length, List.take_of_length_le (by omega)] at heq
  refine m_run ?_
  (apply TK.ret1; exact rfl; exact rfl; (exact m_val))
  exact ⟨_, rfl, by rw [decide_eq_true heq], rfl⟩
def lessB (l : List Cr) (who p : Nat) (args : Int) (x i : Nat) : Bool := (chainS (l.eraseIdx i) who p args x (-1)).isNone
end Go.Proofs.YthbcfamfaicneaaGreat.E

/- Cuts, plainly; how credentials are read; the example. -/
namespace Go.Proofs.YthbcfamfaicneaaGreat.E
open Go Go.RowKit Go.Proofs
section
/- Cuts, plainly: those of the way that cannot be left out are all that cannot. -/
def rnm (v i : Nat) : Nat := if i < v then i else i + 1
theorem of_one {l : List Cr} {who p : Nat} {args : Int} {O P : List Nat} (h : OfSpec l who p args O) (h2 : OfSpec l who p args P) : O = P := Rch.sorted_eq h.1 h2.1 fun v => by rw [h.2, h2.2]
end
section
/- How credentials are read. -/
attribute [local irreducible] TK TL TQ TA Fn PV
/-! ### how they are read -/
def rU32 : Rd Nat := rNat .u32 4294967295
theorem reads_u32 : Reads Tryz.prog 23 rU32 := reads_nat (tb rfl : TabOk Tryz.prog 23 _) rfl rfl rfl rfl
def rTm : Rd Tm := ⟨2, tmC, fun t _ => t.n ≤ 4294967295⟩
theorem reads_tm : Reads Tryz.prog 27 rTm :=
  have ht : TabOk Tryz.prog 27 _ := tb rfl
  ⟨by rw [ht.cellsOf]; rfl, fun _ => rfl, fun _ _ _ _ h => h, fun enc w fuel cs x h => by
    obtain ⟨v, h1, _⟩ := read_field ht rfl h (R := rBool) 0 _ rfl (reads_bool (tb rfl) rfl rfl)
    obtain ⟨n, h3, h4⟩ := read_field ht rfl h (R := rU32) 1 _ rfl reads_u32
    exact ⟨⟨v, n⟩, cut2 h1 h3 (trod_field ht rfl h).1 rfl, h4⟩⟩
theorem reads_tms : Reads Tryz.prog 28 (rSl rTm) := reads_sl reads_tm (tb rfl) rfl rfl
def atmAt (a : Atm) (m : Mem) : Prop := a.p ≤ 4294967295 ∧ a.l.length ≤ a.c ∧ srcAt 2 a.A a.l.length (tmsC a.l) m ∧ ∀ t ∈ a.l, t.n ≤ 4294967295
def rAtm : Rd Atm := ⟨2, Atm.cells, atmAt⟩
theorem reads_atm : Reads Tryz.prog 30 rAtm :=
  have ht : TabOk Tryz.prog 30 _ := tb rfl
  ⟨by rw [ht.cellsOf]; rfl, fun _ => rfl, fun a x y hxy h => ⟨h.1, h.2.1, up_src _ _ _ _ x y hxy h.2.2.1, h.2.2.2⟩, fun enc w fuel cs x h => by
    obtain ⟨p, h1, h2⟩ := read_field ht rfl h (R := rU32) 0 _ rfl reads_u32
    obtain ⟨s, h3, h4⟩ := read_field ht rfl h (R := rSl rTm) 1 _ rfl reads_tms
    exact ⟨⟨p, s.A, s.c, s.l⟩, cut2 h1 h3 (trod_field ht rfl h).1 rfl, h2, h4.1, h4.2.2.1, h4.2.2.2⟩⟩
def syAt (y : Sy) (m : Mem) : Prop := y.w.n ≤ 4294967295 ∧ atmAt y.a m
def rSy : Rd Sy := ⟨5, Sy.cells, syAt⟩
theorem reads_sy : Reads Tryz.prog 32 rSy :=
  have ht : TabOk Tryz.prog 32 _ := tb rfl
  ⟨by rw [ht.cellsOf]; rfl, fun _ => rfl, fun a x y hxy h => ⟨h.1, reads_atm.up _ x y hxy h.2⟩, fun enc w fuel cs x h => by
    obtain ⟨v, h1, _⟩ := read_field ht rfl h (R := rBool) 0 _ rfl (reads_bool (tb rfl) rfl rfl)
    obtain ⟨t, h3, h4⟩ := read_field ht rfl h (R := rTm) 1 _ rfl reads_tm
    obtain ⟨a, h5, h6⟩ := read_field ht rfl h (R := rAtm) 2 _ rfl reads_atm
    exact ⟨⟨v, t, a⟩, cut3 h1 h3 h5 (trod_field ht rfl h).1 rfl, h4, h6⟩⟩
def rCd : Rd Cd := ⟨6, Cd.cells, fun x m => syAt x.y m⟩
theorem reads_cd : Reads Tryz.prog 131 rCd :=
  have ht : TabOk Tryz.prog 131 _ := tb rfl
  ⟨by rw [ht.cellsOf]; rfl, fun _ => rfl, fun a x y hxy h => reads_sy.up _ x y hxy h, fun enc w fuel cs x h => by
    obtain ⟨v, h1, _⟩ := read_field ht rfl h (R := rBool) 0 _ rfl (reads_bool (tb rfl) rfl rfl)
    obtain ⟨a, h3, h4⟩ := read_field ht rfl h (R := rSy) 1 _ rfl reads_sy
    exact ⟨⟨v, a⟩, cut2 h1 h3 (trod_field ht rfl h).1 rfl, h4⟩⟩
theorem reads_cds : Reads Tryz.prog 33 (rSl rCd) := reads_sl reads_cd (tb rfl) rfl rfl
def rlAt (c : Rl) (m : Mem) : Prop := syAt c.h m ∧ c.l.length ≤ c.c ∧ srcAt 6 c.A c.l.length (cdsC c.l) m ∧ ∀ x ∈ c.l, syAt x.y m
def rRl : Rd Rl := ⟨6, Rl.cells, rlAt⟩
theorem reads_rl : Reads Tryz.prog 35 rRl :=
  have ht : TabOk Tryz.prog 35 _ := tb rfl
  ⟨by rw [ht.cellsOf]; rfl, fun _ => rfl, fun a x y hxy h => ⟨reads_sy.up _ x y hxy h.1, h.2.1, up_src _ _ _ _ x y hxy h.2.2.1, fun z hz => reads_sy.up _ x y hxy (h.2.2.2 z hz)⟩, fun enc w fuel cs x h => by
    obtain ⟨a, h1, h2⟩ := read_field ht rfl h (R := rSy) 0 _ rfl reads_sy
    obtain ⟨s, h3, h4⟩ := read_field ht rfl h (R := rSl rCd) 1 _ rfl reads_cds
    exact ⟨⟨a, s.A, s.c, s.l⟩, cut2 h1 h3 (trod_field ht rfl h).1 rfl, h2, h4.1, h4.2.2.1, h4.2.2.2⟩⟩
theorem take_app {cs a b : List Value} {i j : Nat} (h1 : cs.take i = a) (h2 : (cs.drop i).take j = b) : cs.take (i + j) = a ++ b := by rw [List.take_add, h1, h2]
def crAt (c : Cr) (m : Mem) : Prop := rlAt c.r m
def rCr : Rd Cr := ⟨15, Cr.cells, crAt⟩
theorem reads_cr : Reads Tryz.prog 37 rCr :=
  have ht : TabOk Tryz.prog 37 _ := tb rfl
  ⟨by rw [ht.cellsOf]; rfl, fun _ => rfl, fun a x y hxy h => reads_rl.up _ x y hxy h, fun enc w fuel cs x h => by
    obtain ⟨a0, h0, _⟩ := read_field ht rfl h (R := rU32) 0 _ rfl reads_u32
    obtain ⟨a1, h1, _⟩ := read_field ht rfl h (R := rNat .u64 18446744073709551615) 1 _ rfl (reads_nat (tb rfl : TabOk Tryz.prog 25 _) rfl rfl rfl rfl)
    obtain ⟨a2, h2, _⟩ := read_field ht rfl h (R := rNat .u64 18446744073709551615) 2 _ rfl (reads_nat (tb rfl : TabOk Tryz.prog 25 _) rfl rfl rfl rfl)
    obtain ⟨a3, h3, _⟩ := read_field ht rfl h (R := rNat .u64 18446744073709551615) 3 _ rfl (reads_nat (tb rfl : TabOk Tryz.prog 25 _) rfl rfl rfl rfl)
    obtain ⟨a4, h4, _⟩ := read_field ht rfl h (R := rNat .u8 255) 4 _ rfl (reads_nat (tb rfl : TabOk Tryz.prog 5 _) rfl rfl rfl rfl)
    obtain ⟨a5, h5, hr⟩ := read_field ht rfl h (R := rRl) 5 _ rfl reads_rl
    obtain ⟨a6, h6, _⟩ := read_field ht rfl h (R := rU32) 6 _ rfl reads_u32
    obtain ⟨a7, h7, _⟩ := read_field ht rfl h (R := rInt .i64) 7 _ rfl (reads_int (tb rfl : TabOk Tryz.prog 3 _) rfl rfl)
    obtain ⟨a8, h8, _⟩ := read_field ht rfl h (R := rU32) 8 _ rfl reads_u32
    obtain ⟨a9, h9, _⟩ := read_field ht rfl h (R := rInt .i64) 9 _ rfl (reads_int (tb rfl : TabOk Tryz.prog 3 _) rfl rfl)
    refine ⟨⟨a0, a1, a2, a3, a4, a5, a6, a7, a8, a9⟩, ?_, hr⟩
    have k0 : cs.take 1 = [.int .u32 (a0 : Int)] := h0
    have g1 : (cs.drop 1).take 1 = [.int .u64 (a1 : Int)] := h1
    have k1 : cs.take 2 = [.int .u32 (a0 : Int)] ++ [.int .u64 (a1 : Int)] := take_app k0 g1
    have g2 : (cs.drop 2).take 1 = [.int .u64 (a2 : Int)] := h2
    have k2 : cs.take 3 = ([.int .u32 (a0 : Int)] ++ [.int .u64 (a1 : Int)]) ++ [.int .u64 (a2 : Int)] := take_app k1 g2
    have g3 : (cs.drop 3).take 1 = [.int .u64 (a3 : Int)] := h3
    have k3 : cs.take 4 = (([.int .u32 (a0 : Int)] ++ [.int .u64 (a1 : Int)]) ++ [.int .u64 (a2 : Int)]) ++ [.int .u64 (a3 : Int)] := take_app k2 g3
    have g4 : (cs.drop 4).take 1 = [.int .u8 (a4 : Int)] := h4
    have k4 : cs.take 5 = ((([.int .u32 (a0 : Int)] ++ [.int .u64 (a1 : Int)]) ++ [.int .u64 (a2 : Int)]) ++ [.int .u64 (a3 : Int)]) ++ [.int .u8 (a4 : Int)] := take_app k3 g4
    have g5 : (cs.drop 5).take 6 = a5.cells := h5
    have k5 : cs.take 11 = (((([.int .u32 (a0 : Int)] ++ [.int .u64 (a1 : Int)]) ++ [.int .u64 (a2 : Int)]) ++ [.int .u64 (a3 : Int)]) ++ [.int .u8 (a4 : Int)]) ++ a5.cells := take_app k4 g5
    have g6 : (cs.drop 11).take 1 = [.int .u32 (a6 : Int)] := h6
    have k6 : cs.take 12 = ((((([.int .u32 (a0 : Int)] ++ [.int .u64 (a1 : Int)]) ++ [.int .u64 (a2 : Int)]) ++ [.int .u64 (a3 : Int)]) ++ [.int .u8 (a4 : Int)]) ++ a5.cells) ++ [.int .u32 (a6 : Int)] := take_app k5 g6
    have g7 : (cs.drop 12).take 1 = [.int .i64 a7] := h7
    have k7 : cs.take 13 = (((((([.int .u32 (a0 : Int)] ++ [.int .u64 (a1 : Int)]) ++ [.int .u64 (a2 : Int)]) ++ [.int .u64 (a3 : Int)]) ++ [.int .u8 (a4 : Int)]) ++ a5.cells) ++ [.int .u32 (a6 : Int)]) ++ [.int .i64 a7] := take_app k6 g7
    have g8 : (cs.drop 13).take 1 = [.int .u32 (a8 : Int)] := h8
    have k8 : cs.take 14 = ((((((([.int .u32 (a0 : Int)] ++ [.int .u64 (a1 : Int)]) ++ [.int .u64 (a2 : Int)]) ++ [.int .u64 (a3 : Int)]) ++ [.int .u8 (a4 : Int)]) ++ a5.cells) ++ [.int .u32 (a6 : Int)]) ++ [.int .i64 a7]) ++ [.int .u32 (a8 : Int)] := take_app k7 g8
    have g9 : (cs.drop 14).take 1 = [.int .i64 a9] := h9
    have k9 : cs.take 15 = (((((((([.int .u32 (a0 : Int)] ++ [.int .u64 (a1 : Int)]) ++ [.int .u64 (a2 : Int)]) ++ [.int .u64 (a3 : Int)]) ++ [.int .u8 (a4 : Int)]) ++ a5.cells) ++ [.int .u32 (a6 : Int)]) ++ [.int .i64 a7]) ++ [.int .u32 (a8 : Int)]) ++ [.int .i64 a9] := take_app k8 g9
    have hl : cs.length = 15 := (trod_field ht rfl h).1
    rw [List.take_of_length_le (by omega)] at k9
    rw [k9]
    simp [rCr, Cr.cells]⟩
theorem reads_crs : Reads Tryz.prog 22 (rSl rCr) := reads_sl reads_cr (tb rfl) rfl rfl
end
section
/- The chapter's example of who is reached: walked. -/
attribute [local irreducible] TK TL TQ TA TB Fn PV
/-- A link. -/
def giveC (a b p : Nat) (d : Int) : Cr := ⟨a, 0, 0, 9, 2, ⟨⟨false, ⟨false, 0⟩, ⟨0, none, 0, []⟩⟩, none, 0, []⟩, p, 1, b, d⟩
theorem giveC_ok (a b p : Nat) (d : Int) (Γ : List HP) : (giveC a b p d).ok Γ := ⟨⟨has_srcnil _ _, Nat.le_refl _⟩, has_srcnil _ _, Nat.le_refl _, fun x hx => by cases hx⟩
theorem giveC_few (a b p : Nat) (d : Int) : (giveC a b p d).few := ⟨by show 0 ≤ 30; decide, by show 0 ≤ 30; decide, fun x hx => by cases hx⟩
theorem mkGive_t (a b p : Nat) (d : Int) (Γ : List HP) : FnV Tryz.prog 44 [.int .u32 (a : Int), .int .u32 (b : Int), .int .u32 (p : Int), .int .i64 d] Γ fun v Γ' => v = .agg (giveC a b p d).cells.toArray ∧ Γ' = Γ := by
  refine Fn.enter Tryz.func44 rfl rfl rfl fun E => ?_
  refine m_run ?_
  (apply TL.alloc; exact rfl; exact tb rfl; exact (rfl : _ = [_, _, _, _, _, _, _, _, _, _, _, _, _, _, _]))
  intro b2
  refine m_run ?_
  (apply TL.pv; exact rfl; (apply PV.build tabs; exact rfl; exact rfl; exact rfl; exact rfl; exact rfl; exact (rfl : _ = (giveC a b p d).cells)))
  (apply TL.storeAggR 0; exact rfl; exact rfl; exact rfl; exact rfl; exact tb rfl; exact rfl; exact rfl; exact (rfl : _ = (giveC a b p d).cells); exact (rfl : _ = _ :: _))
  refine m_run ?_
  (apply TK.retRow (i := 0); exact rfl; exact rfl; exact rfl; exact rfl; exact tb rfl; exact rfl; exact (rfl : _ = (giveC a b p d).cells); exact rfl)
  · exact ⟨_, rfl, rfl, rfl⟩
  · (repeat (first | exact List.Sublist.refl _ | apply List.Sublist.cons_cons | apply List.Sublist.cons))
def exL : List Cr := [giveC 5 6 7 0, giveC 6 8 7 3]
theorem exL_all (who : Nat) (R : List Rch.Stp) (h : Rch.allC (linksOf exL 7 1) (nxL exL) (who, 3) 4 = R) {O P : List Nat} (ho : OfSpec exL who 7 1 O) (hp : P.Pairwise (· < ·)) (hm : ∀ v, v ∈ P ↔ ∃ s ∈ R, s.1.1 = v) : O = P := by
  refine of_one ho ⟨hp, fun v => ?_⟩
  rw [h, hm]
  exact ⟨fun k => ⟨by kernel_rfl, k⟩, fun k => k.2⟩
theorem ex_a {O : List Nat} (h : OfSpec exL 5 7 1 O) : O = [5, 6] := exL_all 5 [((5, 3), []), ((6, 0), [0])] (by kernel_rfl) h (by decide) (fun v => by simp [eq_comm])
theorem ex_b {O : List Nat} (h : OfSpec exL 6 7 1 O) : O = [6, 8] := exL_all 6 [((6, 3), []), ((8, 2), [1])] (by kernel_rfl) h (by decide) (fun v => by simp [eq_comm])
theorem ex_c : chainS exL 6 7 1 8 (-1) = some [1] := by kernel_rfl
theorem ex_d : chainS exL 5 7 1 8 (-1) = none := by kernel_rfl
theorem ex_e : cutsL exL 5 7 1 6 = [0] := by kernel_rfl
attribute [local irreducible] exL chainS cutsL OfSpec
set_option maxRecDepth 100000 in
set_option maxHeartbeats 8000000 in
theorem works_t (Γ0 : List HP) : FnV Tryz.prog 10 [] Γ0 fun v Γ' => v = .bool true ∧ Γ0.Sublist Γ' := by
  refine Fn.enter Tryz.func10 rfl rfl rfl fun E => ?_
  refine m_run ?_
  (apply TL.callV; exact rfl; exact callB_of (by kernel_rfl); exact rfl; exact fun _ h => h)
  exact mkGive_t 5 6 7 0 _
  rintro _ Γ0 ⟨rfl, rfl⟩
  refine m_run ?_
  (apply TL.callV; exact rfl; exact callB_of (by kernel_rfl); exact rfl; exact fun _ h => h)
  exact mkGive_t 6 8 7 3 _
  rintro _ Γ0 ⟨rfl, rfl⟩
  (apply TL.buildSlice (l := crsC [giveC 5 6 7 0, giveC 6 8 7 3]); exact rfl; exact tb rfl; exact rfl; exact tb rfl; exact rfl; exact rfl; exact rfl; exact rfl; exact rfl)
  intro b11
  have hC : Crs (some ⟨b11, 0, none⟩) exL (row b11 (crsC [giveC 5 6 7 0, giveC 6 8 7 3]) 37 :: Γ0) := by
    unfold exL
    refine ⟨has_src_row 0 rfl rfl, fun x hx => ?_, fun x hx => ?_, by show 2 ≤ 100000; decide⟩
    · simp only [List.mem_cons, List.not_mem_nil, or_false] at hx
      rcases hx with rfl | rfl <;> exact giveC_ok _ _ _ _ _
    · simp only [List.mem_cons, List.not_mem_nil, or_false] at hx
      rcases hx with rfl | rfl <;> exact giveC_few _ _ _ _
  have h2 : exL.length = 2 := by unfold exL; rfl
  have hl : exL.length ≤ 50 := by omega
  have hS0 : Γ0.Sublist (row b11 (crsC [giveC 5 6 7 0, giveC 6 8 7 3]) 37 :: Γ0) := .cons _ (.refl _)
  generalize hG : row b11 (crsC [giveC 5 6 7 0, giveC 6 8 7 3]) 37 :: Γ0 = Γ1 at hC hS0
  clear hG
  refine m_run ?_
  (apply TL.callV; exact rfl; exact callB_of (by kernel_rfl); exact rfl; exact fun _ h => h)
  rw [← h2]
  exact ofR_t _ exL.length exL 5 7 1 _ hC hl
  rintro _ _ ⟨O, B1, k1, Γ2, hO, _, hs2, rfl, rfl⟩
  obtain rfl := ex_a hO
  refine m_run ?_
  (apply TL.callV; exact rfl; exact callB_of (by kernel_rfl); exact rfl; exact fun _ h => h)
  rw [← h2]
  exact ofR_t _ exL.length exL 6 7 1 _ (hC.sub (.cons _ hs2)) hl
  rintro _ _ ⟨O2, B2, k2, Γ3, hO2, _, hs3, rfl, rfl⟩
  obtain rfl := ex_b hO2
  refine m_run ?_
  (apply TL.callV; exact rfl; exact callB_of (by kernel_rfl); exact rfl; exact fun _ h => h)
  rw [← h2]
  exact chainR_t _ exL.length exL 6 7 1 8 _ (hC.sub ((List.Sublist.cons _ hs2).trans (.cons _ hs3))) hl
  rintro _ Γ4 ⟨f, rfl, hs4, hfo, hf⟩
  rw [ex_c] at hf
  obtain ⟨y, rfl, hy⟩ := Option.map_eq_some_iff.1 hf
  obtain ⟨yp, yl, yA, yc, yw⟩ := y
  dsimp only at hy
  subst hy
  have hyo := (hfo _ rfl).1
  refine m_run ?_
  (apply TL.callV; exact rfl; exact callB_of (by kernel_rfl); exact rfl; exact fun _ h => h)
  rw [← h2]
  exact chainR_t _ exL.length exL 5 7 1 8 _ (hC.sub (((List.Sublist.cons _ hs2).trans (.cons _ hs3)).trans hs4)) hl
  rintro _ Γ5 ⟨f, rfl, hs5, _, hf⟩
  rw [ex_d] at hf
  obtain rfl := Option.map_eq_none_iff.1 hf
  refine m_run ?_
  (apply TL.callV; exact rfl; exact callB_of (by kernel_rfl); exact rfl; exact fun _ h => h)
  rw [← h2]
  exact cutsR_t _ exL.length exL 5 7 1 6 _ (hC.sub ((((List.Sublist.cons _ hs2).trans (.cons _ hs3)).trans hs4).trans hs5)) hl
  rintro _ _ ⟨O3, B3, k3, Γ6, hO3, _, hs6, rfl, rfl⟩
  rw [ex_e] at hO3
  obtain rfl := List.perm_singleton.1 hO3
  have u1 : has Γ6 (srcAt 1 B1 [5, 6].length (u32s [5, 6])) := has_sublist (up_src _ _ _ _) (((List.Sublist.cons _ hs3).trans hs4).trans (hs5.trans hs6)) (has_at (up_src _ _ _ _) 0 rfl fun _ h => own_src h)
  have u2 : has Γ6 (srcAt 1 B2 [6, 8].length (u32s [6, 8])) := has_sublist (up_src _ _ _ _) (hs4.trans (hs5.trans hs6)) (has_at (up_src _ _ _ _) 0 rfl fun _ h => own_src h)
  have u3 : has Γ6 (srcAt 1 yA [1].length (ints [1])) := has_sublist (up_src _ _ _ _) (hs5.trans hs6) hyo
  have u4 : has (own 3 1 (.slice B3 1 k3) 1 (ints [0]) :: Γ6) (srcAt 1 B3 [0].length (ints [0])) := has_at (up_src _ _ _ _) 0 rfl fun _ h => own_src h
  have hS6 : Γ0.Sublist Γ6 := (((hS0.trans ((List.Sublist.cons _ hs2).trans (.cons _ hs3))).trans hs4).trans hs5).trans hs6
  refine m_run ?_
  (apply TL.buildSlice (l := u32s [5, 6]); exact rfl; exact tb rfl; exact rfl; exact tb rfl; exact rfl; exact rfl; exact rfl; exact rfl; exact rfl)
  intro b29
  (apply TL.callV; exact rfl; exact callB_of (by kernel_rfl); exact rfl; exact fun _ h => h)
  exact numbers_t B1 _ k1 2 [5, 6] [5, 6] _ (has_tls (has_tls u1)) (has_src_row 0 rfl rfl) (by decide) (by decide)
  rintro _ _ ⟨rfl, rfl⟩
  refine m_run ?_
  (apply TL.buildSlice (l := u32s [6, 8]); exact rfl; exact tb rfl; exact rfl; exact tb rfl; exact rfl; exact rfl; exact rfl; exact rfl; exact rfl)
  intro b33
  refine m_run ?_
  (apply TL.callV; exact rfl; exact callB_of (by kernel_rfl); exact rfl; exact fun _ h => h)
  exact numbers_t B2 _ k2 2 [6, 8] [6, 8] _ (has_tls (has_tls (has_tls u2))) (has_src_row 0 rfl rfl) (by decide) (by decide)
  rintro _ _ ⟨rfl, rfl⟩
  refine m_run ?_
  (apply TL.buildSlice (l := ints [1]); exact rfl; exact tb rfl; exact rfl; exact tb rfl; exact rfl; exact rfl; exact rfl; exact rfl; exact rfl)
  intro b41
  refine m_run ?_
  (apply TL.callV; exact rfl; exact callB_of (by kernel_rfl); exact rfl; exact fun _ h => h)
  exact same_t yA _ yc 1 [1] [1] _ (has_tls (has_tls (has_tls (has_tls u3)))) (has_src_row 0 rfl rfl) (by decide) (by decide)
  rintro _ _ ⟨rfl, rfl⟩
  refine m_run ?_
  (apply TL.buildSlice (l := ints [0]); exact rfl; exact tb rfl; exact rfl; exact tb rfl; exact rfl; exact rfl; exact rfl; exact rfl; exact rfl)
  intro b50
  refine m_run ?_
  (apply TL.callV; exact rfl; exact callB_of (by kernel_rfl); exact rfl; exact fun _ h => h)
  exact same_t B3 _ k3 1 [0] [0] _ (has_tls (has_tls (has_tls (has_tls u4)))) (has_src_row 0 rfl rfl) (by decide) (by decide)
  rintro _ _ ⟨rfl, rfl⟩
  refine m_run ?_
  (apply TK.ret1; exact rfl; exact rfl; (exact m_val))
  exact ⟨_, rfl, rfl, .cons _ (.cons _ (.cons _ (.cons _ (.cons _ hS6))))⟩
end
section
/- Whom anybody reaches, as the document tells it: walked. -/
attribute [local irreducible] TK TL TQ TA TB Fn PV
theorem way_src {f : Option Wy} {Γ : List HP} (h : ∀ s, f = some s → s.ok Γ) : ∃ A c, wayV f = .slice A ((f.map (·.w)).getD []).length c ∧ has Γ (srcAt 1 A ((f.map (·.w)).getD []).length (ints ((f.map (·.w)).getD []))) := by
  cases f with
  | none => exact ⟨none, 0, rfl, has_srcnil _ _⟩
  | some s => exact ⟨s.A, s.c, rfl, (h s rfl).1⟩
end
end Go.Proofs.YthbcfamfaicneaaGreat.E

/- Credentials as clauses, as the program tells them: walked. -/
namespace Go.Proofs.YthbcfamfaicneaaGreat.E
open Go Go.RowKit Go.Proofs
attribute [local irreducible] TK TL TQ TA TB Fn PV
def outA (b2 : Nat) (pre : List Cl) : HP := fun m => ∃ p : Option Addr × Nat, sep (row b2 [.slice p.1 pre.length p.2] 41) (own 57 3 (.slice p.1 pre.length p.2) pre.length (clsC pre)) m
theorem clsC1_one (l : List Cl) : ∀ u ∈ clsC l, u.oneCell' = true := by
  intro u hu
  obtain ⟨c, _, hc⟩ := List.mem_flatMap.1 hu
  simp only [Cl.cells, List.mem_cons, List.not_mem_nil, or_false] at hc
  rcases hc with rfl | rfl | rfl <;> rfl
theorem onesC_len (c : Cr) : (onesC c).length ≤ 4 := by
  unfold onesC
  split
  · rw [List.length_map]; exact Nat.le_trans (List.length_filter_le _ _) (by simp)
  · exact Nat.zero_le _
theorem credsC_snoc {l : List Cr} {i : Nat} {x : Cr} (h : l[i]? = some x) : credsC (l.take (i + 1)) = credsC (l.take i) ++ onesC x := by
  unfold credsC
  rw [List.take_add_one, h]
  simp
theorem credsC_len : ∀ l : List Cr, (credsC l).length ≤ l.length * 4
  | [] => Nat.le_refl _
  | c :: l => by
    have h1 := credsC_len l
    have h2 := onesC_len c
    unfold credsC at h1 ⊢
    rw [List.flatMap_cons, List.length_append, List.length_cons, Nat.succ_mul]; omega
theorem Cl.ok_subs {c : Cl} {Γ Δ : List HP} (hs : Γ.Sublist Δ) (h : c.ok Γ) : c.ok Δ := ⟨Atm.ok_subs hs h.1, has_sublist (up_src _ _ _ _) hs h.2.1, h.2.2.1, fun x hx => Atm.ok_subs hs (h.2.2.2 x hx)⟩
end Go.Proofs.YthbcfamfaicneaaGreat.E

/- The model of what credentials say. -/
namespace Go.Proofs.YthbcfamfaicneaaGreat.E
open Go Go.RowKit Go.Proofs
attribute [local irreducible] TK TL TQ TA TB Fn PV
theorem one_body {x : Cr} {k : Nat} {C : PC} (h : OneIs x k C) : C.2.2.length ≤ max x.r.l.length 1 := by
  cases h with
  | rule => show (List.map _ x.r.l).length ≤ _; rw [List.length_map]; omega
  | give => show 1 ≤ _; omega
theorem creds_body {l : List Cr} {L : List Cl} (hL : L.map pureC = credsC l) (hs : ∀ x ∈ l, x.r.l.length ≤ 2) : ∀ c ∈ L, c.l.length ≤ 2 := by
  intro c hc
  have : pureC c ∈ credsC l := by rw [← hL]; exact List.mem_map_of_mem hc
  obtain ⟨x, hx, _, k, _, h⟩ := creds_iff.1 this
  have h1 := one_body h
  have h2 : (pureC c).2.2.length = c.l.length := List.length_map ..
  have h3 := hs x hx
  omega
theorem pow_two {n b : Nat} (h : n ≤ 2) (hb : b ≤ 1001) : b ^ n ≤ 1000000000 := by
  have h1 : b ^ n ≤ 1001 ^ n := Nat.pow_le_pow_left hb n
  have h2 : 1001 ^ n ≤ 1001 ^ 2 := Nat.pow_le_pow_right (by decide) h
  have h3 : 1001 ^ 2 ≤ 1000000000 := by decide
  omega
/-- What the document's model gives of what credentials say. -/
def ModIs (l : List Cr) (most : Nat) (Γ : List HP) (v : Value) (Γ' : List HP) : Prop := Γ.Sublist Γ' ∧ ((∃ (R : List Fct) (A : Option Addr) (k : Nat), v = .tuple #[.slice A R.length k, .int .i64 0] ∧ Fcs A R Γ' ∧ Srt (R.map pf) ∧ R.length ≤ most ∧ ∀ x, x ∈ R.map pf ↔ Said (credsC l) x) ∨
      (v = .tuple #[.slice none 0 0, .int .i64 6] ∧ ∃ M, Srt M ∧ (∀ x ∈ M, Said (credsC l) x) ∧ most < M.length))
theorem model_t (l : List Cr) (L : List Cl) (B : Option Addr) (k : Nat) (most : Nat) (Γ : List HP) (hok : clsOk B L Γ) (hLk : L.length ≤ k) (hL : L.map pureC = credsC l) (hl : l.length ≤ 50) (hs : ∀ x ∈ l, x.r.l.length ≤ 2) (hm : most ≤ 1000) :
    FnV Tryz.prog 13 [.slice B L.length k, .slice none 0 0, .int .i64 (most : Int)] Γ fun v Γ' => ModIs l most Γ v Γ' := by
  have hb := creds_body hL hs
  have hLl : L.length ≤ 200 := by
    have h1 := congrArg List.length hL
    have h2 := credsC_len l
    rw [List.length_map] at h1
    omega
  have hall := allA_bound (l := L) fun c hc => by have := hb c hc; omega
  refine Fn.mono (ref15_t B none k 0 L [] most Γ hok hLk (by omega) (by omega) (Fcs.nil _) (by decide) (by omega) fun c hc _ => pow_two (hb c hc) (by omega)) ?_
  rintro e Γ' ⟨v, rfl, h⟩
  exact ⟨v, rfl, creds_model hL (by omega) h⟩
end Go.Proofs.YthbcfamfaicneaaGreat.E

/- A credential's clause of a depth, as the document tells it: walked. -/
namespace Go.Proofs.YthbcfamfaicneaaGreat.E
open Go Go.RowKit Go.Proofs
attribute [local irreducible] TK TL TQ TA TB Fn PV
def zeroCl : Cl := ⟨⟨0, none, 0, []⟩, none, 0, []⟩
theorem zeroCl_ok (Γ : List HP) : zeroCl.ok Γ := ⟨⟨has_srcnil _ _, Nat.le_refl _⟩, has_srcnil _ _, Nat.le_refl _, fun x hx => by cases hx⟩
theorem said_no {p : Nat} {l : List Tm} {d : Int} (h : d < 0) : saidB p l d = false := by
  unfold saidB predS
  split
  · rfl
  · rw [if_neg (by decide), if_pos (.inl h)]; rfl
set_option maxRecDepth 100000 in
set_option maxHeartbeats 16000000 in
theorem rone_t (X : List HP) (c : Cr) (k : Nat) (Γ : List HP) (hk : k ≤ 3) (hc : c.ok Γ) (hf : c.few) (hm : mayCr c = true) :
    FnV Tryz.prog 48 [.agg c.cells.toArray, .int .i64 (k : Int)] (X ++ Γ) fun v Γ' => ∃ (C : Cl) (N : List HP), v = .tuple #[.agg C.cells.toArray, .bool (oneB c k)] ∧ Γ' = N ++ (X ++ Γ) ∧ C.ok (N ++ Γ) ∧ C.small ∧ C.l.length ≤ 30 ∧ (oneB c k = true → pureC C = oneC c k) := by
  refine Fn.enter Tryz.func48 rfl rfl rfl fun E => ?_
  refine m_run ?_
  (apply TL.box; exact rfl; exact rfl; exact (rfl : _ = c.cells))
  intro b2
  (apply TL.alloc; exact rfl; exact tb rfl; exact (rfl : _ = [_, _, _]))
  intro b4
  refine TL.imp (Δ := row b4 zeroCl.cells 57 :: crRow b2 c :: (X ++ Γ)) (fun _ h => h) ?_
  refine m_run ?_
  (apply TL.pv; exact rfl; (apply PV.build tabs; exact rfl; exact rfl; exact rfl; exact rfl; exact rfl; exact (rfl : _ = tmC ⟨false, c.iss⟩)))
  (apply TL.alloc; exact rfl; exact tb rfl; (exact m_lst))
  intro b6
  refine m_rrun ?_
  refine TL.nil ?_
  refine TK.imp (Δ := row b6 (tmC ⟨false, c.iss⟩) 27 :: row b4 zeroCl.cells 57 :: crRow b2 c :: (X ++ Γ)) (fun _ h => h) ?_
  have hbt : has (row b6 (tmC ⟨false, c.iss⟩) 27 :: row b4 zeroCl.cells 57 :: crRow b2 c :: (X ++ Γ)) (fun m => cellsAt m b6 0 (tmC ⟨false, c.iss⟩)) := has_rows 0 rfl rfl
  rcases mayCr_kind hm with ⟨h1, hr⟩ | ⟨h2, hg⟩
  · have hne : ¬ c.kind = 2 := by rw [h1]; decide
    obtain ⟨hbody, _, _⟩ := ruleB_of hr
    have hB : oneB c k = (saidB c.r.h.a.p c.r.h.a.l k && c.r.l.all fun x => flatB x.y k) := by unfold oneB; rw [if_neg hne]
    have hC : oneC c k = ((saidP c.r.h.a.p ⟨false, c.iss⟩ c.r.h.a.l k).1, (saidP c.r.h.a.p ⟨false, c.iss⟩ c.r.h.a.l k).2, c.r.l.map fun x => (false, (flatP x.y k).1, (flatP x.y k).2)) := by unfold oneC; rw [if_neg hne]
    rw [hB, hC]
    clear hB hC
    have hbA : has (row b6 (tmC ⟨false, c.iss⟩) 27 :: row b4 zeroCl.cells 57 :: crRow b2 c :: (X ++ Γ)) (fun m => cellsAt m b2 8 [.int .u32 (c.r.h.a.p : Int), .slice c.r.h.a.A c.r.h.a.l.length c.r.h.a.c]) := has_rows 2 rfl rfl
    refine m_run ?_
    (apply TL.pv; exact rfl; (apply PV.build tabs; exact rfl; exact rfl; exact rfl; exact rfl; exact rfl; exact (rfl : _ = Sy.cells ⟨true, ⟨false, c.iss⟩, c.r.h.a⟩)))
    refine m_run ?_
    (apply TL.callV; exact rfl; exact callB_of (by kernel_rfl); exact rfl; exact fun _ h => h)
    exact rsflat_t ⟨false, c.iss⟩ c.r.h.a k _ (Atm.ok_tl (Atm.ok_tl (Atm.ok_tl (Atm.ok_subs (List.sublist_append_right X Γ) hc.1)))) (by have := hf.2.1; omega)
    rintro _ _ ⟨hp, HB, Hk, HT, hHk, hHl, hHE, rfl, rfl⟩
    generalize saidB c.r.h.a.p c.r.h.a.l k = hb at *
    refine m_run ?_
    (apply TL.alloc; exact rfl; exact tb rfl; (exact m_lst))
    intro b7
    refine m_run ?_
    (apply TL.pv; exact rfl; (apply PV.build tabs; exact rfl; exact rfl; exact rfl; exact rfl; exact rfl; exact (rfl : _ = ([.int .u32 (hp : Int), .slice HB HT.length Hk, .slice none 0 0] : List Value))))
    (apply TL.alloc; exact rfl; exact tb rfl; (exact m_lst))
    intro b9
    refine m_run ?_
    refine TK.free (H := own 110 3 (.slice none 0 0) 0 []) (fun m hm => own_nil _ _ hm) ?_
    have hh0 : Atm.ok ⟨hp, HB, Hk, HT⟩ ([row b7 [.int .u32 (hp : Int), .slice HB HT.length Hk] 30, ownTm HB Hk HT, row b6 (tmC ⟨false, c.iss⟩) 27] ++ Γ) := ⟨has_at (up_src _ _ _ _) 1 rfl fun _ h => own_src h, hHk⟩
    have hN : Γ.Sublist ([row b7 [.int .u32 (hp : Int), .slice HB HT.length Hk] 30, ownTm HB Hk HT, row b6 (tmC ⟨false, c.iss⟩) 27] ++ Γ) := List.sublist_append_right _ _
    refine TK.imp (Δ := own 110 3 (.slice none 0 0) 0 [] :: row b9 [.int .u32 (hp : Int), .slice HB HT.length Hk, .slice none 0 0] 57 :: row b4 zeroCl.cells 57 :: crRow b2 c :: ([row b7 [.int .u32 (hp : Int), .slice HB HT.length Hk] 30, ownTm HB Hk HT, row b6 (tmC ⟨false, c.iss⟩) 27] ++ (X ++ Γ))) (fun m hm => all_perm (.cons _ (.cons _ (List.perm_append_comm_assoc [_, _, _] [_, _] (X ++ Γ)))) hm) ?_
    have hHl' : HT.length ≤ 31 := by have := hf.2.1; omega
    generalize [row b7 [.int .u32 (hp : Int), .slice HB HT.length Hk] 30, ownTm HB Hk HT, row b6 (tmC ⟨false, c.iss⟩) 27] = N0 at *
    clear hbA hbt
    have hrl : c.r.l.length ≤ 30 := hf.1
    apply TK.iter (fun j ρ' Γ' => ∃ (q : Nat) (LT : List Lt) (LB : Option Addr) (Lk : Nat) (M : List HP), q + j = c.r.l.length ∧ LT.length = q ∧ q ≤ Lk ∧ (∀ x ∈ LT, x.a.ok (M ++ (N0 ++ Γ)) ∧ x.a.l.length ≤ 31) ∧ ((c.r.l.take q).all (fun x => flatB x.y k) = true → LT.map pureL = (c.r.l.take q).map fun x => (false, (flatP x.y k).1, (flatP x.y k).2)) ∧ lk ρ' 1 = .int .i64 (k : Int) ∧ lk ρ' 2 = .pointer (some ⟨b2, 0, none⟩) ∧ lk ρ' 4 = .pointer (some ⟨b4, 0, none⟩) ∧ lk ρ' 8 = .bool (hb && (c.r.l.take q).all fun x => flatB x.y k) ∧ lk ρ' 9 = .pointer (some ⟨b9, 0, none⟩) ∧ lk ρ' 10 = .int .i64 (q : Int) ∧ Γ' = own 110 3 (.slice LB q Lk) q (ltsC LT) :: row b9 [.int .u32 (hp : Int), .slice HB HT.length Hk, .slice LB q Lk] 57 :: row b4 zeroCl.cells 57 :: crRow b2 c :: (M ++ (N0 ++ (X ++ Γ)))) c.r.l.length
    · exact ⟨0, [], none, 0, [], Nat.zero_add _, rfl, Nat.le_refl _, fun x hx => (List.not_mem_nil hx).elim, fun _ => rfl, rfl, rfl, rfl, congrArg Value.bool (by simp), rfl, rfl, rfl⟩
    rintro j IH ρ5 _ ⟨q, LT, LB, Lk, M, hqj, hLl, hLk, hLo, hLT, e1, e2, e4, e8, e9, e10, rfl⟩
    by_cases hq : q < c.r.l.length
    · obtain ⟨x, hx⟩ : ∃ x, c.r.l[q]? = some x := ⟨c.r.l[q], List.getElem?_eq_getElem hq⟩
      have hxm := List.mem_of_getElem? hx
      have htk : c.r.l.take (q + 1) = c.r.l.take q ++ [x] := by rw [List.take_add_one, hx]; rfl
      have hrM : Rl.ok c.r (M ++ (N0 ++ (X ++ Γ))) := Rl.ok_subs (((List.sublist_append_right X Γ).trans (List.sublist_append_right N0 _)).trans (List.sublist_append_right M _)) hc
      have hsr := hrM.2.1
      refine TK.mem fun m0 hm0 => ?_
      obtain ⟨g, u, hg⟩ := src_some ((has_tls (has_tls (has_tls (has_tls hsr))) : has (_ :: _ :: _ :: _ :: (M ++ (N0 ++ (X ++ Γ)))) _) m0 hm0) (by rw [cdsC_len]; omega)
      clear hm0 m0
      rw [hg] at hsr
      have hel := has_el (sz := 6) (f := Cd.cells) (fun _ => rfl) (by decide) hsr hx
      have hxs := (hbody x hxm).2
      have hxo := hrM.2.2.2 x hxm
      have hxl := hf.2.2 x hxm
      obtain ⟨xno, ⟨xs, xw, xa⟩⟩ := x
      replace hxs : xs = true := hxs
      subst hxs
      replace hxo : xa.ok (M ++ (N0 ++ (X ++ Γ))) := hxo
      replace hxl : xa.l.length ≤ 30 := hxl
      have hsy : has (M ++ (N0 ++ (X ++ Γ))) (fun m => cellsAt m g (u + q * 6 + 1) [.bool true, .bool xw.v, .int .u32 (xw.n : Int), .int .u32 (xa.p : Int), .slice xa.A xa.l.length xa.c]) := has_imp hel fun m hm i v hv => by
        have := hm (i + 1) v hv
        rwa [show u + q * 6 + (i + 1) = u + q * 6 + 1 + i by omega] at this
      have hfB : flatB ⟨true, xw, xa⟩ k = saidB xa.p xa.l k := flatB_said rfl _
      have hfP : ((flatP ⟨true, xw, xa⟩ k).1, (flatP ⟨true, xw, xa⟩ k).2) = saidP xa.p xw xa.l k := flatP_said rfl _
      have hb2 : has (own 110 3 (.slice LB q Lk) q (ltsC LT) :: row b9 [.int .u32 (hp : Int), .slice HB HT.length Hk, .slice LB q Lk] 57 :: row b4 zeroCl.cells 57 :: crRow b2 c :: (M ++ (N0 ++ (X ++ Γ)))) (fun m => cellAt m b2 10 (.slice (some ⟨g, u, none⟩) c.r.l.length c.r.c)) := by
        rw [← hg]; exact has_imp (has_rows (vs := c.cells) 3 rfl rfl) fun m hm => by have := hm 10 _ rfl; simpa using this
      refine TK.know6 e1 e2 e4 e8 e9 e10 ?_
      generalize hbb : (hb && (c.r.l.take q).all fun x => flatB x.y k) = bb at *
      refine m_run ?_
      (apply TL.callV; exact rfl; exact callB_of (by kernel_rfl); exact rfl; exact fun _ h => h)
      exact rsflat_t xw xa k _ (Atm.ok_tl (Atm.ok_tl (Atm.ok_tl (Atm.ok_tl hxo)))) (by omega)
      rintro _ _ ⟨xp, AB, Ak, XT, hAk, hXl, hXE, rfl, rfl⟩
      refine m_run ?_
      (apply TL.alloc; exact rfl; exact tb rfl; (exact m_lst))
      intro b11
      refine m_run ?_
      refine TL.cut (I := fun ρ' Γ' => lk ρ' 1 = .int .i64 (k : Int) ∧ lk ρ' 2 = .pointer (some ⟨b2, 0, none⟩) ∧ lk ρ' 4 = .pointer (some ⟨b4, 0, none⟩) ∧ lk ρ' 8 = .bool (bb && saidB xa.p xa.l k) ∧ lk ρ' 9 = .pointer (some ⟨b9, 0, none⟩) ∧ lk ρ' 10 = .int .i64 (q : Int) ∧ lk ρ' 11 = .pointer (some ⟨b11, 0, none⟩) ∧ Γ' = row b11 [.int .u32 (xp : Int), .slice AB XT.length Ak] 30 :: ownTm AB Ak XT :: own 110 3 (.slice LB q Lk) q (ltsC LT) :: row b9 [.int .u32 (hp : Int), .slice HB HT.length Hk, .slice LB q Lk] 57 :: row b4 zeroCl.cells 57 :: crRow b2 c :: (M ++ (N0 ++ (X ++ Γ)))) ?_ ?_
      · intro k' hk'
        cases bb with
        | false =>
          refine m_run ?_
          exact hk' _ _ ⟨rfl, rfl, rfl, rfl, rfl, rfl, rfl, rfl⟩
        | true =>
          refine m_run ?_
          exact hk' _ _ ⟨rfl, rfl, rfl, rfl, rfl, rfl, rfl, rfl⟩
      rintro ρ6 _ ⟨e1, e2, e4, e8, e9, e10, e11, rfl⟩
      refine TK.know7 e1 e2 e4 e8 e9 e10 e11 ?_
      have hb11 : has (row b11 [.int .u32 (xp : Int), .slice AB XT.length Ak] 30 :: ownTm AB Ak XT :: own 110 3 (.slice LB q Lk) q (ltsC LT) :: row b9 [.int .u32 (hp : Int), .slice HB HT.length Hk, .slice LB q Lk] 57 :: row b4 zeroCl.cells 57 :: crRow b2 c :: (M ++ (N0 ++ (X ++ Γ)))) (fun m => cellsAt m b11 0 [.int .u32 (xp : Int), .slice AB XT.length Ak]) := has_rows 0 rfl rfl
      refine m_run ?_
      (apply TL.pv; exact rfl; (apply PV.build tabs; exact rfl; exact rfl; exact rfl; exact rfl; exact rfl; exact (rfl : _ = Lt.cells ⟨false, ⟨xp, AB, Ak, XT⟩⟩)))
      (apply TL.buildSlice (l := ltsC [⟨false, ⟨xp, AB, Ak, XT⟩⟩]); exact rfl; exact tb rfl; exact rfl; exact tb rfl; exact rfl; exact rfl; exact rfl; exact rfl; exact rfl)
      intro b66
      refine m_run ?_
      (apply TL.append 3 (n := q) (m := 1) (cs := ltsC LT) (news := ltsC [⟨false, ⟨xp, AB, Ak, XT⟩⟩]); exact rfl; exact rfl; exact tb rfl; exact rfl; exact tb rfl; exact rfl; exact rfl; exact rfl)
      · exact fun _ h => h
      · exact rfl
      · exact has_src_row 0 rfl rfl
      · exact ltsC_one _
      · show (q + 1) * 40 ≤ _; omega
      · show q + 1 ≤ maxLen; unfold maxLen; omega
      · exact fun _ => (rfl : _ = _ :: _ :: _ :: _ :: _)
      intro LB2 Lk2 hLk2
      rw [show ltsC LT ++ ltsC [⟨false, ⟨xp, AB, Ak, XT⟩⟩] = ltsC (LT ++ [⟨false, ⟨xp, AB, Ak, XT⟩⟩]) by simp]
      refine m_run ?_
      refine TK.perm (Δ := own 110 3 (.slice LB2 (q + 1) Lk2) (q + 1) (ltsC (LT ++ [⟨false, ⟨xp, AB, Ak, XT⟩⟩])) :: row b9 [.int .u32 (hp : Int), .slice HB HT.length Hk, .slice LB2 (q + 1) Lk2] 57 :: row b4 zeroCl.cells 57 :: crRow b2 c :: (([row b66 (ltsC [⟨false, ⟨xp, AB, Ak, XT⟩⟩]) 110, row b11 [.int .u32 (xp : Int), .slice AB XT.length Ak] 30, ownTm AB Ak XT] ++ M) ++ (N0 ++ (X ++ Γ)))) (List.perm_append_comm_assoc [_, _, _] [_, _, _, _] _) ?_
      refine IH (j - 1) _ _ (by omega) ⟨q + 1, LT ++ [⟨false, ⟨xp, AB, Ak, XT⟩⟩], LB2, Lk2, _, by omega, by simp [hLl], hLk2, fun y hy => ?_, fun hall => ?_, rfl, rfl, rfl, congrArg Value.bool ?_, rfl, congrArg (Value.int .i64) (i64_succ q (by omega)), rfl⟩
      · rcases List.mem_append.1 hy with h1 | h1
        · exact ⟨Atm.ok_subs (.cons _ (.cons _ (.cons _ (.refl _)))) (hLo y h1).1, (hLo y h1).2⟩
        · rw [List.mem_singleton.1 h1]
          exact ⟨⟨has_at (up_src _ _ _ _) 2 rfl fun _ h => own_src h, hAk⟩, by show XT.length ≤ 31; omega⟩
      · rw [htk, List.all_append, Bool.and_eq_true] at hall
        have h2 : saidB xa.p xa.l k = true := by
          have := hall.2
          simp only [List.all_cons, List.all_nil, Bool.and_true] at this
          rw [← hfB]; exact this
        have h3 := hXE h2
        rw [← hfP] at h3
        rw [List.map_append, hLT hall.1, htk, List.map_append]
        show _ ++ [(false, xp, XT)] = _ ++ [(false, (flatP ⟨true, xw, xa⟩ k).1, (flatP ⟨true, xw, xa⟩ k).2)]
        injection h3 with h4 h5
        rw [h4, h5]
      · rw [htk, List.all_append, ← Bool.and_assoc, hbb]
        simp only [List.all_cons, List.all_nil, Bool.and_true]
        rw [hfB]
    obtain rfl : q = c.r.l.length := by omega
    rw [List.take_length] at hLT e8
    clear IH
    refine TK.know6 e1 e2 e4 e8 e9 e10 ?_
    have hb9 : has (own 110 3 (.slice LB c.r.l.length Lk) c.r.l.length (ltsC LT) :: row b9 [.int .u32 (hp : Int), .slice HB HT.length Hk, .slice LB c.r.l.length Lk] 57 :: row b4 zeroCl.cells 57 :: crRow b2 c :: (M ++ (N0 ++ (X ++ Γ)))) (fun m => cellsAt m b9 0 [.int .u32 (hp : Int), .slice HB HT.length Hk, .slice LB c.r.l.length Lk]) := has_rows 1 rfl rfl
    refine m_run ?_
    have hcells : ([.int .u32 (hp : Int), .slice HB HT.length Hk, .slice LB c.r.l.length Lk] : List Value) = Cl.cells ⟨⟨hp, HB, Hk, HT⟩, LB, Lk, LT⟩ := by simp [Cl.cells, hLl]
    refine TK.retSub (Δ := own 110 3 (.slice LB c.r.l.length Lk) c.r.l.length (ltsC LT) :: (M ++ (N0 ++ (X ++ Γ)))) (fun R' hR' => TK.rets rfl rfl (.cons (.agg (vs := [.int .u32 (hp : Int), .slice HB HT.length Hk, .slice LB c.r.l.length Lk]) rfl (tb rfl) rfl rfl (has_rows 2 rfl rfl)) (.cons (.tmp rfl) .nil)) (hR' _ (by (repeat (first | exact List.Sublist.refl _ | apply List.Sublist.cons_cons | apply List.Sublist.cons))))) ⟨_, rfl, ⟨⟨hp, HB, Hk, HT⟩, LB, Lk, LT⟩, own 110 3 (.slice LB c.r.l.length Lk) c.r.l.length (ltsC LT) :: (M ++ N0), by rw [← hcells]; rfl, by simp, ?_, ?_, ?_, ?_⟩
    · rw [show own 110 3 (.slice LB c.r.l.length Lk) c.r.l.length (ltsC LT) :: (M ++ N0) ++ Γ = own 110 3 (.slice LB c.r.l.length Lk) c.r.l.length (ltsC LT) :: (M ++ (N0 ++ Γ)) by simp]
      refine ⟨Atm.ok_subs (.cons _ (List.sublist_append_right _ _)) hh0, ?_, ?_, fun x hx => Atm.ok_tl (hLo x hx).1⟩
      · show has _ (srcAt 3 LB LT.length (ltsC LT))
        rw [hLl]
        exact has_at (up_src _ _ _ _) 0 rfl fun _ h => own_src h
      · show LT.length ≤ Lk; omega
    · exact ⟨by show LT.length ≤ _; omega, by show HT.length ≤ _; omega, fun x hx => by have := (hLo x hx).2; omega⟩
    · show LT.length ≤ 30; omega
    · intro hall
      rw [Bool.and_eq_true] at hall
      have h3 := hHE hall.1
      show (hp, HT, LT.map pureL) = _
      rw [hLT hall.2, ← h3]
  · obtain ⟨a0, a6, d0, d3⟩ := giveB_of hg
    obtain ⟨n, hn⟩ : ∃ n : Nat, c.args = (n : Int) := ⟨c.args.toNat, by omega⟩
    have hn5 : n ≤ 5 := by omega
    have hnn : c.args.toNat = n := by omega
    have hB : oneB c k = (saidB c.p (varsT n) k && saidB c.p (varsT n) (min ((k : Int) - 1) c.dep)) := by unfold oneB; rw [if_pos h2, hnn]
    have hC : oneC c k = ((saidP c.p ⟨false, c.iss⟩ (varsT n) k).1, (saidP c.p ⟨false, c.iss⟩ (varsT n) k).2, [(false, (saidP c.p ⟨false, c.to⟩ (varsT n) (min ((k : Int) - 1) c.dep)).1, (saidP c.p ⟨false, c.to⟩ (varsT n) (min ((k : Int) - 1) c.dep)).2)]) := by unfold oneC; rw [if_pos h2, hnn]
    rw [hB, hC]
    clear hB hC
    by_cases hk0 : k = 0
    · subst hk0
      have hf : (saidB c.p (varsT n) ((0 : Nat) : Int) && saidB c.p (varsT n) (min (((0 : Nat) : Int) - 1) c.dep)) = false := by
        rw [said_no (d := min (((0 : Nat) : Int) - 1) c.dep) (by omega), Bool.and_false]
      rw [hf]
      refine m_run ?_
      (apply TL.pv; exact rfl; (apply PV.build tabs; exact rfl; exact rfl; exact rfl; exact rfl; exact rfl; exact (rfl : _ = zeroCl.cells)))
      refine m_run ?_
      refine TK.retSub (Δ := X ++ Γ) (fun R' hR' => TK.rets rfl rfl (.cons (.agg (vs := zeroCl.cells) rfl (tb rfl) rfl rfl (has_rows 1 rfl rfl)) (.cons (.tmp rfl) .nil)) (hR' _ (by (repeat (first | exact List.Sublist.refl _ | apply List.Sublist.cons_cons | apply List.Sublist.cons))))) ⟨_, rfl, zeroCl, [], rfl, rfl, zeroCl_ok _, ⟨Nat.zero_le _, Nat.zero_le _, fun x hx => by cases hx⟩, Nat.zero_le _, fun h => by cases h⟩
    refine m_run ?_
    refine TK.free (H := ownTm none 0 (varsT 0)) (fun m hm => own_nil _ _ hm) ?_
    apply TK.iter (fun j ρ' Γ' => ∃ (i : Nat) (B : Option Addr) (kk : Nat) (N : List HP), i + j = n ∧ i ≤ kk ∧ lk ρ' 1 = .int .i64 (k : Int) ∧ lk ρ' 2 = .pointer (some ⟨b2, 0, none⟩) ∧ lk ρ' 4 = .pointer (some ⟨b4, 0, none⟩) ∧ lk ρ' 6 = .pointer (some ⟨b6, 0, none⟩) ∧ lk ρ' 13 = .slice B i kk ∧ lk ρ' 14 = .int .i64 (i : Int) ∧ Γ' = own 27 2 (.slice B i kk) i (tmsC (varsT i)) :: row b6 (tmC ⟨false, c.iss⟩) 27 :: row b4 zeroCl.cells 57 :: crRow b2 c :: (N ++ (X ++ Γ))) n
    · exact ⟨0, none, 0, [], Nat.zero_add _, Nat.le_refl _, rfl, rfl, rfl, rfl, rfl, rfl, rfl⟩
    rintro j IH ρ' _ ⟨i, B, kk, N, hij, hik, e1, e2, e4, e6, e13, e14, rfl⟩
    refine TK.know6 e1 e2 e4 e6 e13 e14 ?_
    by_cases hi : i < n
    · have hvs : tmsC (varsT i) ++ tmC ⟨true, i⟩ = tmsC (varsT (i + 1)) := by unfold varsT; rw [List.range_succ]; simp
      refine m_run ?_
      refine TL.know (t := 82) (v := .int .u32 (i : Int)) (congrArg (Value.int .u32) (u32_in (by omega) (by omega))) ?_
      (apply TL.pv; exact rfl; (apply PV.build tabs; exact rfl; exact rfl; exact rfl; exact rfl; exact rfl; exact (rfl : _ = tmC ⟨true, i⟩)))
      (apply TL.buildSlice (l := tmC ⟨true, i⟩); exact rfl; exact tb rfl; exact rfl; exact tb rfl; exact rfl; exact rfl; exact rfl; exact rfl; exact rfl)
      intro b84
      refine m_run ?_
      (apply TL.append 1 (n := i) (m := 1) (cs := tmsC (varsT i)) (news := tmC ⟨true, i⟩); exact rfl; exact rfl; exact tb rfl; exact rfl; exact tb rfl; exact rfl; exact rfl; exact rfl)
      · exact fun _ h => h
      · exact rfl
      · exact has_src_row 0 rfl rfl
      · exact tmsC_one [_]
      · show (i + 1) * 8 ≤ _; omega
      · show i + 1 ≤ maxLen; unfold maxLen; omega
      · exact fun _ => (rfl : _ = _ :: _ :: _)
      intro B2 k2 hk2
      rw [hvs]
      refine m_run ?_
      refine TK.perm (Δ := own 27 2 (.slice B2 (i + 1) k2) (i + 1) (tmsC (varsT (i + 1))) :: row b6 (tmC ⟨false, c.iss⟩) 27 :: row b4 zeroCl.cells 57 :: crRow b2 c :: (([row b84 (tmC ⟨true, i⟩) 27] ++ N) ++ (X ++ Γ))) (List.perm_append_comm_assoc [_] [_, _, _, _] _) ?_
      exact IH (j - 1) _ _ (by omega) ⟨i + 1, B2, k2, _, by omega, hk2, rfl, rfl, rfl, rfl, rfl, congrArg (Value.int .i64) (i64_succ i (by omega)), rfl⟩
    obtain rfl : i = n := by omega
    clear IH
    have hvl : (varsT i).length = i := by simp [varsT]
    generalize hTT : varsT i = T at *
    subst hvl
    have hbt2 : has (own 27 2 (.slice B T.length kk) T.length (tmsC T) :: row b6 (tmC ⟨false, c.iss⟩) 27 :: row b4 zeroCl.cells 57 :: crRow b2 c :: (N ++ (X ++ Γ))) (fun m => cellsAt m b6 0 (tmC ⟨false, c.iss⟩)) := has_rows 1 rfl rfl
    have hT : has (own 27 2 (.slice B T.length kk) T.length (tmsC T) :: row b6 (tmC ⟨false, c.iss⟩) 27 :: row b4 zeroCl.cells 57 :: crRow b2 c :: (N ++ (X ++ Γ))) (srcAt 2 B T.length (tmsC T)) := has_at (up_src _ _ _ _) 0 rfl fun _ h => own_src h
    refine m_run ?_
    (apply TL.pv; exact rfl; (apply PV.build tabs; exact rfl; exact rfl; exact rfl; exact rfl; exact rfl; exact (rfl : _ = ([.int .u32 (c.p : Int), .slice B T.length kk] : List Value))))
    (apply TL.pv; exact rfl; (apply PV.build tabs; exact rfl; exact rfl; exact rfl; exact rfl; exact rfl; exact (rfl : _ = Sy.cells ⟨true, ⟨false, c.iss⟩, ⟨c.p, B, kk, T⟩⟩)))
    refine m_run ?_
    (apply TL.callV; exact rfl; exact callB_of (by kernel_rfl); exact rfl; exact fun _ h => h)
    exact rsflat_t ⟨false, c.iss⟩ ⟨c.p, B, kk, T⟩ k _ ⟨hT, hik⟩ (by show T.length ≤ 1000; omega)
    rintro _ _ ⟨p1, B1, k1, T1, hk1, hl1, hE1, rfl, rfl⟩
    refine m_run ?_
    (apply TL.alloc; exact rfl; exact tb rfl; (exact m_lst))
    intro b15
    refine m_run ?_
    (apply TL.pv; exact rfl; (apply PV.build tabs; exact rfl; exact rfl; exact rfl; exact rfl; exact rfl; exact (rfl : _ = tmC ⟨false, c.to⟩)))
    refine m_run ?_
    (apply TL.pv; exact rfl; (apply PV.build tabs; exact rfl; exact rfl; exact rfl; exact rfl; exact rfl; exact (rfl : _ = ([.int .u32 (c.p : Int), .slice B T.length kk] : List Value))))
    (apply TL.pv; exact rfl; (apply PV.build tabs; exact rfl; exact rfl; exact rfl; exact rfl; exact rfl; exact (rfl : _ = Sy.cells ⟨true, ⟨false, c.to⟩, ⟨c.p, B, kk, T⟩⟩)))
    refine m_run ?_
    have hmin : (if c.dep < IntKind.i64.wrap ((k : Int) - 1) then c.dep else IntKind.i64.wrap ((k : Int) - 1)) = min ((k : Int) - 1) c.dep := by
      rw [i64_in (by omega) (by omega)]
      split <;> omega
    rw [hmin]
    (apply TL.callV; exact rfl; exact callB_of (by kernel_rfl); exact rfl; exact fun _ h => h)
    exact rsflat_t ⟨false, c.to⟩ ⟨c.p, B, kk, T⟩ (min ((k : Int) - 1) c.dep) _ ⟨has_tls (has_tls hT), hik⟩ (by show T.length ≤ 1000; omega)
    rintro _ _ ⟨p2, B2, k2, T2, hk2, hl2, hE2, rfl, rfl⟩
    replace hE1 : saidB c.p T k = true → (p1, T1) = saidP c.p ⟨false, c.iss⟩ T k := hE1
    replace hE2 : saidB c.p T (min ((k : Int) - 1) c.dep) = true → (p2, T2) = saidP c.p ⟨false, c.to⟩ T (min ((k : Int) - 1) c.dep) := hE2
    refine m_run ?_
    (apply TL.alloc; exact rfl; exact tb rfl; (exact m_lst))
    intro b17
    refine m_run ?_
    have hb15 : has (row b17 [.int .u32 (p2 : Int), .slice B2 T2.length k2] 30 :: ownTm B2 k2 T2 :: row b15 [.int .u32 (p1 : Int), .slice B1 T1.length k1] 30 :: ownTm B1 k1 T1 :: own 27 2 (.slice B T.length kk) T.length (tmsC T) :: row b6 (tmC ⟨false, c.iss⟩) 27 :: row b4 zeroCl.cells 57 :: crRow b2 c :: (N ++ (X ++ Γ))) (fun m => cellsAt m b15 0 [.int .u32 (p1 : Int), .slice B1 T1.length k1]) := has_rows 2 rfl rfl
    have hb17 : has (row b17 [.int .u32 (p2 : Int), .slice B2 T2.length k2] 30 :: ownTm B2 k2 T2 :: row b15 [.int .u32 (p1 : Int), .slice B1 T1.length k1] 30 :: ownTm B1 k1 T1 :: own 27 2 (.slice B T.length kk) T.length (tmsC T) :: row b6 (tmC ⟨false, c.iss⟩) 27 :: row b4 zeroCl.cells 57 :: crRow b2 c :: (N ++ (X ++ Γ))) (fun m => cellsAt m b17 0 [.int .u32 (p2 : Int), .slice B2 T2.length k2]) := has_rows 0 rfl rfl
    refine m_run ?_
    (apply TL.pv; exact rfl; (apply PV.build tabs; exact rfl; exact rfl; exact rfl; exact rfl; exact rfl; exact (rfl : _ = Lt.cells ⟨false, ⟨p2, B2, k2, T2⟩⟩)))
    (apply TL.buildSlice (l := ltsC [⟨false, ⟨p2, B2, k2, T2⟩⟩]); exact rfl; exact tb rfl; exact rfl; exact tb rfl; exact rfl; exact rfl; exact rfl; exact rfl; exact rfl)
    intro b117
    refine m_run ?_
    (apply TL.pv; exact rfl; (apply PV.build tabs; exact rfl; exact rfl; exact rfl; exact rfl; exact rfl; exact (rfl : _ = Cl.cells ⟨⟨p1, B1, k1, T1⟩, some ⟨b117, 0, none⟩, 1, [⟨false, ⟨p2, B2, k2, T2⟩⟩]⟩)))
    generalize saidB c.p T k = sb1 at *
    generalize saidB c.p T (min ((k : Int) - 1) c.dep) = sb2 at *
    refine TL.cut (I := fun ρ' Γ' => lk ρ' 4 = .pointer (some ⟨b4, 0, none⟩) ∧ lk ρ' 5 = .bool (sb1 && sb2) ∧ Γ' = row b117 (ltsC [⟨false, ⟨p2, B2, k2, T2⟩⟩]) 110 :: row b17 [.int .u32 (p2 : Int), .slice B2 T2.length k2] 30 :: ownTm B2 k2 T2 :: row b15 [.int .u32 (p1 : Int), .slice B1 T1.length k1] 30 :: ownTm B1 k1 T1 :: own 27 2 (.slice B T.length kk) T.length (tmsC T) :: row b6 (tmC ⟨false, c.iss⟩) 27 :: row b4 (Cl.cells ⟨⟨p1, B1, k1, T1⟩, some ⟨b117, 0, none⟩, 1, [⟨false, ⟨p2, B2, k2, T2⟩⟩]⟩) 57 :: crRow b2 c :: (N ++ (X ++ Γ))) ?_ ?_
    · intro k' hk'
      cases sb1 with
      | false =>
        refine m_run ?_
        (apply TL.storeAggR 7; exact rfl; exact rfl; exact rfl; exact rfl; exact tb rfl; exact rfl; exact rfl; (exact m_lst); exact (rfl : _ = _ :: _ :: _ :: _ :: _ :: _ :: _ :: _ :: _))
        refine m_run ?_
        exact hk' _ _ ⟨rfl, rfl, rfl⟩
      | true =>
        refine m_run ?_
        (apply TL.storeAggR 7; exact rfl; exact rfl; exact rfl; exact rfl; exact tb rfl; exact rfl; exact rfl; (exact m_lst); exact (rfl : _ = _ :: _ :: _ :: _ :: _ :: _ :: _ :: _ :: _))
        refine m_run ?_
        exact hk' _ _ ⟨rfl, rfl, rfl⟩
    rintro ρ6 _ ⟨e4, e5, rfl⟩
    refine TK.know2 e4 e5 ?_
    refine m_run ?_
    refine TK.retSub (Δ := ([row b117 (ltsC [⟨false, ⟨p2, B2, k2, T2⟩⟩]) 110, row b17 [.int .u32 (p2 : Int), .slice B2 T2.length k2] 30, ownTm B2 k2 T2, row b15 [.int .u32 (p1 : Int), .slice B1 T1.length k1] 30, ownTm B1 k1 T1, own 27 2 (.slice B T.length kk) T.length (tmsC T), row b6 (tmC ⟨false, c.iss⟩) 27, crRow b2 c] ++ N) ++ (X ++ Γ)) (fun R' hR' => TK.rets rfl rfl (.cons (.agg (vs := Cl.cells ⟨⟨p1, B1, k1, T1⟩, some ⟨b117, 0, none⟩, 1, [⟨false, ⟨p2, B2, k2, T2⟩⟩]⟩) rfl (tb rfl) rfl rfl (has_rows 7 rfl rfl)) (.cons (.tmp rfl) .nil)) (hR' _ (by (repeat (first | exact List.Sublist.refl _ | apply List.Sublist.cons_cons | apply List.Sublist.cons))))) ⟨_, rfl, ⟨⟨p1, B1, k1, T1⟩, some ⟨b117, 0, none⟩, 1, [⟨false, ⟨p2, B2, k2, T2⟩⟩]⟩, _, rfl, rfl, ?_, ?_, ?_, ?_⟩
    · have o2 : Atm.ok ⟨p2, B2, k2, T2⟩ (([row b117 (ltsC [⟨false, ⟨p2, B2, k2, T2⟩⟩]) 110, row b17 [.int .u32 (p2 : Int), .slice B2 T2.length k2] 30, ownTm B2 k2 T2, row b15 [.int .u32 (p1 : Int), .slice B1 T1.length k1] 30, ownTm B1 k1 T1, own 27 2 (.slice B T.length kk) T.length (tmsC T), row b6 (tmC ⟨false, c.iss⟩) 27, crRow b2 c] ++ N) ++ Γ) := ⟨has_at (up_src _ _ _ _) 2 rfl fun _ h => own_src h, hk2⟩
      exact ⟨⟨has_at (up_src _ _ _ _) 4 rfl fun _ h => own_src h, hk1⟩, has_src_row 0 rfl rfl, Nat.le_refl _, fun x hx => by rw [List.mem_singleton.1 hx]; exact o2⟩
    · replace hl1 : T1.length ≤ T.length + 1 := hl1
      replace hl2 : T2.length ≤ T.length + 1 := hl2
      exact ⟨by show 1 ≤ _; omega, by show T1.length ≤ _; omega, fun x hx => by rw [List.mem_singleton.1 hx]; show T2.length ≤ _; omega⟩
    · show 1 ≤ 30; decide
    · intro h
      rw [Bool.and_eq_true] at h
      have h3 := hE1 h.1
      have h4 := hE2 h.2
      show (p1, T1, [(false, p2, T2)]) = _
      rw [← h3, ← h4]
end Go.Proofs.YthbcfamfaicneaaGreat.E

/- Credentials as clauses, as the document tells them: walked. -/
namespace Go.Proofs.YthbcfamfaicneaaGreat.E
open Go Go.RowKit Go.Proofs
attribute [local irreducible] TK TL TQ TA TB Fn PV
def onesTo (c : Cr) (k : Nat) : List PC := if mayCr c then ((List.range k).filter fun k => oneB c k).map fun k => oneC c k else []
theorem onesTo_all (c : Cr) : onesTo c 4 = onesC c := rfl
theorem onesTo_no {c : Cr} (h : mayCr c = false) (k : Nat) : onesTo c k = [] := by unfold onesTo; rw [if_neg (by rw [h]; decide)]
theorem onesTo_snoc {c : Cr} (h : mayCr c = true) (k : Nat) : onesTo c (k + 1) = onesTo c k ++ if oneB c k then [oneC c k] else [] := by
  unfold onesTo
  rw [if_pos h, if_pos h, List.range_succ, List.filter_append, List.map_append]
  cases hb : oneB c k <;> simp [hb]
set_option maxRecDepth 100000 in
set_option maxHeartbeats 8000000 in
theorem rcreds_t (A : Option Addr) (cc : Nat) (l : List Cr) (Γ : List HP) (h : Crs A l Γ) (hn : l.length ≤ 1000) :
    FnV Tryz.prog 11 [.slice A l.length cc] Γ fun v Γ' => ∃ (L : List Cl) (B : Option Addr) (k : Nat), v = .slice B L.length k ∧ L.length ≤ k ∧ L.map pureC = credsC l ∧ clsOk B L Γ' ∧ (∀ C ∈ L, C.l.length ≤ 30) ∧ Γ.Sublist Γ' := by
  refine Fn.enter Tryz.func11 rfl rfl rfl fun E => ?_
  refine m_run ?_
  refine TK.free (H := own 57 3 (.slice none 0 0) 0 []) (fun m hm => own_nil _ _ hm) ?_
  apply TK.iter (fun j ρ' Γ' => ∃ (i : Nat) (P : List Cl) (OB : Option Addr) (Ok : Nat) (Γ3 : List HP), i + j = l.length ∧ Γ.Sublist Γ3 ∧ P.length ≤ Ok ∧ P.length ≤ 4 * i ∧ P.map pureC = credsC (l.take i) ∧ (∀ C ∈ P, C.ok Γ3 ∧ C.small ∧ C.l.length ≤ 30) ∧ lk ρ' 0 = .slice A l.length cc ∧ lk ρ' 3 = .slice OB P.length Ok ∧ lk ρ' 4 = .int .i64 (i : Int) ∧ Γ' = own 57 3 (.slice OB P.length Ok) P.length (clsC P) :: Γ3) l.length
  · exact ⟨0, [], none, 0, Γ, Nat.zero_add _, .refl _, Nat.le_refl _, Nat.le_refl _, rfl, fun C hC => (List.not_mem_nil hC).elim, rfl, rfl, rfl, rfl⟩
  rintro j IH ρ' _ ⟨i, P, OB, Ok, Γ3, hij, hs3, hPk, hPl, hP, hPo, e0, e3, e4, rfl⟩
  refine TK.know3 e0 e3 e4 ?_
  by_cases hi : i < l.length
  · obtain ⟨c, hc⟩ : ∃ c, l[i]? = some c := ⟨l[i], List.getElem?_eq_getElem hi⟩
    have hcm := List.mem_of_getElem? hc
    have hco := h.ok c hcm
    have hcf := h.few c hcm
    have hsn := credsC_snoc hc
    refine m_run ?_
    apply TK.iter (fun j ρ' Γ' => ∃ (k : Nat) (P : List Cl) (OB : Option Addr) (Ok : Nat) (Γ3 : List HP), k + j = 4 ∧ Γ.Sublist Γ3 ∧ P.length ≤ Ok ∧ P.length ≤ 4 * i + k ∧ (mayCr c = false → k = 0) ∧ P.map pureC = credsC (l.take i) ++ onesTo c k ∧ (∀ C ∈ P, C.ok Γ3 ∧ C.small ∧ C.l.length ≤ 30) ∧ lk ρ' 0 = .slice A l.length cc ∧ lk ρ' 3 = .slice OB P.length Ok ∧ lk ρ' 4 = .int .i64 (i : Int) ∧ lk ρ' 5 = .int .i64 (k : Int) ∧ Γ' = own 57 3 (.slice OB P.length Ok) P.length (clsC P) :: Γ3) 4
    · refine ⟨0, P, OB, Ok, Γ3, Nat.zero_add _, hs3, hPk, hPl, fun _ => rfl, ?_, hPo, rfl, rfl, rfl, rfl, rfl⟩
      rw [hP]
      unfold onesTo
      split <;> simp
    clear hs3 hPk hPl hP hPo e3
    rintro j' IH2 ρ' _ ⟨k, P, OB, Ok, Γ3, hkj, hs3, hPk, hPl, hk0, hP, hPo, e0, e3, e4, e5, rfl⟩
    refine TK.know4 e0 e3 e4 e5 ?_
    by_cases hk : k < 4
    · have hs := has_tls (K := own 57 3 (.slice OB P.length Ok) P.length (clsC P)) (has_sublist (up_src _ _ _ _) hs3 h.src)
      refine TK.mem fun m0 hm0 => ?_
      obtain ⟨g, u, hg⟩ := src_some (hs m0 hm0) (by rw [crsC_len]; omega)
      clear hm0 m0
      subst hg
      have hel : has (own 57 3 (.slice OB P.length Ok) P.length (clsC P) :: Γ3) (fun m => cellsAt m g (u + i * 15) c.cells) := has_el (sz := 15) (f := Cr.cells) (fun _ => rfl) (by decide) hs hc
      refine m_run ?_
      (apply TL.callV; exact rfl; exact callB_of (by kernel_rfl); exact rfl; exact fun _ h => h)
      exact rcredMay_t c _ (Cr.ok_tl (Cr.ok_sub hs3 hco)) hcf
      rintro _ _ ⟨rfl, rfl⟩
      cases hmay : mayCr c with
      | false =>
        have hn1 := onesTo_no hmay k
        rw [hn1, List.append_nil] at hP
        have hn0 : onesC c = [] := onesTo_no hmay 4
        refine m_run ?_
        exact IH (j - 1) _ _ (by omega) ⟨i + 1, P, OB, Ok, Γ3, by omega, hs3, hPk, by omega, by rw [hsn, hn0, List.append_nil]; exact hP, hPo, rfl, rfl, congrArg (Value.int .i64) (i64_succ i (by omega)), rfl⟩
      | true =>
        refine m_run ?_
        (apply TL.callV; exact rfl; exact callB_of (by kernel_rfl); exact rfl; exact fun _ h => h)
        exact rone_t [own 57 3 (.slice OB P.length Ok) P.length (clsC P)] c k Γ3 (by omega) (Cr.ok_sub hs3 hco) hcf hmay
        rintro _ _ ⟨C, N, rfl, rfl, hCo, hCs, hCl, hCe⟩
        have hsnk := onesTo_snoc hmay k
        refine TL.imp (Δ := own 57 3 (.slice OB P.length Ok) P.length (clsC P) :: (N ++ Γ3)) (fun m hm => all_perm List.perm_middle hm) ?_
        have hs4 : Γ3.Sublist (N ++ Γ3) := List.sublist_append_right _ _
        refine m_run ?_
        (apply TL.alloc; exact rfl; exact tb rfl; (exact m_lst))
        intro b6
        refine m_run ?_
        cases hob : oneB c k with
        | false =>
          rw [hob, if_neg (by decide), List.append_nil] at hsnk
          refine m_run ?_
          refine TK.perm (Δ := own 57 3 (.slice OB P.length Ok) P.length (clsC P) :: (row b6 C.cells 57 :: (N ++ Γ3))) (.swap _ _ _) ?_
          exact IH2 (j' - 1) _ _ (by omega) ⟨k + 1, P, OB, Ok, _, by omega, hs3.trans (.cons _ hs4), hPk, by omega, (fun h => by rw [hmay] at h; cases h), by rw [hsnk]; exact hP, fun C' hC' => ⟨Cl.ok_subs (.cons _ hs4) (hPo C' hC').1, (hPo C' hC').2⟩, rfl, rfl, rfl, congrArg (Value.int .i64) (i64_succ k (by omega)), rfl⟩
        | true =>
          rw [hob, if_pos rfl] at hsnk
          have hb6 : has (row b6 C.cells 57 :: own 57 3 (.slice OB P.length Ok) P.length (clsC P) :: (N ++ Γ3)) (fun m => cellsAt m b6 0 C.cells) := has_rows 0 rfl rfl
          refine m_run ?_
          (apply TL.buildSlice (l := clsC [C]); exact rfl; exact tb rfl; exact rfl; exact tb rfl; exact rfl; exact rfl; exact rfl; exact rfl; exact rfl)
          intro b37
          refine m_run ?_
          (apply TL.append 2 (n := P.length) (m := 1) (cs := clsC P) (news := clsC [C]); exact rfl; exact rfl; exact tb rfl; exact rfl; exact tb rfl; exact rfl; exact rfl; exact rfl)
          · exact fun _ h => h
          · exact rfl
          · exact has_src_row 0 rfl rfl
          · exact clsC1_one _
          · show (P.length + 1) * 56 ≤ _; omega
          · show P.length + 1 ≤ maxLen; unfold maxLen; omega
          · exact fun _ => (rfl : _ = _ :: _ :: _ :: _)
          intro OB2 Ok2 hOk2
          rw [show clsC P ++ clsC [C] = clsC (P ++ [C]) by simp, show P.length + 1 = (P ++ [C]).length by simp]
          rw [show P.length + 1 = (P ++ [C]).length by simp] at hOk2
          refine m_run ?_
          refine TK.perm (Δ := own 57 3 (.slice OB2 (P ++ [C]).length Ok2) (P ++ [C]).length (clsC (P ++ [C])) :: (row b37 (clsC [C]) 57 :: row b6 C.cells 57 :: (N ++ Γ3))) (List.perm_middle (l₁ := [_, _])) ?_
          have hs5 : (N ++ Γ3).Sublist (row b37 (clsC [C]) 57 :: row b6 C.cells 57 :: (N ++ Γ3)) := .cons _ (.cons _ (.refl _))
          refine IH2 (j' - 1) _ _ (by omega) ⟨k + 1, P ++ [C], OB2, Ok2, _, by omega, hs3.trans (hs4.trans hs5), hOk2, by rw [List.length_append, List.length_singleton]; omega, (fun h => by rw [hmay] at h; cases h), by rw [hsnk, List.map_append, hP, List.append_assoc]; exact congrArg (fun z => _ ++ (_ ++ [z])) (hCe hob), fun C' hC' => ?_, rfl, rfl, rfl, congrArg (Value.int .i64) (i64_succ k (by omega)), rfl⟩
          rcases List.mem_append.1 hC' with h1 | h1
          · exact ⟨Cl.ok_subs (hs4.trans hs5) (hPo C' h1).1, (hPo C' h1).2⟩
          · rw [List.mem_singleton.1 h1]
            exact ⟨Cl.ok_subs hs5 hCo, hCs, hCl⟩
    obtain rfl : k = 4 := by omega
    have hmay : mayCr c = true := by
      cases hm : mayCr c with
      | true => rfl
      | false => exact absurd (hk0 hm) (by decide)
    rw [onesTo_all] at hP
    refine m_run ?_
    exact IH (j - 1) _ _ (by omega) ⟨i + 1, P, OB, Ok, Γ3, by omega, hs3, hPk, by omega, by rw [hsn]; exact hP, hPo, rfl, rfl, congrArg (Value.int .i64) (i64_succ i (by omega)), rfl⟩
  obtain rfl : i = l.length := by omega
  rw [List.take_length] at hP
  refine m_run ?_
  refine TK.retSub (Δ := own 57 3 (.slice OB P.length Ok) P.length (clsC P) :: Γ3) (fun R' hR' => TK.rets rfl rfl (.cons (.tmp rfl) .nil) (hR' _ (by (repeat (first | exact List.Sublist.refl _ | apply List.Sublist.cons_cons | apply List.Sublist.cons))))) ⟨_, rfl, P, OB, Ok, rfl, hPk, hP, ⟨has_at (up_src _ _ _ _) 0 rfl fun _ h => own_src h, fun C hC => ⟨Cl.ok_tl (hPo C hC).1, (hPo C hC).2.1⟩⟩, fun C hC => (hPo C hC).2.2, .cons _ hs3⟩
end Go.Proofs.YthbcfamfaicneaaGreat.E

/- A link more, or a deeper one, reaches no fewer: plainly. -/
namespace Go.Proofs.YthbcfamfaicneaaGreat.E
open Go Go.RowKit
namespace Rch
end Rch
theorem of_run {L : List Cr} {a p : Nat} {args : Int} {O : List Nat} (h : OfSpec L a p args O) (v : Nat) : v ∈ O ↔ (predS p args true 0).2 = true ∧ ∃ w t, w.length < 4 ∧ Rch.runW (linksOf L p args) (nxL L) (a, 3) w = some t ∧ t.1 = v := by
  rw [h.2 v]
  refine and_congr_right fun _ => ?_
  constructor
  · rintro ⟨⟨t, w⟩, hs, rfl⟩
    obtain ⟨n, hn, hs⟩ := (Rch.mem_allC _ _).1 hs
    obtain ⟨h1, h2⟩ := (Rch.mem_chs _ _ _ n t w).1 hs
    exact ⟨w, t, by omega, h2, rfl⟩
  · rintro ⟨w, t, h1, h2, rfl⟩
    exact ⟨(t, w), (Rch.mem_allC _ _).2 ⟨_, h1, (Rch.mem_chs _ _ _ _ t w).2 ⟨rfl, h2⟩⟩, rfl⟩
theorem nxL_eq {L : List Cr} {s : Rch.Sp} {i : Nat} {t : Rch.Sp} (h : nxL L s i = some t) : ∃ x, L[i]? = some x ∧ x.iss = s.1 ∧ 0 < s.2 ∧ t = (x.to, min (s.2 - 1) x.dep.toNat) := by
  unfold nxL at h
  split at h
  · rename_i c hc
    split at h
    · rename_i h1
      injection h with h
      exact ⟨c, hc, h1.1, h1.2, h.symm⟩
    · cases h
  · cases h
theorem chain_is {L : List Cr} {a p : Nat} {args : Int} {O : List Nat} (b : Nat) (h : OfSpec L a p args O) : (chainS L a p args b (-1)).isSome = decide (b ∈ O) := by
  unfold chainS
  rw [unskip_no]
  have := h.2 b
  by_cases hp : (predS p args true 0).2 = true
  · rw [if_pos hp, Option.isSome_map, Bool.eq_iff_iff, List.find?_isSome, decide_eq_true_iff, this]
    simp [hp]
  · rw [if_neg hp, Bool.eq_iff_iff, decide_eq_true_iff, this]
    simp [hp]
def dpt (d : Int) : Int := (if (0 : Int) > d then 0 else d).tmod 4
theorem dpt_in (d : Int) : 0 ≤ dpt d ∧ dpt d ≤ 3 := by
  unfold dpt
  have h : (if (0 : Int) > d then 0 else d).tmod 4 = (if (0 : Int) > d then 0 else d) % 4 := Int.tmod_eq_emod_of_nonneg (by split <;> omega)
  rw [h]; omega
def toLk (c : Cr) : Cr := giveC (c.iss % 6) (c.to % 6) 7 (dpt c.dep)
end Go.Proofs.YthbcfamfaicneaaGreat.E

/- Who is reached, is whose word comes to be said: plainly. -/
namespace Go.Proofs.YthbcfamfaicneaaGreat.E
open Go Go.RowKit
def consT (n : Nat) : List Tm := (List.range n).map fun i => ⟨false, i + 50⟩
def consN (n : Nat) : List Nat := (List.range n).map fun i => i + 50
theorem consT_len (n : Nat) : (consT n).length = n := by simp [consT]
/-- A link, and the word, as the law makes them. -/
def lkC (iss ser p n to : Nat) (d : Int) : Cr := ⟨iss, ser, 0, 9, 2, ⟨⟨false, ⟨false, 0⟩, ⟨0, none, 0, []⟩⟩, none, 0, []⟩, p, (n : Int), to, d⟩
def wrdC (b p : Nat) (A : Option Addr) (c n : Nat) : Cr := ⟨b, 100, 0, 9, 1, ⟨⟨false, ⟨false, 0⟩, ⟨p, A, c, consT n⟩⟩, none, 0, []⟩, 0, 0, 0, 0⟩
def LkIs (p n : Nat) (x : Cr) : Prop := ∃ iss ser to d, x = lkC iss ser p n to d ∧ iss < 6 ∧ to < 6 ∧ 0 ≤ d ∧ d ≤ 3
theorem lk_give {p n : Nat} {x : Cr} (h : LkIs p n x) (hn : n ≤ 3) : giveB x = true := by
  obtain ⟨iss, ser, to, d, rfl, _, _, h0, h3⟩ := h
  have e : giveB (lkC iss ser p n to d) = (true && decide ((0 : Int) ≤ (n : Int)) && decide ((n : Int) < 6) && decide (0 ≤ d) && decide (d ≤ 3)) := rfl
  rw [e]
  simp only [Bool.and_eq_true, decide_eq_true_iff]
  exact ⟨⟨⟨⟨trivial, by omega⟩, by omega⟩, h0⟩, h3⟩
theorem lk_may {p n : Nat} {x : Cr} (h : LkIs p n x) (hn : n ≤ 3) : mayCr x = true := by
  have h2 := lk_give h hn
  obtain ⟨iss, ser, to, d, rfl, _, _, h0, h3⟩ := h
  have e : mayCr (lkC iss ser p n to d) = (giveB (lkC iss ser p n to d)) := rfl
  rw [e]; exact h2
theorem lk_link {p n : Nat} {x : Cr} (h : LkIs p n x) (hn : n ≤ 3) (hp : p < 16777216) : linkB p n x = true := by
  have h2 := lk_may h hn
  obtain ⟨iss, ser, to, d, rfl, _, _, h0, h3⟩ := h
  unfold linkB
  rw [h2]
  have := predS_is (n := n) hp (by omega) (Nat.zero_le 3)
  rw [show ((0 : Nat) : Int) = 0 from rfl] at this
  rw [this]
  show (true && decide (p = p) && decide ((n : Int) = (n : Int)) && true && true) = true
  simp
theorem mayA_cons {b n : Nat} (hn : n ≤ 3) : mayA (⟨false, b⟩ :: consT n) = true := by
  unfold mayA
  rw [Bool.and_eq_true, decide_eq_true_iff, List.length_cons, consT_len]
  refine ⟨by omega, ?_⟩
  have : (List.any (⟨false, b⟩ :: consT n) badT) = false := by
    rw [List.any_eq_false]
    intro t ht
    rcases List.mem_cons.1 ht with rfl | ht
    · simp [badT]
    · obtain ⟨j, hj, rfl⟩ := List.mem_map.1 ht
      simp [badT]
  rw [this]; rfl
theorem varsOf_cons {b n : Nat} : varsOf (⟨false, b⟩ :: consT n) = [] := by
  rw [varsOf_cons0]
  refine List.eq_nil_iff_forall_not_mem.2 fun v hv => ?_
  obtain ⟨j, _, hj⟩ := List.mem_map.1 (varsOf_mem.1 hv)
  cases hj
theorem wrd_rule {b p c n : Nat} {A : Option Addr} (hn : n ≤ 3) : ruleB (wrdC b p A c n) = true := by
  have e : ruleB (wrdC b p A c n) = (mayP (p, ⟨false, b⟩ :: consT n, []) && heldP (p, ⟨false, b⟩ :: consT n, [])) := rfl
  rw [e]
  have h1 : mayP (p, ⟨false, b⟩ :: consT n, []) = true := by
    unfold mayP
    rw [mayA_cons hn]; rfl
  have h2 : heldP (p, ⟨false, b⟩ :: consT n, []) = true := by
    unfold heldP heldA
    rw [varsOf_cons]; rfl
  rw [h1, h2]; rfl
theorem wrd_may {b p c n : Nat} {A : Option Addr} (hn : n ≤ 3) : mayCr (wrdC b p A c n) = true := by
  have e : mayCr (wrdC b p A c n) = (true && (ruleB (wrdC b p A c n) || false)) := rfl
  rw [e, wrd_rule hn]; rfl
theorem wrd_one {b p c n k : Nat} {A : Option Addr} (hn : n ≤ 3) (hp : p < 16777216) (hk : k ≤ 3) : OneIs (wrdC b p A c n) k (64 * p + 8 * n + 1 + k, ⟨false, b⟩ :: consT n, []) := by
  have := OneIs.rule (x := wrdC b p A c n) (k := k) rfl (wrd_rule hn) hp (by show (consT n).length < 6; rw [consT_len]; omega) hk (fun y hy => by cases hy)
  have e : (wrdC b p A c n).r.h.a.l.length = n := consT_len n
  rw [e] at this
  exact this
theorem inst_cons (σ : Nat → Nat) (q b n : Nat) : instS σ (q, ⟨false, b⟩ :: consT n) = (q, b :: consN n) := by
  unfold instS consT consN
  simp only [List.map_cons, List.map_map]
  rfl
theorem inst_vars (σ : Nat → Nat) (q b n : Nat) : instS σ (q, ⟨false, b⟩ :: varsT n) = (q, b :: (List.range n).map σ) := by
  unfold instS varsT
  simp only [List.map_cons, List.map_map]
  rfl
/-- What is said, is what is reached. -/
def Rea (L : List Cr) (p n b i k : Nat) : Prop := ∃ w t, Rch.runW (linksOf L p n) (nxL L) (i, k) w = some t ∧ t.1 = b
section
variable {L : List Cr} {p n b c : Nat} {A : Option Addr} (hL : ∀ x ∈ L, LkIs p n x) (hp : p < 16777216) (hn : n ≤ 3)
include hL hp hn
theorem said_rea {x : PF} (h : Said (credsC (L ++ [wrdC b p A c n])) x) : ∃ i k, k ≤ 3 ∧ (i < 6 ∨ i = b) ∧ x = (64 * p + 8 * n + 1 + k, i :: consN n) ∧ Rea L p n b i k := by
  induction h with
  | base h => exact h.elim
  | step σ hc hpos _ ih =>
    obtain ⟨z, hzl, hm, k, hk4, h1⟩ := creds_iff.1 hc
    rcases List.mem_append.1 hzl with hzl | hzl
    · have hz := hL z hzl
      obtain ⟨q, hq⟩ := List.mem_iff_getElem?.1 hzl
      have hlk := linksOf_mem.2 ⟨z, hq, lk_link hz hn hp⟩
      obtain ⟨iss, ser, to, d, rfl, hi6, ht6, h0, h3⟩ := hz
      cases h1 with
      | rule hkd => cases hkd
      | give n' d' hkd hg hn' h6 hp' hk1 h3' hd =>
        have hnn : n = n' := Int.ofNat.inj hn'
        subst hnn
        have hdd : (d' : Int) = min ((k : Int) - 1) d := hd
        obtain ⟨i', k', hk', _, he, w, t, hw, ht⟩ := ih _ (List.mem_singleton.2 rfl) rfl
        rw [show (lkC iss ser p n to d).to = to from rfl, show (lkC iss ser p n to d).p = p from rfl] at he
        rw [inst_vars] at he
        have he1 : 64 * p + 8 * n + 1 + d' = 64 * p + 8 * n + 1 + k' := congrArg (·.1) he
        have he2 : to :: (List.range n).map σ = i' :: consN n := congrArg (·.2) he
        injection he2 with e1 e2
        subst e1
        obtain rfl : d' = k' := by omega
        refine ⟨iss, k, by omega, .inl hi6, ?_, q :: w, t, ?_, ht⟩
        · rw [show (lkC iss ser p n to d).iss = iss from rfl, show (lkC iss ser p n to d).p = p from rfl, inst_vars, e2]
        · rw [Rch.runW, if_pos hlk]
          have hnx : nxL L (iss, k) q = some (to, d') := by
            unfold nxL
            rw [hq]
            show (if iss = iss ∧ 0 < k then some (to, min (k - 1) d.toNat) else none) = _
            rw [if_pos ⟨rfl, by omega⟩, show min (k - 1) d.toNat = d' by omega]
          rw [hnx]
          exact hw
    · have hz := List.mem_singleton.1 hzl
      subst hz
      have h2 := (oneIs_eq hm hk4 h1).1
      have h3 := (oneIs_eq hm hk4 (wrd_one hn hp (by omega))).1
      rw [h2, ← h3, inst_cons]
      exact ⟨b, k, by omega, .inr rfl, rfl, [], (b, k), rfl, rfl⟩
theorem rea_said : ∀ (w : List Nat) (i k : Nat) (t : Rch.Sp), Rch.runW (linksOf L p n) (nxL L) (i, k) w = some t → t.1 = b → k ≤ 3 → Said (credsC (L ++ [wrdC b p A c n])) (64 * p + 8 * n + 1 + k, i :: consN n)
  | [], i, k, t, h, ht, hk => by
    simp only [Rch.runW, Option.some.injEq] at h
    subst h
    simp only at ht
    subst ht
    have := said_step (l := L ++ [wrdC i p A c n]) (List.mem_append_right _ (List.mem_singleton.2 rfl)) (wrd_may hn) (by omega) (wrd_one (c := c) (A := A) hn hp hk) (fun _ => 0) fun y hy => by cases hy
    rw [inst_cons] at this
    exact this
  | q :: w, i, k, t, h, ht, hk => by
    rw [Rch.runW] at h
    split at h
    · obtain ⟨u, hu, h2⟩ := Option.bind_eq_some_iff.1 h
      obtain ⟨z, hq, hzi, hk0, rfl⟩ := nxL_eq hu
      simp only at hzi hk0 h2
      have hzl := List.mem_of_getElem? hq
      have hz := hL z hzl
      have hm := lk_may hz hn
      have hg := lk_give hz hn
      obtain ⟨iss, ser, to, d, rfl, hi6, ht6, h0, h3⟩ := hz
      have hii : iss = i := hzi
      subst hii
      have ih := rea_said w to (min (k - 1) d.toNat) t h2 ht (by omega)
      have hone := OneIs.give (x := lkC iss ser p n to d) (k := k) n (min (k - 1) d.toNat) rfl hg rfl (by omega) hp (by omega) hk (by show _ = min ((k : Int) - 1) d; omega)
      have := said_step (l := L ++ [wrdC b p A c n]) (List.mem_append_left _ hzl) hm (by omega) hone (fun v => v + 50) fun y hy => by
        rw [List.mem_singleton.1 hy, show (lkC iss ser p n to d).to = to from rfl, show (lkC iss ser p n to d).p = p from rfl, inst_vars]
        exact ih
      rw [show (lkC iss ser p n to d).iss = iss from rfl, show (lkC iss ser p n to d).p = p from rfl, inst_vars] at this
      exact this
    · cases h
theorem said_of {a : Nat} {O : List Nat} (hO : OfSpec L a p n O) : Said (credsC (L ++ [wrdC b p A c n])) (64 * p + 8 * n + 1 + 3, a :: consN n) ↔ b ∈ O := by
  have hpr : (predS p n true 0).2 = true := by
    have := predS_is (n := n) hp (by omega) (Nat.zero_le 3)
    rw [show ((0 : Nat) : Int) = 0 from rfl] at this
    rw [this]
  rw [of_run hO]
  constructor
  · intro h
    obtain ⟨i, k, hk, _, he, w, t, hw, ht⟩ := said_rea hL hp hn h
    have e1 : 64 * p + 8 * n + 1 + 3 = 64 * p + 8 * n + 1 + k := congrArg (·.1) he
    have e2 : a :: consN n = i :: consN n := congrArg (·.2) he
    injection e2 with e2 _
    subst e2
    obtain rfl : k = 3 := by omega
    refine ⟨hpr, w, t, ?_, hw, ht⟩
    have hlen : ∀ (w : List Nat) (s t : Rch.Sp), Rch.runW (linksOf L p n) (nxL L) s w = some t → w.length ≤ s.2 := by
      intro w
      induction w with
      | nil => intro s t _; exact Nat.zero_le _
      | cons q w ih =>
        intro s t h
        rw [Rch.runW] at h
        split at h
        · obtain ⟨u, hu, h2⟩ := Option.bind_eq_some_iff.1 h
          have h3 := (nxL_law L).down _ _ _ hu
          have h4 := ih u t h2
          rw [List.length_cons]; omega
        · cases h
    have := hlen w _ _ hw
    omega
  · rintro ⟨_, w, t, _, hw, ht⟩
    exact rea_said hL hp hn w a 3 t hw ht (Nat.le_refl _)
theorem reach_few (hb : b < 6) {M : List PF} (hS : Srt M) (h : ∀ x ∈ M, Said (credsC (L ++ [wrdC b p A c n])) x) : M.length ≤ 24 := by
  have h1 := len_sub (M := (List.range 4).flatMap fun k => (List.range 6).map fun i => ((64 * p + 8 * n + 1 + k, i :: consN n) : PF)) hS.nodup fun x hx => by
    obtain ⟨i, k, hk, hi, rfl, _⟩ := said_rea hL hp hn (h x hx)
    exact List.mem_flatMap.2 ⟨k, List.mem_range.2 (by omega), List.mem_map.2 ⟨i, List.mem_range.2 (by omega), rfl⟩⟩
  refine Nat.le_trans h1 ?_
  simp only [List.length_flatMap, List.length_map, List.length_range]
  decide
end
end Go.Proofs.YthbcfamfaicneaaGreat.E

/- A cell of a credential in memory. -/
namespace Go.Proofs.YthbcfamfaicneaaGreat.E
open Go Go.RowKit Go.Proofs
attribute [local irreducible] TK TL TQ TA TB Fn PV
theorem cr_cell {Γ : List HP} {g u n i : Nat} {l : List Cr} {X : Cr} (h : has Γ (srcAt 15 (some ⟨g, u, none⟩) n (crsC l))) (hi : l[i]? = some X) (k : Nat) {v : Value} (hv : X.cells[k]? = some v) : has Γ (fun m => cellAt m g (u + i * 15 + k) v) := has_imp (has_el (sz := 15) (f := Cr.cells) (fun _ => rfl) (by decide) h hi) fun m hm => hm k v hv
end Go.Proofs.YthbcfamfaicneaaGreat.E
