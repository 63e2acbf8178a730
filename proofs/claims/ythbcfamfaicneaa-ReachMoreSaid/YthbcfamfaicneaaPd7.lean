/- My own texts, one behind the other: TiB Yn Yo Yp Yq Yr Yt Yu Yv. -/
import Derived.Test.YthbcfamfaicneaaPd6
import Derived.Test.YthbcfamfaicneaaPd5
/- Parted by a pivot. -/
namespace Go.Proofs.Ythbcfamfaicneaa.E.SI
open Go Go.RowKit Go.Proofs Go.Sort
attribute [local irreducible] TK TL TQ TA TB Fn PV Sort.insInner Sort.heapBuild Sort.heapPop Sort.scanDown Sort.shiftDown Sort.partialIns
set_option maxRecDepth 100000 in
set_option maxHeartbeats 4000000 in
theorem part_t (b c n a e p : Nat) (d0 : Array Int) (Γ : List HP) (hsz0 : d0.size = n) (hap : a ≤ p) (hpe : p < e) (he : e ≤ n) (hn : n ≤ 1000000000) :
    FnV Try.prog 93 [.slice (some ⟨b, 0, none⟩) n c, .int .i64 (a : Int), .int .i64 (e : Int), .int .i64 (p : Int)] (DD b c n d0 :: Γ) fun v Γ' => v = .tuple #[.int .i64 ((Sort.partition ltInt d0 a e p).1 : Int), .bool (Sort.partition ltInt d0 a e p).2.1] ∧ Γ' = DD b c n (Sort.partition ltInt d0 a e p).2.2 :: Γ := by
  refine Fn.enter Try.func93 rfl rfl rfl fun E => ?_
  generalize hX : Sort.partition ltInt d0 a e p = X
  unfold Sort.partition at hX
  have hsz := hsz0
  refine m_run ?_
  have hcI := cellD (b := b) (c := c) (Γ := Γ) hsz (show a < n by omega)
  have hcK := cellD (b := b) (c := c) (Γ := Γ) hsz (show p < n by omega)
  refine TK.drawB mixed rfl 13 (DD b c n d0 :: Γ) (Γ) ?_
  refine m_bake (At.mk : At 0) ?_; refine m_bake (At.mk : At 1) ?_; refine m_bake (At.mk : At 2) ?_; refine m_bake (At.mk : At 3) ?_; refine m_bake (At.mk : At 4) ?_; refine m_bake (At.mk : At 5) ?_; refine m_bake (At.mk : At 6) ?_; refine m_bake (At.mk : At 7) ?_; refine m_bake (At.mk : At 8) ?_; refine m_bake (At.mk : At 9) ?_; refine m_bake (At.mk : At 10) ?_; refine m_bake (At.mk : At 11) ?_; refine m_bake (At.mk : At 12) ?_
  (apply TB.last; kernel_rfl; exact rfl)
  (apply TL.storeOwn 0 (a); exact rfl; exact rfl; exact rfl; exact rfl; exact tb rfl; exact rfl; exact (Nat.zero_add _).symm; exact (by omega))
  refine TL.back (by (focus ((repeat (first | assumption | exact Ent.refl _ | apply Ent.tail)); done))) ?_
  refine m_take (At.mk : At 14) ?_
  (apply TA.one 15; kernel_rfl; exact rfl)
  (apply TL.storeOwn 0 (p); exact rfl; exact rfl; exact rfl; exact rfl; exact tb rfl; exact rfl; exact (Nat.zero_add _).symm; exact (by omega))
  refine TL.back (by (focus ((repeat (first | assumption | exact Ent.refl _ | apply Ent.tail)); done))) ?_
  refine TA.done (by kernel_rfl) ?_
  refine TK.imp (Δ := DD b c n (swp d0 (a) (p)) :: Γ) (fun _ h => by show all (own _ _ _ _ (nums _ (swp d0 (a) (p)).toList) :: _) _; rw [← swpD]; exact h) ?_
  have hsz : (swp d0 (a) (p)).size = n := (size_swp _ _ _).trans hsz
  clear hcI hcK
  simp only [] at hX
  generalize swp d0 a p = d at *
  (repeat (first | refine TK.seq ?_ | refine TK.skip ?_))
  refine TK.region ?_
  refine m_rrun ?_
  refine TL.nil ?_
  (repeat (first | refine TK.seq ?_ | refine TK.skip ?_))
  refine TK.know (t := 10) (v := .int .i64 ((a + 1 : Nat) : Int)) (congrArg (Value.int .i64) (by rw [i64_in (by omega) (by omega)]; omega)) ?_
  refine TK.know (t := 11) (v := .int .i64 ((e - 1 : Nat) : Int)) (congrArg (Value.int .i64) (by rw [i64_in (by omega) (by omega)]; omega)) ?_
  have hij : a + 1 ≤ (e - 1) + 1 := by omega
  have hjn : e - 1 < n := by omega
  generalize hi1 : a + 1 = i at hij hX ⊢
  replace hi1 : a + 1 ≤ i := by omega
  generalize e - 1 = j at hij hjn hX ⊢
  apply TK.cut (fun ρ' Γ' => lk ρ' 0 = .slice (some ⟨b, 0, none⟩) n c ∧ lk ρ' 1 = .int .i64 (a : Int) ∧ lk ρ' 10 = .int .i64 ((scanUp (fun x => ltInt x d[a]!) d (j) (i) : Nat) : Int) ∧ lk ρ' 11 = .int .i64 (j : Int) ∧ Γ' = DD b c n d :: Γ)
  · intro k' hk'
    generalize hS : scanUp (fun x => ltInt x d[a]!) d (j) (i) = I at hk'
    refine m_run ?_
    apply TK.iter (fun m ρ' Γ' => ∃ (x : Nat), (j) + 1 - x ≤ m ∧ (i) ≤ x ∧ x ≤ (j) + 1 ∧ scanUp (fun x => ltInt x d[a]!) d (j) x = I ∧ lk ρ' 0 = .slice (some ⟨b, 0, none⟩) n c ∧ lk ρ' 1 = .int .i64 (a : Int) ∧ lk ρ' 10 = .int .i64 (x : Int) ∧ lk ρ' 11 = .int .i64 (j : Int) ∧ Γ' = DD b c n d :: Γ) ((j) + 1)
    · exact ⟨i, by omega, Nat.le_refl _, by omega, hS, rfl, rfl, rfl, rfl, rfl⟩
    clear hS
    rintro m IH ρ' _ ⟨x, hm, hx1, hx2, hS, e0, e1, ei, ej, rfl⟩
    refine TK.know4 e0 e1 ei ej ?_
    rw [Sort.scanUp] at hS
    by_cases hx : x ≤ j
    · have hc1 := cellD (b := b) (c := c) (Γ := Γ) hsz (show x < n by omega)
      have hc2 := cellD (b := b) (c := c) (Γ := Γ) hsz (show a < n by omega)
      refine m_run ?_
      refine TK.drawS mixed rfl ?_
      refine m_take (At.mk : At 0) ?_; refine m_take (At.mk : At 1) ?_; refine m_take (At.mk : At 2) ?_
      refine TA.isT 32 rfl (decide_eq_true (by omega)) ?_
      refine m_take (At.mk : At 3) ?_; refine m_take (At.mk : At 4) ?_; refine m_take (At.mk : At 5) ?_; refine m_take (At.mk : At 6) ?_; refine m_take (At.mk : At 7) ?_; refine m_take (At.mk : At 8) ?_; refine m_take (At.mk : At 9) ?_; refine m_take (At.mk : At 10) ?_; refine m_take (At.mk : At 11) ?_
      (apply TA.one 12; kernel_rfl; exact rfl)
      refine m_rrun ?_
      (apply TL.callV; exact rfl; exact callB_of (by kernel_rfl); exact rfl; exact fun _ h => h)
      exact less_t _ _ _
      rintro _ _ ⟨rfl, rfl⟩
      refine TL.back (by (focus ((repeat (first | assumption | exact Ent.refl _ | apply Ent.tail)); done))) ?_
      refine m_take (At.mk : At 13) ?_
      by_cases h : d[x]! < d[a]!
      · rw [if_pos (by simp [ltInt, h]; omega)] at hS
        refine TA.isT 43 rfl (decide_eq_true h) ?_
        refine TA.done (by kernel_rfl) ?_
        clear hc1 hc2
        refine m_run ?_
        exact IH (m - 1) _ _ (by omega) ⟨x + 1, by omega, by omega, by omega, hS, rfl, rfl, congrArg (Value.int .i64) (i64_succ x (by omega)), rfl, rfl⟩
      · rw [if_neg (by simp [ltInt, h])] at hS
        refine TA.isF 43 rfl (decide_eq_false h) ?_
        refine TA.done (by kernel_rfl) ?_
        clear hc1 hc2
        refine m_run ?_
        exact hk' _ _ ⟨rfl, rfl, congrArg (fun z : Nat => Value.int .i64 (z : Int)) hS, rfl, rfl⟩
    · rw [if_neg (by simp; omega)] at hS
      refine m_run ?_
      refine TK.drawS mixed rfl ?_
      refine m_take (At.mk : At 0) ?_; refine m_take (At.mk : At 1) ?_; refine m_take (At.mk : At 2) ?_
      refine TA.isF 32 rfl (decide_eq_false (by omega)) ?_
      refine m_take (At.mk : At 3) ?_; refine m_take (At.mk : At 4) ?_; refine m_take (At.mk : At 5) ?_; refine m_take (At.mk : At 6) ?_; refine m_take (At.mk : At 7) ?_; refine m_take (At.mk : At 8) ?_; refine m_take (At.mk : At 9) ?_; refine m_take (At.mk : At 10) ?_; refine m_take (At.mk : At 11) ?_; refine m_take (At.mk : At 12) ?_; refine m_take (At.mk : At 13) ?_
      refine TA.done (by kernel_rfl) ?_
      refine m_run ?_
      exact hk' _ _ ⟨rfl, rfl, congrArg (fun z : Nat => Value.int .i64 (z : Int)) hS, rfl, rfl⟩
  rintro ρ' _ ⟨e0, e1, ei, ej, rfl⟩
  refine TK.know4 e0 e1 ei ej ?_
  obtain ⟨hs1, hs2, _, hs4⟩ := scanUp_spec (fun x => ltInt x d[a]!) d j _ i rfl
  have hs2 := hs2 hij
  generalize hI : scanUp (fun x => ltInt x d[a]!) d j i = i2 at *
  (repeat (first | refine TK.seq ?_ | refine TK.skip ?_))
  apply TK.cut (fun ρ' Γ' => lk ρ' 0 = .slice (some ⟨b, 0, none⟩) n c ∧ lk ρ' 1 = .int .i64 (a : Int) ∧ lk ρ' 10 = .int .i64 (i2 : Int) ∧ lk ρ' 11 = .int .i64 ((scanDown (fun x => !ltInt x d[a]!) d (i2) (j) : Nat) : Int) ∧ Γ' = DD b c n d :: Γ)
  · intro k' hk'
    generalize hS : scanDown (fun x => !ltInt x d[a]!) d (i2) (j) = J at hk'
    refine m_run ?_
    apply TK.iter (fun m ρ' Γ' => m ≤ j ∧ (i2) ≤ m + 1 ∧ scanDown (fun x => !ltInt x d[a]!) d (i2) m = J ∧ lk ρ' 0 = .slice (some ⟨b, 0, none⟩) n c ∧ lk ρ' 1 = .int .i64 (a : Int) ∧ lk ρ' 10 = .int .i64 (i2 : Int) ∧ lk ρ' 11 = .int .i64 (m : Int) ∧ Γ' = DD b c n d :: Γ) (j)
    · exact ⟨Nat.le_refl _, by omega, hS, rfl, rfl, rfl, rfl, rfl⟩
    clear hS
    rintro x IH ρ' _ ⟨hx1, hx2, hS, e0, e1, ei, ej, rfl⟩
    refine TK.know4 e0 e1 ei ej ?_
    by_cases hx : i2 ≤ x
    · obtain ⟨w, rfl⟩ : ∃ w, x = w + 1 := ⟨x - 1, by omega⟩
      rw [Sort.scanDown] at hS
      have hc1 := cellD (b := b) (c := c) (Γ := Γ) hsz (show w + 1 < n by omega)
      have hc2 := cellD (b := b) (c := c) (Γ := Γ) hsz (show a < n by omega)
      refine m_run ?_
      refine TK.drawS mixed rfl ?_
      refine m_take (At.mk : At 0) ?_; refine m_take (At.mk : At 1) ?_; refine m_take (At.mk : At 2) ?_
      refine TA.isT 48 rfl (decide_eq_true (by omega)) ?_
      refine m_take (At.mk : At 3) ?_; refine m_take (At.mk : At 4) ?_; refine m_take (At.mk : At 5) ?_; refine m_take (At.mk : At 6) ?_; refine m_take (At.mk : At 7) ?_; refine m_take (At.mk : At 8) ?_; refine m_take (At.mk : At 9) ?_; refine m_take (At.mk : At 10) ?_; refine m_take (At.mk : At 11) ?_
      (apply TA.one 12; kernel_rfl; exact rfl)
      refine m_rrun ?_
      (apply TL.callV; exact rfl; exact callB_of (by kernel_rfl); exact rfl; exact fun _ h => h)
      exact less_t _ _ _
      rintro _ _ ⟨rfl, rfl⟩
      refine TL.back (by (focus ((repeat (first | assumption | exact Ent.refl _ | apply Ent.tail)); done))) ?_
      refine m_take (At.mk : At 13) ?_; refine m_take (At.mk : At 14) ?_
      by_cases h : d[w + 1]! < d[a]!
      · rw [if_neg (by simp [ltInt, h])] at hS
        refine TA.isF 60 rfl (not_f (decide_eq_true h)) ?_
        refine TA.done (by kernel_rfl) ?_
        clear hc1 hc2
        refine m_run ?_
        exact hk' _ _ ⟨rfl, rfl, rfl, congrArg (fun z : Nat => Value.int .i64 (z : Int)) hS, rfl⟩
      · rw [if_pos (by simp [ltInt, h]; omega)] at hS
        refine TA.isT 60 rfl (not_t (decide_eq_false h)) ?_
        refine TA.done (by kernel_rfl) ?_
        clear hc1 hc2
        refine m_run ?_
        exact IH w _ _ (by omega) ⟨by omega, by omega, hS, rfl, rfl, rfl, congrArg (Value.int .i64) (by rw [i64_in (by omega) (by omega)]; omega), rfl⟩
    · have hS : x = J := by
        rw [← hS]
        cases x with
        | zero => rw [Sort.scanDown]
        | succ w => rw [Sort.scanDown, if_neg (by simp; omega)]
      refine m_run ?_
      refine TK.drawS mixed rfl ?_
      refine m_take (At.mk : At 0) ?_; refine m_take (At.mk : At 1) ?_; refine m_take (At.mk : At 2) ?_
      refine TA.isF 48 rfl (decide_eq_false (by omega)) ?_
      refine m_take (At.mk : At 3) ?_; refine m_take (At.mk : At 4) ?_; refine m_take (At.mk : At 5) ?_; refine m_take (At.mk : At 6) ?_; refine m_take (At.mk : At 7) ?_; refine m_take (At.mk : At 8) ?_; refine m_take (At.mk : At 9) ?_; refine m_take (At.mk : At 10) ?_; refine m_take (At.mk : At 11) ?_; refine m_take (At.mk : At 12) ?_; refine m_take (At.mk : At 13) ?_; refine m_take (At.mk : At 14) ?_
      refine TA.done (by kernel_rfl) ?_
      refine m_run ?_
      exact hk' _ _ ⟨rfl, rfl, rfl, congrArg (fun z : Nat => Value.int .i64 (z : Int)) hS, rfl⟩
  rintro ρ' _ ⟨e0, e1, ei, ej, rfl⟩
  refine TK.know4 e0 e1 ei ej ?_
  obtain ⟨ht1, ht2, _, ht4⟩ := scanDown_spec (fun x => !ltInt x d[a]!) d i2 j
  have ht2 := ht2 hs2
  generalize hJ : scanDown (fun x => !ltInt x d[a]!) d i2 j = j2 at *
  by_cases hgt : i2 > j2
  · rw [if_pos hgt] at hX
    rw [← hX]
    refine m_run ?_
    have hcI := cellD (b := b) (c := c) (Γ := Γ) hsz (show j2 < n by omega)
    have hcK := cellD (b := b) (c := c) (Γ := Γ) hsz (show a < n by omega)
    refine TK.drawB mixed rfl 13 (DD b c n d :: Γ) (Γ) ?_
    refine m_bake (At.mk : At 0) ?_; refine m_bake (At.mk : At 1) ?_; refine m_bake (At.mk : At 2) ?_; refine m_bake (At.mk : At 3) ?_; refine m_bake (At.mk : At 4) ?_; refine m_bake (At.mk : At 5) ?_; refine m_bake (At.mk : At 6) ?_; refine m_bake (At.mk : At 7) ?_; refine m_bake (At.mk : At 8) ?_; refine m_bake (At.mk : At 9) ?_; refine m_bake (At.mk : At 10) ?_; refine m_bake (At.mk : At 11) ?_; refine m_bake (At.mk : At 12) ?_
    (apply TB.last; kernel_rfl; exact rfl)
    (apply TL.storeOwn 0 (j2); exact rfl; exact rfl; exact rfl; exact rfl; exact tb rfl; exact rfl; exact (Nat.zero_add _).symm; exact (by omega))
    refine TL.back (by (focus ((repeat (first | assumption | exact Ent.refl _ | apply Ent.tail)); done))) ?_
    refine m_take (At.mk : At 14) ?_
    (apply TA.one 15; kernel_rfl; exact rfl)
    (apply TL.storeOwn 0 (a); exact rfl; exact rfl; exact rfl; exact rfl; exact tb rfl; exact rfl; exact (Nat.zero_add _).symm; exact (by omega))
    refine TL.back (by (focus ((repeat (first | assumption | exact Ent.refl _ | apply Ent.tail)); done))) ?_
    refine TA.done (by kernel_rfl) ?_
    refine TK.imp (Δ := DD b c n (swp d (j2) (a)) :: Γ) (fun _ h => by show all (own _ _ _ _ (nums _ (swp d (j2) (a)).toList) :: _) _; rw [← swpD]; exact h) ?_
    have hsz : (swp d (j2) (a)).size = n := (size_swp _ _ _).trans hsz
    clear hcI hcK
    refine m_run ?_
    (apply TK.ret2; exact rfl; exact rfl; (exact m_val); (exact m_val))
    exact ⟨_, rfl, rfl, rfl⟩
  · rw [if_neg hgt] at hX
    have hne : i2 ≠ j2 := fun e => by
      have h1 := hs4 (by omega)
      have h2 := ht4 (by omega) (by omega)
      rw [← e] at h2
      simp only [h1] at h2
      cases h2
    refine m_run ?_
    have hcI := cellD (b := b) (c := c) (Γ := Γ) hsz (show i2 < n by omega)
    have hcK := cellD (b := b) (c := c) (Γ := Γ) hsz (show j2 < n by omega)
    refine TK.drawB mixed rfl 13 (DD b c n d :: Γ) (Γ) ?_
    refine m_bake (At.mk : At 0) ?_; refine m_bake (At.mk : At 1) ?_; refine m_bake (At.mk : At 2) ?_; refine m_bake (At.mk : At 3) ?_; refine m_bake (At.mk : At 4) ?_; refine m_bake (At.mk : At 5) ?_; refine m_bake (At.mk : At 6) ?_; refine m_bake (At.mk : At 7) ?_; refine m_bake (At.mk : At 8) ?_; refine m_bake (At.mk : At 9) ?_; refine m_bake (At.mk : At 10) ?_; refine m_bake (At.mk : At 11) ?_; refine m_bake (At.mk : At 12) ?_
    (apply TB.last; kernel_rfl; exact rfl)
    (apply TL.storeOwn 0 (i2); exact rfl; exact rfl; exact rfl; exact rfl; exact tb rfl; exact rfl; exact (Nat.zero_add _).symm; exact (by omega))
    refine TL.back (by (focus ((repeat (first | assumption | exact Ent.refl _ | apply Ent.tail)); done))) ?_
    refine m_take (At.mk : At 14) ?_
    (apply TA.one 15; kernel_rfl; exact rfl)
    (apply TL.storeOwn 0 (j2); exact rfl; exact rfl; exact rfl; exact rfl; exact tb rfl; exact rfl; exact (Nat.zero_add _).symm; exact (by omega))
    refine TL.back (by (focus ((repeat (first | assumption | exact Ent.refl _ | apply Ent.tail)); done))) ?_
    refine TA.done (by kernel_rfl) ?_
    refine TK.imp (Δ := DD b c n (swp d (i2) (j2)) :: Γ) (fun _ h => by show all (own _ _ _ _ (nums _ (swp d (i2) (j2)).toList) :: _) _; rw [← swpD]; exact h) ?_
    have hsz : (swp d (i2) (j2)).size = n := (size_swp _ _ _).trans hsz
    clear hcI hcK
    generalize swp d i2 j2 = d1 at *
    clear hs4 ht4 hI hJ
    generalize hR : partLoop ltInt a (i2 + 1) (j2 - 1) d1 = R at hX
    refine m_run ?_
    apply TK.iter (fun m ρ' Γ' => ∃ (i j : Nat) (d : Array Int), j + 1 - i ≤ m ∧ a + 1 ≤ i ∧ i ≤ j + 1 ∧ j < n ∧ d.size = n ∧ partLoop ltInt a i j d = R ∧ lk ρ' 0 = .slice (some ⟨b, 0, none⟩) n c ∧ lk ρ' 1 = .int .i64 (a : Int) ∧ lk ρ' 10 = .int .i64 (i : Int) ∧ lk ρ' 11 = .int .i64 (j : Int) ∧ Γ' = DD b c n d :: Γ) n
    · exact ⟨i2 + 1, j2 - 1, _, by omega, by omega, by omega, by omega, hsz, hR, rfl, rfl, congrArg (Value.int .i64) (by rw [i64_in (by omega) (by omega)]; omega), congrArg (Value.int .i64) (by rw [i64_in (by omega) (by omega)]; omega), rfl⟩
    clear hR hsz hne hgt ht1 ht2 hs1 hs2 hij hi1 hjn
    rintro m IH ρ' _ ⟨i, j, d, hm, hi1, hij, hjn, hsz, hR, e0, e1, e10, e11, rfl⟩
    refine TK.know4 e0 e1 e10 e11 ?_
    rw [partLoop_eq] at hR
    (repeat (first | refine TK.seq ?_ | refine TK.skip ?_))
    refine TK.block ?_
    (repeat (first | refine TK.seq ?_ | refine TK.skip ?_))
    apply TK.cut (fun ρ' Γ' => lk ρ' 0 = .slice (some ⟨b, 0, none⟩) n c ∧ lk ρ' 1 = .int .i64 (a : Int) ∧ lk ρ' 10 = .int .i64 ((scanUp (fun x => ltInt x d[a]!) d (j) (i) : Nat) : Int) ∧ lk ρ' 11 = .int .i64 (j : Int) ∧ Γ' = DD b c n d :: Γ)
    · intro k' hk'
      generalize hS : scanUp (fun x => ltInt x d[a]!) d (j) (i) = I at hk'
      refine m_run ?_
      apply TK.iter (fun m ρ' Γ' => ∃ (x : Nat), (j) + 1 - x ≤ m ∧ (i) ≤ x ∧ x ≤ (j) + 1 ∧ scanUp (fun x => ltInt x d[a]!) d (j) x = I ∧ lk ρ' 0 = .slice (some ⟨b, 0, none⟩) n c ∧ lk ρ' 1 = .int .i64 (a : Int) ∧ lk ρ' 10 = .int .i64 (x : Int) ∧ lk ρ' 11 = .int .i64 (j : Int) ∧ Γ' = DD b c n d :: Γ) ((j) + 1)
      · exact ⟨i, by omega, Nat.le_refl _, by omega, hS, rfl, rfl, rfl, rfl, rfl⟩
      clear hS
      rintro m IH ρ' _ ⟨x, hm, hx1, hx2, hS, e0, e1, ei, ej, rfl⟩
      refine TK.know4 e0 e1 ei ej ?_
      rw [Sort.scanUp] at hS
      by_cases hx : x ≤ j
      · have hc1 := cellD (b := b) (c := c) (Γ := Γ) hsz (show x < n by omega)
        have hc2 := cellD (b := b) (c := c) (Γ := Γ) hsz (show a < n by omega)
        refine m_run ?_
        refine TK.drawS mixed rfl ?_
        refine m_take (At.mk : At 0) ?_; refine m_take (At.mk : At 1) ?_; refine m_take (At.mk : At 2) ?_
        refine TA.isT 101 rfl (decide_eq_true (by omega)) ?_
        refine m_take (At.mk : At 3) ?_; refine m_take (At.mk : At 4) ?_; refine m_take (At.mk : At 5) ?_; refine m_take (At.mk : At 6) ?_; refine m_take (At.mk : At 7) ?_; refine m_take (At.mk : At 8) ?_; refine m_take (At.mk : At 9) ?_; refine m_take (At.mk : At 10) ?_; refine m_take (At.mk : At 11) ?_
        (apply TA.one 12; kernel_rfl; exact rfl)
        refine m_rrun ?_
        (apply TL.callV; exact rfl; exact callB_of (by kernel_rfl); exact rfl; exact fun _ h => h)
        exact less_t _ _ _
        rintro _ _ ⟨rfl, rfl⟩
        refine TL.back (by (focus ((repeat (first | assumption | exact Ent.refl _ | apply Ent.tail)); done))) ?_
        refine m_take (At.mk : At 13) ?_
        by_cases h : d[x]! < d[a]!
        · rw [if_pos (by simp [ltInt, h]; omega)] at hS
          refine TA.isT 112 rfl (decide_eq_true h) ?_
          refine TA.done (by kernel_rfl) ?_
          clear hc1 hc2
          refine m_run ?_
          exact IH (m - 1) _ _ (by omega) ⟨x + 1, by omega, by omega, by omega, hS, rfl, rfl, congrArg (Value.int .i64) (i64_succ x (by omega)), rfl, rfl⟩
        · rw [if_neg (by simp [ltInt, h])] at hS
          refine TA.isF 112 rfl (decide_eq_false h) ?_
          refine TA.done (by kernel_rfl) ?_
          clear hc1 hc2
          refine m_run ?_
          exact hk' _ _ ⟨rfl, rfl, congrArg (fun z : Nat => Value.int .i64 (z : Int)) hS, rfl, rfl⟩
      · rw [if_neg (by simp; omega)] at hS
        refine m_run ?_
        refine TK.drawS mixed rfl ?_
        refine m_take (At.mk : At 0) ?_; refine m_take (At.mk : At 1) ?_; refine m_take (At.mk : At 2) ?_
        refine TA.isF 101 rfl (decide_eq_false (by omega)) ?_
        refine m_take (At.mk : At 3) ?_; refine m_take (At.mk : At 4) ?_; refine m_take (At.mk : At 5) ?_; refine m_take (At.mk : At 6) ?_; refine m_take (At.mk : At 7) ?_; refine m_take (At.mk : At 8) ?_; refine m_take (At.mk : At 9) ?_; refine m_take (At.mk : At 10) ?_; refine m_take (At.mk : At 11) ?_; refine m_take (At.mk : At 12) ?_; refine m_take (At.mk : At 13) ?_
        refine TA.done (by kernel_rfl) ?_
        refine m_run ?_
        exact hk' _ _ ⟨rfl, rfl, congrArg (fun z : Nat => Value.int .i64 (z : Int)) hS, rfl, rfl⟩
    rintro ρ' _ ⟨e0, e1, ei, ej, rfl⟩
    refine TK.know4 e0 e1 ei ej ?_
    obtain ⟨hs1, hs2, _, hs4⟩ := scanUp_spec (fun x => ltInt x d[a]!) d j _ i rfl
    have hs2 := hs2 hij
    generalize hI : scanUp (fun x => ltInt x d[a]!) d j i = i2 at *
    (repeat (first | refine TK.seq ?_ | refine TK.skip ?_))
    apply TK.cut (fun ρ' Γ' => lk ρ' 0 = .slice (some ⟨b, 0, none⟩) n c ∧ lk ρ' 1 = .int .i64 (a : Int) ∧ lk ρ' 10 = .int .i64 (i2 : Int) ∧ lk ρ' 11 = .int .i64 ((scanDown (fun x => !ltInt x d[a]!) d (i2) (j) : Nat) : Int) ∧ Γ' = DD b c n d :: Γ)
    · intro k' hk'
      generalize hS : scanDown (fun x => !ltInt x d[a]!) d (i2) (j) = J at hk'
      refine m_run ?_
      apply TK.iter (fun m ρ' Γ' => m ≤ j ∧ (i2) ≤ m + 1 ∧ scanDown (fun x => !ltInt x d[a]!) d (i2) m = J ∧ lk ρ' 0 = .slice (some ⟨b, 0, none⟩) n c ∧ lk ρ' 1 = .int .i64 (a : Int) ∧ lk ρ' 10 = .int .i64 (i2 : Int) ∧ lk ρ' 11 = .int .i64 (m : Int) ∧ Γ' = DD b c n d :: Γ) (j)
      · exact ⟨Nat.le_refl _, by omega, hS, rfl, rfl, rfl, rfl, rfl⟩
      clear hS
      rintro x IH ρ' _ ⟨hx1, hx2, hS, e0, e1, ei, ej, rfl⟩
      refine TK.know4 e0 e1 ei ej ?_
      by_cases hx : i2 ≤ x
      · obtain ⟨w, rfl⟩ : ∃ w, x = w + 1 := ⟨x - 1, by omega⟩
        rw [Sort.scanDown] at hS
        have hc1 := cellD (b := b) (c := c) (Γ := Γ) hsz (show w + 1 < n by omega)
        have hc2 := cellD (b := b) (c := c) (Γ := Γ) hsz (show a < n by omega)
        refine m_run ?_
        refine TK.drawS mixed rfl ?_
        refine m_take (At.mk : At 0) ?_; refine m_take (At.mk : At 1) ?_; refine m_take (At.mk : At 2) ?_
        refine TA.isT 117 rfl (decide_eq_true (by omega)) ?_
        refine m_take (At.mk : At 3) ?_; refine m_take (At.mk : At 4) ?_; refine m_take (At.mk : At 5) ?_; refine m_take (At.mk : At 6) ?_; refine m_take (At.mk : At 7) ?_; refine m_take (At.mk : At 8) ?_; refine m_take (At.mk : At 9) ?_; refine m_take (At.mk : At 10) ?_; refine m_take (At.mk : At 11) ?_
        (apply TA.one 12; kernel_rfl; exact rfl)
        refine m_rrun ?_
        (apply TL.callV; exact rfl; exact callB_of (by kernel_rfl); exact rfl; exact fun _ h => h)
        exact less_t _ _ _
        rintro _ _ ⟨rfl, rfl⟩
        refine TL.back (by (focus ((repeat (first | assumption | exact Ent.refl _ | apply Ent.tail)); done))) ?_
        refine m_take (At.mk : At 13) ?_; refine m_take (At.mk : At 14) ?_
        by_cases h : d[w + 1]! < d[a]!
        · rw [if_neg (by simp [ltInt, h])] at hS
          refine TA.isF 129 rfl (not_f (decide_eq_true h)) ?_
          refine TA.done (by kernel_rfl) ?_
          clear hc1 hc2
          refine m_run ?_
          exact hk' _ _ ⟨rfl, rfl, rfl, congrArg (fun z : Nat => Value.int .i64 (z : Int)) hS, rfl⟩
        · rw [if_pos (by simp [ltInt, h]; omega)] at hS
          refine TA.isT 129 rfl (not_t (decide_eq_false h)) ?_
          refine TA.done (by kernel_rfl) ?_
          clear hc1 hc2
          refine m_run ?_
          exact IH w _ _ (by omega) ⟨by omega, by omega, hS, rfl, rfl, rfl, congrArg (Value.int .i64) (by rw [i64_in (by omega) (by omega)]; omega), rfl⟩
      · have hS : x = J := by
          rw [← hS]
          cases x with
          | zero => rw [Sort.scanDown]
          | succ w => rw [Sort.scanDown, if_neg (by simp; omega)]
        refine m_run ?_
        refine TK.drawS mixed rfl ?_
        refine m_take (At.mk : At 0) ?_; refine m_take (At.mk : At 1) ?_; refine m_take (At.mk : At 2) ?_
        refine TA.isF 117 rfl (decide_eq_false (by omega)) ?_
        refine m_take (At.mk : At 3) ?_; refine m_take (At.mk : At 4) ?_; refine m_take (At.mk : At 5) ?_; refine m_take (At.mk : At 6) ?_; refine m_take (At.mk : At 7) ?_; refine m_take (At.mk : At 8) ?_; refine m_take (At.mk : At 9) ?_; refine m_take (At.mk : At 10) ?_; refine m_take (At.mk : At 11) ?_; refine m_take (At.mk : At 12) ?_; refine m_take (At.mk : At 13) ?_; refine m_take (At.mk : At 14) ?_
        refine TA.done (by kernel_rfl) ?_
        refine m_run ?_
        exact hk' _ _ ⟨rfl, rfl, rfl, congrArg (fun z : Nat => Value.int .i64 (z : Int)) hS, rfl⟩
    rintro ρ' _ ⟨e0, e1, ei, ej, rfl⟩
    refine TK.know4 e0 e1 ei ej ?_
    obtain ⟨ht1, ht2, _, ht4⟩ := scanDown_spec (fun x => !ltInt x d[a]!) d i2 j
    have ht2 := ht2 hs2
    generalize hJ : scanDown (fun x => !ltInt x d[a]!) d i2 j = j2 at *
    by_cases hgt : i2 > j2
    · rw [if_pos hgt] at hR
      subst hR
      rw [← hX]
      refine m_run ?_
      have hcI := cellD (b := b) (c := c) (Γ := Γ) hsz (show j2 < n by omega)
      have hcK := cellD (b := b) (c := c) (Γ := Γ) hsz (show a < n by omega)
      refine TK.drawB mixed rfl 13 (DD b c n d :: Γ) (Γ) ?_
      refine m_bake (At.mk : At 0) ?_; refine m_bake (At.mk : At 1) ?_; refine m_bake (At.mk : At 2) ?_; refine m_bake (At.mk : At 3) ?_; refine m_bake (At.mk : At 4) ?_; refine m_bake (At.mk : At 5) ?_; refine m_bake (At.mk : At 6) ?_; refine m_bake (At.mk : At 7) ?_; refine m_bake (At.mk : At 8) ?_; refine m_bake (At.mk : At 9) ?_; refine m_bake (At.mk : At 10) ?_; refine m_bake (At.mk : At 11) ?_; refine m_bake (At.mk : At 12) ?_
      (apply TB.last; kernel_rfl; exact rfl)
      (apply TL.storeOwn 0 (j2); exact rfl; exact rfl; exact rfl; exact rfl; exact tb rfl; exact rfl; exact (Nat.zero_add _).symm; exact (by omega))
      refine TL.back (by (focus ((repeat (first | assumption | exact Ent.refl _ | apply Ent.tail)); done))) ?_
      refine m_take (At.mk : At 14) ?_
      (apply TA.one 15; kernel_rfl; exact rfl)
      (apply TL.storeOwn 0 (a); exact rfl; exact rfl; exact rfl; exact rfl; exact tb rfl; exact rfl; exact (Nat.zero_add _).symm; exact (by omega))
      refine TL.back (by (focus ((repeat (first | assumption | exact Ent.refl _ | apply Ent.tail)); done))) ?_
      refine TA.done (by kernel_rfl) ?_
      refine TK.imp (Δ := DD b c n (swp d (j2) (a)) :: Γ) (fun _ h => by show all (own _ _ _ _ (nums _ (swp d (j2) (a)).toList) :: _) _; rw [← swpD]; exact h) ?_
      have hsz : (swp d (j2) (a)).size = n := (size_swp _ _ _).trans hsz
      clear hcI hcK
      refine m_run ?_
      (apply TK.ret2; exact rfl; exact rfl; (exact m_val); (exact m_val))
      exact ⟨_, rfl, rfl, rfl⟩
    · rw [if_neg hgt] at hR
      have hne : i2 ≠ j2 := fun e => by
        have h1 := hs4 (by omega)
        have h2 := ht4 (by omega) (by omega)
        rw [← e] at h2
        simp only [h1] at h2
        cases h2
      refine m_run ?_
      have hcI := cellD (b := b) (c := c) (Γ := Γ) hsz (show i2 < n by omega)
      have hcK := cellD (b := b) (c := c) (Γ := Γ) hsz (show j2 < n by omega)
      refine TK.drawB mixed rfl 13 (DD b c n d :: Γ) (Γ) ?_
      refine m_bake (At.mk : At 0) ?_; refine m_bake (At.mk : At 1) ?_; refine m_bake (At.mk : At 2) ?_; refine m_bake (At.mk : At 3) ?_; refine m_bake (At.mk : At 4) ?_; refine m_bake (At.mk : At 5) ?_; refine m_bake (At.mk : At 6) ?_; refine m_bake (At.mk : At 7) ?_; refine m_bake (At.mk : At 8) ?_; refine m_bake (At.mk : At 9) ?_; refine m_bake (At.mk : At 10) ?_; refine m_bake (At.mk : At 11) ?_; refine m_bake (At.mk : At 12) ?_
      (apply TB.last; kernel_rfl; exact rfl)
      (apply TL.storeOwn 0 (i2); exact rfl; exact rfl; exact rfl; exact rfl; exact tb rfl; exact rfl; exact (Nat.zero_add _).symm; exact (by omega))
      refine TL.back (by (focus ((repeat (first | assumption | exact Ent.refl _ | apply Ent.tail)); done))) ?_
      refine m_take (At.mk : At 14) ?_
      (apply TA.one 15; kernel_rfl; exact rfl)
      (apply TL.storeOwn 0 (j2); exact rfl; exact rfl; exact rfl; exact rfl; exact tb rfl; exact rfl; exact (Nat.zero_add _).symm; exact (by omega))
      refine TL.back (by (focus ((repeat (first | assumption | exact Ent.refl _ | apply Ent.tail)); done))) ?_
      refine TA.done (by kernel_rfl) ?_
      refine TK.imp (Δ := DD b c n (swp d (i2) (j2)) :: Γ) (fun _ h => by show all (own _ _ _ _ (nums _ (swp d (i2) (j2)).toList) :: _) _; rw [← swpD]; exact h) ?_
      have hsz : (swp d (i2) (j2)).size = n := (size_swp _ _ _).trans hsz
      clear hcI hcK
      refine m_run ?_
      exact IH (m - 1) _ _ (by omega) ⟨i2 + 1, j2 - 1, _, by omega, by omega, by omega, by omega, hsz, hR, rfl, rfl, congrArg (Value.int .i64) (by rw [i64_in (by omega) (by omega)]; omega), congrArg (Value.int .i64) (by rw [i64_in (by omega) (by omega)]; omega), rfl⟩

theorem shiftDown_size : ∀ (j : Nat) (d : Array Int), (shiftDown ltInt j d).size = d.size
  | 0, d => by rw [Sort.shiftDown]
  | j + 1, d => by
    rw [Sort.shiftDown]
    split
    · rfl
    · rw [shiftDown_size j, size_swp]
theorem shiftUp_size (b j : Nat) (d : Array Int) : (shiftUp ltInt b j d).size = d.size := by
  have key : ∀ (N j : Nat) (d : Array Int), b - j ≤ N → (shiftUp ltInt b j d).size = d.size := by
    intro N
    induction N with
    | zero => intro j d h; rw [Sort.shiftUp, if_neg (by omega)]
    | succ N ih =>
      intro j d h
      rw [Sort.shiftUp]
      split
      · split
        · rfl
        · rw [ih _ _ (by omega), size_swp]
      · rfl
  exact key _ j d (Nat.le_refl _)
theorem scanSorted_le (b : Nat) (d : Array Int) : ∀ (i : Nat), i ≤ b → i ≤ scanSorted ltInt d b i ∧ scanSorted ltInt d b i ≤ b := by
  have key : ∀ (N i : Nat), b - i ≤ N → i ≤ b → i ≤ scanSorted ltInt d b i ∧ scanSorted ltInt d b i ≤ b := by
    intro N
    induction N with
    | zero => intro i h hb; rw [Sort.scanSorted, if_neg (by simp; omega)]; omega
    | succ N ih =>
      intro i h hb
      rw [Sort.scanSorted]
      split
      · rename_i hc
        simp at hc
        have := ih (i + 1) (by omega) (by omega)
        omega
      · omega
  exact fun i => key _ i (Nat.le_refl _)
set_option maxRecDepth 100000 in
set_option maxHeartbeats 4000000 in
theorem partial_t (b c n a e : Nat) (d0 : Array Int) (Γ : List HP) (hsz0 : d0.size = n) (hae : a < e) (he : e ≤ n) (hn : n ≤ 1000000000) :
    FnV Try.prog 90 [.slice (some ⟨b, 0, none⟩) n c, .int .i64 (a : Int), .int .i64 (e : Int)] (DD b c n d0 :: Γ) fun v Γ' => v = .bool (partialInsertionSort ltInt d0 a e).2 ∧ Γ' = DD b c n (partialInsertionSort ltInt d0 a e).1 :: Γ := by
  refine Fn.enter Try.func90 rfl rfl rfl fun E => ?_
  unfold partialInsertionSort
  generalize hX : partialIns ltInt a e 5 (a + 1) d0 = X
  refine m_run ?_
  apply TK.iter (fun m ρ' Γ' => ∃ (i : Nat) (d : Array Int), m ≤ 5 ∧ a + 1 ≤ i ∧ i ≤ e ∧ d.size = n ∧ partialIns ltInt a e m i d = X ∧ lk ρ' 0 = .slice (some ⟨b, 0, none⟩) n c ∧ lk ρ' 1 = .int .i64 (a : Int) ∧ lk ρ' 2 = .int .i64 (e : Int) ∧ lk ρ' 7 = .int .i64 (i : Int) ∧ lk ρ' 8 = .int .i64 ((5 - m : Nat) : Int) ∧ Γ' = DD b c n d :: Γ) 5
  · exact ⟨a + 1, d0, Nat.le_refl _, Nat.le_refl _, by omega, hsz0, hX, rfl, rfl, rfl, congrArg (Value.int .i64) (by rw [i64_in (by omega) (by omega)]; omega), rfl, rfl⟩
  clear hX
  rintro m IH ρ' _ ⟨i, d, hm, hi1, hie, hsz, hR, e0, e1, e2, e7, e8, rfl⟩
  refine TK.know5 e0 e1 e2 e7 e8 ?_
  cases m with
  | zero =>
    rw [Sort.partialIns] at hR
    rw [← hR]
    refine m_run ?_
    (apply TK.ret1; exact rfl; exact rfl; (exact m_val))
    exact ⟨_, rfl, rfl, rfl⟩
  | succ m =>
    rw [partialIns_succ] at hR
    obtain ⟨hs1, hs2⟩ := scanSorted_le e d i hie
    (repeat (first | refine TK.seq ?_ | refine TK.skip ?_))
    refine TK.region ?_
    refine m_rrun ?_
    refine TL.nil ?_
    (repeat (first | refine TK.seq ?_ | refine TK.skip ?_))
    refine TK.condT rfl (decide_eq_true (by omega)) ?_
    (repeat (first | refine TK.seq ?_ | refine TK.skip ?_))
    refine TK.block ?_
    (repeat (first | refine TK.seq ?_ | refine TK.skip ?_))
    apply TK.cut (fun ρ' Γ' => lk ρ' 0 = .slice (some ⟨b, 0, none⟩) n c ∧ lk ρ' 1 = .int .i64 (a : Int) ∧ lk ρ' 2 = .int .i64 (e : Int) ∧ lk ρ' 7 = .int .i64 ((scanSorted ltInt d e i : Nat) : Int) ∧ lk ρ' 8 = .int .i64 ((5 - (m + 1) : Nat) : Int) ∧ Γ' = DD b c n d :: Γ)
    · intro k' hk'
      generalize hS : scanSorted ltInt d e i = I at hk'
      refine m_run ?_
      apply TK.iter (fun q ρ' Γ' => ∃ (x : Nat), e - x ≤ q ∧ i ≤ x ∧ x ≤ e ∧ scanSorted ltInt d e x = I ∧ lk ρ' 0 = .slice (some ⟨b, 0, none⟩) n c ∧ lk ρ' 1 = .int .i64 (a : Int) ∧ lk ρ' 2 = .int .i64 (e : Int) ∧ lk ρ' 7 = .int .i64 (x : Int) ∧ lk ρ' 8 = .int .i64 ((5 - (m + 1) : Nat) : Int) ∧ Γ' = DD b c n d :: Γ) e
      · exact ⟨i, by omega, Nat.le_refl _, hie, hS, rfl, rfl, rfl, rfl, rfl, rfl⟩
      clear hS
      rintro q IH2 ρ2 _ ⟨x, hq, hx1, hx2, hS, f0, f1, f2, f7, f8, rfl⟩
      refine TK.know5 f0 f1 f2 f7 f8 ?_
      rw [Sort.scanSorted] at hS
      by_cases hx : x < e
      · have hc1 := cellD (b := b) (c := c) (Γ := Γ) hsz (show x < n by omega)
        have hc2 := cellD (b := b) (c := c) (Γ := Γ) hsz (show x - 1 < n by omega)
        refine m_run ?_
        refine TK.drawS mixed rfl ?_
        refine m_take (At.mk : At 0) ?_; refine m_take (At.mk : At 1) ?_; refine m_take (At.mk : At 2) ?_
        refine TA.isT 19 rfl (decide_eq_true (by omega)) ?_
        refine m_take (At.mk : At 3) ?_; refine m_take (At.mk : At 4) ?_; refine m_take (At.mk : At 5) ?_; refine m_take (At.mk : At 6) ?_; refine m_take (At.mk : At 7) ?_; refine m_take (At.mk : At 8) ?_; refine m_take (At.mk : At 9) ?_; refine m_take (At.mk : At 10) ?_
        refine TA.know (t := 27) (v := .int .i64 ((x - 1 : Nat) : Int)) (congrArg (Value.int .i64) (by rw [i64_in (by omega) (by omega)]; omega)) ?_
        refine m_take (At.mk : At 11) ?_; refine m_take (At.mk : At 12) ?_
        (apply TA.one 13; kernel_rfl; exact rfl)
        refine m_rrun ?_
        (apply TL.callV; exact rfl; exact callB_of (by kernel_rfl); exact rfl; exact fun _ h => h)
        exact less_t _ _ _
        rintro _ _ ⟨rfl, rfl⟩
        refine TL.back (by (focus ((repeat (first | assumption | exact Ent.refl _ | apply Ent.tail)); done))) ?_
        refine m_take (At.mk : At 14) ?_; refine m_take (At.mk : At 15) ?_
        by_cases h : d[x]! < d[x - 1]!
        · rw [if_neg (by simp [ltInt, h])] at hS
          refine TA.isF 32 rfl (not_f (decide_eq_true h)) ?_
          refine TA.done (by kernel_rfl) ?_
          clear hc1 hc2
          refine m_run ?_
          exact hk' _ _ ⟨rfl, rfl, rfl, congrArg (fun z : Nat => Value.int .i64 (z : Int)) hS, rfl, rfl⟩
        · rw [if_pos (by simp [ltInt, h]; omega)] at hS
          refine TA.isT 32 rfl (not_t (decide_eq_false h)) ?_
          refine TA.done (by kernel_rfl) ?_
          clear hc1 hc2
          refine m_run ?_
          exact IH2 (q - 1) _ _ (by omega) ⟨x + 1, by omega, by omega, by omega, hS, rfl, rfl, rfl, congrArg (Value.int .i64) (i64_succ x (by omega)), rfl, rfl⟩
      · rw [if_neg (by simp; omega)] at hS
        refine m_run ?_
        refine TK.drawS mixed rfl ?_
        refine m_take (At.mk : At 0) ?_; refine m_take (At.mk : At 1) ?_; refine m_take (At.mk : At 2) ?_
        refine TA.isF 19 rfl (decide_eq_false (by omega)) ?_
        refine m_take (At.mk : At 3) ?_; refine m_take (At.mk : At 4) ?_; refine m_take (At.mk : At 5) ?_; refine m_take (At.mk : At 6) ?_; refine m_take (At.mk : At 7) ?_; refine m_take (At.mk : At 8) ?_; refine m_take (At.mk : At 9) ?_; refine m_take (At.mk : At 10) ?_; refine m_take (At.mk : At 11) ?_; refine m_take (At.mk : At 12) ?_; refine m_take (At.mk : At 13) ?_; refine m_take (At.mk : At 14) ?_; refine m_take (At.mk : At 15) ?_
        refine TA.done (by kernel_rfl) ?_
        refine m_run ?_
        exact hk' _ _ ⟨rfl, rfl, rfl, congrArg (fun z : Nat => Value.int .i64 (z : Int)) hS, rfl, rfl⟩
    rintro ρ' _ ⟨e0, e1, e2, e7, e8, rfl⟩
    refine TK.know5 e0 e1 e2 e7 e8 ?_
    have hea : IntKind.i64.wrap ((e : Int) - (a : Int)) = ((e - a : Nat) : Int) := by rw [i64_in (by omega) (by omega)]; omega
    generalize scanSorted ltInt d e i = y at *
    have hya : IntKind.i64.wrap ((y : Int) - (a : Int)) = ((y - a : Nat) : Int) := by rw [i64_in (by omega) (by omega)]; omega
    have hey : IntKind.i64.wrap ((e : Int) - (y : Int)) = ((e - y : Nat) : Int) := by rw [i64_in (by omega) (by omega)]; omega
    by_cases hye : y = e
    · rw [if_pos hye] at hR
      rw [← hR]
      refine m_run ?_
      (apply TK.ret1; exact rfl; exact rfl; (exact m_val))
      exact ⟨_, rfl, rfl, rfl⟩
    rw [if_neg hye] at hR
    by_cases h50 : e - a < 50
    · rw [if_pos h50] at hR
      rw [← hR]
      refine m_run ?_
      refine TK.know (t := 41) (v := .bool true) (congrArg Value.bool (by rw [hea]; exact decide_eq_true (by omega))) ?_
      refine m_run ?_
      (apply TK.ret1; exact rfl; exact rfl; (exact m_val))
      exact ⟨_, rfl, rfl, rfl⟩
    rw [if_neg h50] at hR
    unfold fixUp fixDown at hR
    refine m_run ?_
    refine TK.know (t := 41) (v := .bool false) (congrArg Value.bool (by rw [hea]; exact decide_eq_false (by omega))) ?_
    refine m_run ?_
    have hcI := cellD (b := b) (c := c) (Γ := Γ) hsz (show y < n by omega)
    have hcK := cellD (b := b) (c := c) (Γ := Γ) hsz (show y - 1 < n by omega)
    refine TK.drawB mixed rfl 15 (DD b c n d :: Γ) (Γ) ?_
    refine m_bake (At.mk : At 0) ?_; refine m_bake (At.mk : At 1) ?_; refine m_bake (At.mk : At 2) ?_; refine m_bake (At.mk : At 3) ?_; refine m_bake (At.mk : At 4) ?_
    refine TB.know (t := 46) (v := .int .i64 ((y - 1 : Nat) : Int)) (congrArg (Value.int .i64) (by rw [i64_in (by omega) (by omega)]; omega)) ?_
    refine m_bake (At.mk : At 5) ?_; refine m_bake (At.mk : At 6) ?_; refine m_bake (At.mk : At 7) ?_
    refine TB.know (t := 49) (v := .int .i64 ((y - 1 : Nat) : Int)) (congrArg (Value.int .i64) (by rw [i64_in (by omega) (by omega)]; omega)) ?_
    refine m_bake (At.mk : At 8) ?_; refine m_bake (At.mk : At 9) ?_; refine m_bake (At.mk : At 10) ?_; refine m_bake (At.mk : At 11) ?_; refine m_bake (At.mk : At 12) ?_; refine m_bake (At.mk : At 13) ?_; refine m_bake (At.mk : At 14) ?_
    (apply TB.last; kernel_rfl; exact rfl)
    (apply TL.storeOwn 0 (y); exact rfl; exact rfl; exact rfl; exact rfl; exact tb rfl; exact rfl; exact (Nat.zero_add _).symm; exact (by omega))
    refine TL.back (by (focus ((repeat (first | assumption | exact Ent.refl _ | apply Ent.tail)); done))) ?_
    refine m_take (At.mk : At 16) ?_
    (apply TA.one 17; kernel_rfl; exact rfl)
    (apply TL.storeOwn 0 (y - 1); exact rfl; exact rfl; exact rfl; exact rfl; exact tb rfl; exact rfl; exact (Nat.zero_add _).symm; exact (by omega))
    refine TL.back (by (focus ((repeat (first | assumption | exact Ent.refl _ | apply Ent.tail)); done))) ?_
    refine TA.done (by kernel_rfl) ?_
    refine TK.imp (Δ := DD b c n (swp d (y) (y - 1)) :: Γ) (fun _ h => by show all (own _ _ _ _ (nums _ (swp d (y) (y - 1)).toList) :: _) _; rw [← swpD]; exact h) ?_
    have hsz : (swp d (y) (y - 1)).size = n := (size_swp _ _ _).trans hsz
    clear hcI hcK
    generalize swp d y (y - 1) = d at *
    (repeat (first | refine TK.seq ?_ | refine TK.skip ?_))
    refine TK.region ?_
    refine m_rrun ?_
    refine TL.nil ?_
    (repeat (first | refine TK.seq ?_ | refine TK.skip ?_))
    apply TK.cut (fun ρ' Γ' => lk ρ' 0 = .slice (some ⟨b, 0, none⟩) n c ∧ lk ρ' 1 = .int .i64 (a : Int) ∧ lk ρ' 2 = .int .i64 (e : Int) ∧ lk ρ' 7 = .int .i64 (y : Int) ∧ lk ρ' 8 = .int .i64 ((5 - (m + 1) : Nat) : Int) ∧ Γ' = DD b c n (if y - a ≥ 2 then shiftDown ltInt (y - 1) d else d) :: Γ)
    · intro k' hk'
      by_cases h2 : y - a ≥ 2
      · rw [if_pos h2] at hk'
        refine TK.know (t := 61) (v := .bool true) (congrArg Value.bool (by rw [hya]; exact decide_eq_true (by omega))) ?_
        refine m_run ?_
        generalize hS : shiftDown ltInt (y - 1) d = Y at hk'
        apply TK.iter (fun q ρ' Γ' => ∃ (d : Array Int), q + 1 ≤ y ∧ d.size = n ∧ shiftDown ltInt q d = Y ∧ lk ρ' 0 = .slice (some ⟨b, 0, none⟩) n c ∧ lk ρ' 1 = .int .i64 (a : Int) ∧ lk ρ' 2 = .int .i64 (e : Int) ∧ lk ρ' 7 = .int .i64 (y : Int) ∧ lk ρ' 8 = .int .i64 ((5 - (m + 1) : Nat) : Int) ∧ lk ρ' 9 = .int .i64 (q : Int) ∧ Γ' = DD b c n d :: Γ) (y - 1)
        · exact ⟨d, by omega, hsz, hS, rfl, rfl, rfl, rfl, rfl, congrArg (Value.int .i64) (by rw [i64_in (by omega) (by omega)]; omega), rfl⟩
        clear hS hsz hR
        rintro q IH2 ρ2 _ ⟨d, hq, hsz, hS, f0, f1, f2, f7, f8, f9, rfl⟩
        refine TK.know6 f0 f1 f2 f7 f8 f9 ?_
        cases q with
        | zero =>
          rw [Sort.shiftDown] at hS
          rw [hS]
          refine m_run ?_
          exact hk' _ _ ⟨rfl, rfl, rfl, rfl, rfl, rfl⟩
        | succ w =>
          rw [Sort.shiftDown] at hS
          have hc1 := cellD (b := b) (c := c) (Γ := Γ) hsz (show w + 1 < n by omega)
          have hc2 := cellD (b := b) (c := c) (Γ := Γ) hsz (show w < n by omega)
          refine m_run ?_
          refine TK.drawS mixed rfl ?_
          refine m_take (At.mk : At 0) ?_; refine m_take (At.mk : At 1) ?_; refine m_take (At.mk : At 2) ?_; refine m_take (At.mk : At 3) ?_; refine m_take (At.mk : At 4) ?_; refine m_take (At.mk : At 5) ?_; refine m_take (At.mk : At 6) ?_
          refine TA.know (t := 74) (v := .int .i64 ((w : Nat) : Int)) (congrArg (Value.int .i64) (by rw [i64_in (by omega) (by omega)]; omega)) ?_
          refine m_take (At.mk : At 7) ?_; refine m_take (At.mk : At 8) ?_
          (apply TA.one 9; kernel_rfl; exact rfl)
          (apply TL.callV; exact rfl; exact callB_of (by kernel_rfl); exact rfl; exact fun _ h => h)
          exact less_t _ _ _
          rintro _ _ ⟨rfl, rfl⟩
          refine TL.back (by (focus ((repeat (first | assumption | exact Ent.refl _ | apply Ent.tail)); done))) ?_
          refine m_take (At.mk : At 10) ?_
          by_cases h : d[w + 1]! < d[w]!
          · rw [if_neg (by simp [ltInt, h])] at hS
            refine TA.isF 78 rfl (not_f (decide_eq_true h)) ?_
            refine TA.done (by kernel_rfl) ?_
            clear hc1 hc2
            refine m_run ?_
            have hcI := cellD (b := b) (c := c) (Γ := Γ) hsz (show w + 1 < n by omega)
            have hcK := cellD (b := b) (c := c) (Γ := Γ) hsz (show w < n by omega)
            refine TK.drawB mixed rfl 15 (DD b c n d :: Γ) (Γ) ?_
            refine m_bake (At.mk : At 0) ?_; refine m_bake (At.mk : At 1) ?_; refine m_bake (At.mk : At 2) ?_; refine m_bake (At.mk : At 3) ?_; refine m_bake (At.mk : At 4) ?_
            refine TB.know (t := 83) (v := .int .i64 ((w : Nat) : Int)) (congrArg (Value.int .i64) (by rw [i64_in (by omega) (by omega)]; omega)) ?_
            refine m_bake (At.mk : At 5) ?_; refine m_bake (At.mk : At 6) ?_; refine m_bake (At.mk : At 7) ?_
            refine TB.know (t := 86) (v := .int .i64 ((w : Nat) : Int)) (congrArg (Value.int .i64) (by rw [i64_in (by omega) (by omega)]; omega)) ?_
            refine m_bake (At.mk : At 8) ?_; refine m_bake (At.mk : At 9) ?_; refine m_bake (At.mk : At 10) ?_; refine m_bake (At.mk : At 11) ?_; refine m_bake (At.mk : At 12) ?_; refine m_bake (At.mk : At 13) ?_; refine m_bake (At.mk : At 14) ?_
            (apply TB.last; kernel_rfl; exact rfl)
            (apply TL.storeOwn 0 (w + 1); exact rfl; exact rfl; exact rfl; exact rfl; exact tb rfl; exact rfl; exact (Nat.zero_add _).symm; exact (by omega))
            refine TL.back (by (focus ((repeat (first | assumption | exact Ent.refl _ | apply Ent.tail)); done))) ?_
            refine m_take (At.mk : At 16) ?_
            (apply TA.one 17; kernel_rfl; exact rfl)
            (apply TL.storeOwn 0 (w); exact rfl; exact rfl; exact rfl; exact rfl; exact tb rfl; exact rfl; exact (Nat.zero_add _).symm; exact (by omega))
            refine TL.back (by (focus ((repeat (first | assumption | exact Ent.refl _ | apply Ent.tail)); done))) ?_
            refine TA.done (by kernel_rfl) ?_
            refine TK.imp (Δ := DD b c n (swp d (w + 1) (w)) :: Γ) (fun _ h => by show all (own _ _ _ _ (nums _ (swp d (w + 1) (w)).toList) :: _) _; rw [← swpD]; exact h) ?_
            have hsz : (swp d (w + 1) (w)).size = n := (size_swp _ _ _).trans hsz
            clear hcI hcK
            refine m_run ?_
            exact IH2 w _ _ (by omega) ⟨_, by omega, hsz, hS, rfl, rfl, rfl, rfl, rfl, congrArg (Value.int .i64) (by rw [i64_in (by omega) (by omega)]; omega), rfl⟩
          · rw [if_pos (by simp [ltInt, h])] at hS
            refine TA.isT 78 rfl (not_t (decide_eq_false h)) ?_
            refine TA.done (by kernel_rfl) ?_
            rw [hS]
            refine m_run ?_
            exact hk' _ _ ⟨rfl, rfl, rfl, rfl, rfl, rfl⟩
      · rw [if_neg h2] at hk'
        refine TK.know (t := 61) (v := .bool false) (congrArg Value.bool (by rw [hya]; exact decide_eq_false (by omega))) ?_
        refine m_run ?_
        exact hk' _ _ ⟨rfl, rfl, rfl, rfl, rfl, rfl⟩
    rintro ρ' _ ⟨e0, e1, e2, e7, e8, rfl⟩
    refine TK.know5 e0 e1 e2 e7 e8 ?_
    have hsz : (if y - a ≥ 2 then shiftDown ltInt (y - 1) d else d).size = n := by
      split
      · rw [shiftDown_size]; exact hsz
      · exact hsz
    generalize (if y - a ≥ 2 then shiftDown ltInt (y - 1) d else d) = d at *
    (repeat (first | refine TK.seq ?_ | refine TK.skip ?_))
    refine TK.region ?_
    refine m_rrun ?_
    refine TL.nil ?_
    (repeat (first | refine TK.seq ?_ | refine TK.skip ?_))
    apply TK.cut (fun ρ' Γ' => lk ρ' 0 = .slice (some ⟨b, 0, none⟩) n c ∧ lk ρ' 1 = .int .i64 (a : Int) ∧ lk ρ' 2 = .int .i64 (e : Int) ∧ lk ρ' 7 = .int .i64 (y : Int) ∧ lk ρ' 8 = .int .i64 ((5 - (m + 1) : Nat) : Int) ∧ Γ' = DD b c n (if e - y ≥ 2 then shiftUp ltInt e (y + 1) d else d) :: Γ)
    · intro k' hk'
      by_cases h2 : e - y ≥ 2
      · rw [if_pos h2] at hk'
        refine TK.know (t := 98) (v := .bool true) (congrArg Value.bool (by rw [hey]; exact decide_eq_true (by omega))) ?_
        refine m_run ?_
        generalize hS : shiftUp ltInt e (y + 1) d = Y at hk'
        apply TK.iter (fun q ρ' Γ' => ∃ (x : Nat) (d : Array Int), e - x ≤ q ∧ y + 1 ≤ x ∧ x ≤ e ∧ d.size = n ∧ shiftUp ltInt e x d = Y ∧ lk ρ' 0 = .slice (some ⟨b, 0, none⟩) n c ∧ lk ρ' 1 = .int .i64 (a : Int) ∧ lk ρ' 2 = .int .i64 (e : Int) ∧ lk ρ' 7 = .int .i64 (y : Int) ∧ lk ρ' 8 = .int .i64 ((5 - (m + 1) : Nat) : Int) ∧ lk ρ' 10 = .int .i64 (x : Int) ∧ Γ' = DD b c n d :: Γ) e
        · exact ⟨y + 1, d, by omega, Nat.le_refl _, by omega, hsz, hS, rfl, rfl, rfl, rfl, rfl, congrArg (Value.int .i64) (i64_succ y (by omega)), rfl⟩
        clear hS hsz hR
        rintro q IH2 ρ2 _ ⟨x, d, hq, hx1, hx2, hsz, hS, f0, f1, f2, f7, f8, f10, rfl⟩
        refine TK.know6 f0 f1 f2 f7 f8 f10 ?_
        rw [Sort.shiftUp] at hS
        by_cases hx : x < e
        · rw [if_pos hx] at hS
          have hc1 := cellD (b := b) (c := c) (Γ := Γ) hsz (show x < n by omega)
          have hc2 := cellD (b := b) (c := c) (Γ := Γ) hsz (show x - 1 < n by omega)
          refine m_run ?_
          refine TK.drawS mixed rfl ?_
          refine m_take (At.mk : At 0) ?_; refine m_take (At.mk : At 1) ?_; refine m_take (At.mk : At 2) ?_; refine m_take (At.mk : At 3) ?_; refine m_take (At.mk : At 4) ?_; refine m_take (At.mk : At 5) ?_; refine m_take (At.mk : At 6) ?_
          refine TA.know (t := 112) (v := .int .i64 ((x - 1 : Nat) : Int)) (congrArg (Value.int .i64) (by rw [i64_in (by omega) (by omega)]; omega)) ?_
          refine m_take (At.mk : At 7) ?_; refine m_take (At.mk : At 8) ?_
          (apply TA.one 9; kernel_rfl; exact rfl)
          (apply TL.callV; exact rfl; exact callB_of (by kernel_rfl); exact rfl; exact fun _ h => h)
          exact less_t _ _ _
          rintro _ _ ⟨rfl, rfl⟩
          refine TL.back (by (focus ((repeat (first | assumption | exact Ent.refl _ | apply Ent.tail)); done))) ?_
          refine m_take (At.mk : At 10) ?_
          by_cases h : d[x]! < d[x - 1]!
          · rw [if_neg (by simp [ltInt, h])] at hS
            refine TA.isF 116 rfl (not_f (decide_eq_true h)) ?_
            refine TA.done (by kernel_rfl) ?_
            clear hc1 hc2
            refine m_run ?_
            have hcI := cellD (b := b) (c := c) (Γ := Γ) hsz (show x < n by omega)
            have hcK := cellD (b := b) (c := c) (Γ := Γ) hsz (show x - 1 < n by omega)
            refine TK.drawB mixed rfl 15 (DD b c n d :: Γ) (Γ) ?_
            refine m_bake (At.mk : At 0) ?_; refine m_bake (At.mk : At 1) ?_; refine m_bake (At.mk : At 2) ?_; refine m_bake (At.mk : At 3) ?_; refine m_bake (At.mk : At 4) ?_
            refine TB.know (t := 121) (v := .int .i64 ((x - 1 : Nat) : Int)) (congrArg (Value.int .i64) (by rw [i64_in (by omega) (by omega)]; omega)) ?_
            refine m_bake (At.mk : At 5) ?_; refine m_bake (At.mk : At 6) ?_; refine m_bake (At.mk : At 7) ?_
            refine TB.know (t := 124) (v := .int .i64 ((x - 1 : Nat) : Int)) (congrArg (Value.int .i64) (by rw [i64_in (by omega) (by omega)]; omega)) ?_
            refine m_bake (At.mk : At 8) ?_; refine m_bake (At.mk : At 9) ?_; refine m_bake (At.mk : At 10) ?_; refine m_bake (At.mk : At 11) ?_; refine m_bake (At.mk : At 12) ?_; refine m_bake (At.mk : At 13) ?_; refine m_bake (At.mk : At 14) ?_
            (apply TB.last; kernel_rfl; exact rfl)
            (apply TL.storeOwn 0 (x); exact rfl; exact rfl; exact rfl; exact rfl; exact tb rfl; exact rfl; exact (Nat.zero_add _).symm; exact (by omega))
            refine TL.back (by (focus ((repeat (first | assumption | exact Ent.refl _ | apply Ent.tail)); done))) ?_
            refine m_take (At.mk : At 16) ?_
            (apply TA.one 17; kernel_rfl; exact rfl)
            (apply TL.storeOwn 0 (x - 1); exact rfl; exact rfl; exact rfl; exact rfl; exact tb rfl; exact rfl; exact (Nat.zero_add _).symm; exact (by omega))
            refine TL.back (by (focus ((repeat (first | assumption | exact Ent.refl _ | apply Ent.tail)); done))) ?_
            refine TA.done (by kernel_rfl) ?_
            refine TK.imp (Δ := DD b c n (swp d (x) (x - 1)) :: Γ) (fun _ h => by show all (own _ _ _ _ (nums _ (swp d (x) (x - 1)).toList) :: _) _; rw [← swpD]; exact h) ?_
            have hsz : (swp d (x) (x - 1)).size = n := (size_swp _ _ _).trans hsz
            clear hcI hcK
            refine m_run ?_
            exact IH2 (q - 1) _ _ (by omega) ⟨x + 1, _, by omega, by omega, by omega, hsz, hS, rfl, rfl, rfl, rfl, rfl, congrArg (Value.int .i64) (i64_succ x (by omega)), rfl⟩
          · rw [if_pos (by simp [ltInt, h])] at hS
            refine TA.isT 116 rfl (not_t (decide_eq_false h)) ?_
            refine TA.done (by kernel_rfl) ?_
            rw [hS]
            refine m_run ?_
            exact hk' _ _ ⟨rfl, rfl, rfl, rfl, rfl, rfl⟩
        · rw [if_neg hx] at hS
          rw [hS]
          refine m_run ?_
          exact hk' _ _ ⟨rfl, rfl, rfl, rfl, rfl, rfl⟩
      · rw [if_neg h2] at hk'
        refine TK.know (t := 98) (v := .bool false) (congrArg Value.bool (by rw [hey]; exact decide_eq_false (by omega))) ?_
        refine m_run ?_
        exact hk' _ _ ⟨rfl, rfl, rfl, rfl, rfl, rfl⟩
    rintro ρ' _ ⟨e0, e1, e2, e7, e8, rfl⟩
    refine TK.know5 e0 e1 e2 e7 e8 ?_
    have hsz : (if e - y ≥ 2 then shiftUp ltInt e (y + 1) d else d).size = n := by
      split
      · rw [shiftUp_size]; exact hsz
      · exact hsz
    refine m_run ?_
    exact IH m _ _ (by omega) ⟨y, _, by omega, by omega, by omega, hsz, hR, rfl, rfl, rfl, rfl, congrArg (Value.int .i64) (by rw [i64_in (by omega) (by omega)]; omega), rfl⟩

def okTab (a : ByteArray) : Bool := Nat.beq a.size 256 && (List.range 256).all fun i => Nat.ble (a.get! i).toNat 8 && (Nat.beq i 0 || Nat.ble (2 ^ (a.get! i).toNat) (2 * i))
theorem okTab_spec {a : ByteArray} (h : okTab a = true) {i : Nat} (hi : i < 256) (hs : i < a.size) : (a[i]'hs).toNat ≤ 8 ∧ (0 < i → 2 ^ (a[i]'hs).toNat ≤ 2 * i) := by
  unfold okTab at h
  rw [Bool.and_eq_true] at h
  have h1 := List.all_eq_true.1 h.2 i (List.mem_range.2 hi)
  have e : a.get! i = a[i]'hs := by
    rw [ByteArray.getElem_eq_getElem_data]
    show a.data[i]! = _
    exact getElem!_pos a.data i hs
  rw [e, Bool.and_eq_true, Bool.or_eq_true] at h1
  refine ⟨Nat.le_of_ble_eq_true h1.1, fun h0 => ?_⟩
  rcases h1.2 with h2 | h2
  · have := Nat.eq_of_beq_eq_true h2; omega
  · exact Nat.le_of_ble_eq_true h2
theorem TL.indexTab {cx : Cx} {ops : Array Oper} {K : Act → World → Prop} {rest : List Oper} {ρ : Env} {ds : List Deferred} {Γ : List HP} {d : Nat} {ty t : TypeId} {pos : String} {after : Array Edge} {x y : Operand} {a : ByteArray} {q : IntKind} {i : Nat} {r : TR} (hd : Nat.blt d cx.n = true) (ea : ev ρ x = .string a) (eb : ev ρ y = .int q i) (ht : TabOk cx.P t r) (hq : r.und = .string) (hok : okTab a = true) (hi : i < 256)
    (h : ∀ u : Nat, u ≤ 8 → (0 < i → 2 ^ u ≤ 2 * i) → TL cx ops K rest ((d, .int .u8 (u : Int)) :: ρ) ds Γ) : TL cx ops K (⟨some d, .index t x y, ty, pos, after, none⟩ :: rest) ρ ds Γ := by
  have hs : i < a.size := by
    unfold okTab at hok
    rw [Bool.and_eq_true] at hok
    rw [Nat.eq_of_beq_eq_true hok.1]; exact hi
  obtain ⟨h1, h2⟩ := okTab_spec hok hi hs
  exact TL.pv hd (PV.indexStr ea eb ht hq hs) (h _ h1 h2)
theorem bxor_nat (a b : Int) : ∃ y : Nat, bitsOf .xor .u64 a b = (y : Int) ∧ y < 18446744073709551616 := by
  refine ⟨(BitVec.ofInt 64 a ^^^ BitVec.ofInt 64 b).toNat % 2 ^ 64, ?_, Nat.mod_lt _ (by decide)⟩
  show IntKind.u64.wrap _ = _
  exact wrap_nat rfl _
set_option maxRecDepth 100000 in
set_option maxHeartbeats 4000000 in
theorem len64_t (n : Nat) (hn : n ≤ 1000000000) (Γ : List HP) : FnV Try.prog 84 [.int .u64 (n : Int)] Γ fun v Γ' => ∃ L : Nat, L ≤ 32 ∧ (0 < n → 2 ^ L ≤ 2 * n) ∧ v = .int .i64 (L : Int) ∧ Γ' = Γ := by
  refine Fn.enter Try.func84 rfl rfl rfl fun E => ?_
  by_cases h16 : 65536 ≤ n
  · have h17 : 256 ≤ n / 2 ^ 16 ∨ ¬ 256 ≤ n / 2 ^ 16 := Decidable.em _
    rcases h17 with h8 | h8
    · have hm : n / 2 ^ 16 / 2 ^ 8 < 256 := by omega
      have hm0 : 0 < n / 2 ^ 16 / 2 ^ 8 := by omega
      have hd : n / 2 ^ 16 / 2 ^ 8 * 16777216 ≤ n := by omega
      refine m_run ?_
      generalize n / 2 ^ 16 / 2 ^ 8 = m at *
      refine TL.know (t := 21) (v := .int .u8 ((m : Nat) : Int)) (congrArg (Value.int .u8) (u8_in (by omega) (by omega))) ?_
      (apply TL.indexTab (i := m); exact rfl; exact rfl; exact rfl; exact tb rfl; exact rfl; kernel_rfl; exact (by omega))
      intro u hu hu2
      refine m_run ?_
      refine TK.know (t := 2) (v := .int .i64 ((24 + u : Nat) : Int)) (congrArg (Value.int .i64) (by rw [i64_in (x := (0 : Int) + 16) (by decide) (by decide), i64_in (x := (0 : Int) + 16 + 8) (by decide) (by decide), i64_in (x := (u : Int)) (by omega) (by omega), i64_in (by omega) (by omega)]; omega)) ?_
      (apply TK.ret1; exact rfl; exact rfl; (exact m_val))
      exact ⟨_, rfl, _, by omega, fun h0 => by have := hu2 (by omega); rw [Nat.pow_add]; show 16777216 * 2 ^ u ≤ _; generalize 2 ^ u = w at *; omega, rfl, rfl⟩
    · have hm : n / 2 ^ 16 < 256 := by omega
      have hm0 : 0 < n / 2 ^ 16 := by omega
      have hd : n / 2 ^ 16 * 65536 ≤ n := by omega
      refine m_run ?_
      generalize n / 2 ^ 16 = m at *
      refine TL.know (t := 21) (v := .int .u8 ((m : Nat) : Int)) (congrArg (Value.int .u8) (u8_in (by omega) (by omega))) ?_
      (apply TL.indexTab (i := m); exact rfl; exact rfl; exact rfl; exact tb rfl; exact rfl; kernel_rfl; exact (by omega))
      intro u hu hu2
      refine m_run ?_
      refine TK.know (t := 2) (v := .int .i64 ((16 + u : Nat) : Int)) (congrArg (Value.int .i64) (by rw [i64_in (x := (0 : Int) + 16) (by decide) (by decide), i64_in (x := (u : Int)) (by omega) (by omega), i64_in (by omega) (by omega)]; omega)) ?_
      (apply TK.ret1; exact rfl; exact rfl; (exact m_val))
      exact ⟨_, rfl, _, by omega, fun h0 => by have := hu2 (by omega); rw [Nat.pow_add]; show 65536 * 2 ^ u ≤ _; generalize 2 ^ u = w at *; omega, rfl, rfl⟩
  · by_cases h8 : 256 ≤ n
    · have hm : n / 2 ^ 8 < 256 := by omega
      have hm0 : 0 < n / 2 ^ 8 := by omega
      have hd : n / 2 ^ 8 * 256 ≤ n := by omega
      refine m_run ?_
      generalize n / 2 ^ 8 = m at *
      refine TL.know (t := 21) (v := .int .u8 ((m : Nat) : Int)) (congrArg (Value.int .u8) (u8_in (by omega) (by omega))) ?_
      (apply TL.indexTab (i := m); exact rfl; exact rfl; exact rfl; exact tb rfl; exact rfl; kernel_rfl; exact (by omega))
      intro u hu hu2
      refine m_run ?_
      refine TK.know (t := 2) (v := .int .i64 ((8 + u : Nat) : Int)) (congrArg (Value.int .i64) (by rw [i64_in (x := (0 : Int) + 8) (by decide) (by decide), i64_in (x := (u : Int)) (by omega) (by omega), i64_in (by omega) (by omega)]; omega)) ?_
      (apply TK.ret1; exact rfl; exact rfl; (exact m_val))
      exact ⟨_, rfl, _, by omega, fun h0 => by have := hu2 (by omega); rw [Nat.pow_add]; show 256 * 2 ^ u ≤ _; generalize 2 ^ u = w at *; omega, rfl, rfl⟩
    · refine m_run ?_
      refine TL.know (t := 21) (v := .int .u8 ((n : Nat) : Int)) (congrArg (Value.int .u8) (u8_in (by omega) (by omega))) ?_
      (apply TL.indexTab (i := n); exact rfl; exact rfl; exact rfl; exact tb rfl; exact rfl; kernel_rfl; exact (by omega))
      intro u hu hu2
      refine m_run ?_
      refine TK.know (t := 2) (v := .int .i64 ((0 + u : Nat) : Int)) (congrArg (Value.int .i64) (by rw [i64_in (x := (u : Int)) (by omega) (by omega), i64_in (by omega) (by omega)]; omega)) ?_
      (apply TK.ret1; exact rfl; exact rfl; (exact m_val))
      exact ⟨_, rfl, _, by omega, fun h0 => by rw [Nat.zero_add]; exact hu2 h0, rfl, rfl⟩
set_option maxRecDepth 100000 in
set_option maxHeartbeats 4000000 in
theorem len_t (n : Nat) (hn : n ≤ 1000000000) (Γ : List HP) : FnV Try.prog 57 [.int .u64 (n : Int)] Γ fun v Γ' => ∃ L : Nat, L ≤ 32 ∧ (0 < n → 2 ^ L ≤ 2 * n) ∧ v = .int .i64 (L : Int) ∧ Γ' = Γ := by
  refine Fn.enter Try.func57 rfl rfl rfl fun E => ?_
  refine m_run ?_
  (apply TL.callV; exact rfl; exact callB_of (by kernel_rfl); exact rfl; exact fun _ h => h)
  exact len64_t n hn Γ
  rintro _ Γ ⟨L, h1, h2, rfl, rfl⟩
  refine m_run ?_
  (apply TK.ret1; exact rfl; exact rfl; (exact m_val))
  exact ⟨_, rfl, L, h1, h2, rfl, rfl⟩
set_option maxRecDepth 100000 in
set_option maxHeartbeats 4000000 in
theorem npow_t (n : Nat) (h0 : 0 < n) (hn : n ≤ 1000000000) (Γ : List HP) : FnV Try.prog 108 [.int .i64 (n : Int)] Γ fun v Γ' => ∃ M : Nat, 1 ≤ M ∧ M ≤ 2 * n ∧ v = .int .u64 (M : Int) ∧ Γ' = Γ := by
  refine Fn.enter Try.func108 rfl rfl rfl fun E => ?_
  refine m_run ?_
  refine TL.know (t := 4) (v := .int .u64 (n : Int)) (congrArg (Value.int .u64) (u64_nat (by omega))) ?_
  (apply TL.callV; exact rfl; exact callB_of (by kernel_rfl); exact rfl; exact fun _ h => h)
  exact len_t n hn Γ
  rintro _ Γ ⟨L, h1, h2, rfl, rfl⟩
  have h2 := h2 h0
  have h3 := Nat.two_pow_pos L
  have hw : IntKind.u64.wrap (1 * 2 ^ (min ((L : Int)).toNat IntKind.u64.bits)) = ((2 ^ L : Nat) : Int) := by
    rw [Int.toNat_natCast, Nat.min_eq_left (by show L ≤ 64; omega), Int.one_mul, show (2 : Int) ^ L = ((2 ^ L : Nat) : Int) by simp, u64_nat (by omega)]
  (apply TL.pv; exact rfl; (apply PV.shl; exact rfl; exact rfl; exact (by omega)))
  rw [hw]
  generalize 2 ^ L = M at *
  refine m_run ?_
  (apply TK.ret1; exact rfl; exact rfl; (exact m_val))
  exact ⟨_, rfl, M, h3, h2, rfl, rfl⟩
set_option maxRecDepth 100000 in
set_option maxHeartbeats 4000000 in
theorem next_t (s x : Nat) (Γ : List HP) : FnV Try.prog 109 [.pointer (some ⟨s, 0, none⟩)] (row s [.int .u64 (x : Int)] 170 :: Γ) fun v Γ' => ∃ y : Nat, y < 18446744073709551616 ∧ v = .int .u64 (y : Int) ∧ Γ' = row s [.int .u64 (y : Int)] 170 :: Γ := by
  refine Fn.enter Try.func109 rfl rfl rfl fun E => ?_
  refine m_run ?_
  refine TK.drawB mixed rfl 9 (row s [.int .u64 (x : Int)] 170 :: Γ) Γ ?_
  refine m_bake (At.mk : At 0) ?_; refine m_bake (At.mk : At 1) ?_; refine m_bake (At.mk : At 2) ?_; refine m_bake (At.mk : At 3) ?_; refine m_bake (At.mk : At 4) ?_; refine m_bake (At.mk : At 5) ?_
  (apply TB.takeA (At.mk : At 6); exact rfl; exact rfl; kernel_rfl; exact rfl; ((focus ((repeat (first | assumption | exact Ent.refl _ | apply Ent.tail)); done))); (apply PV.shl; exact rfl; exact rfl; exact (by decide)))
  refine m_bake (At.mk : At 7) ?_; refine m_bake (At.mk : At 8) ?_
  (apply TB.last; kernel_rfl; exact rfl)
  refine m_rrun ?_
  refine TL.back (by (focus ((repeat (first | assumption | exact Ent.refl _ | apply Ent.tail)); done))) ?_
  refine TA.done (by kernel_rfl) ?_
  generalize bitsOf .xor .u64 _ _ = x1
  refine m_run ?_
  refine TK.drawB mixed rfl 9 (row s [.int .u64 x1] 170 :: Γ) Γ ?_
  refine m_bake (At.mk : At 0) ?_; refine m_bake (At.mk : At 1) ?_; refine m_bake (At.mk : At 2) ?_; refine m_bake (At.mk : At 3) ?_; refine m_bake (At.mk : At 4) ?_; refine m_bake (At.mk : At 5) ?_
  (apply TB.takeA (At.mk : At 6); exact rfl; exact rfl; kernel_rfl; exact rfl; ((focus ((repeat (first | assumption | exact Ent.refl _ | apply Ent.tail)); done))); (apply PV.shr; exact rfl; exact rfl; exact (by decide)))
  refine m_bake (At.mk : At 7) ?_; refine m_bake (At.mk : At 8) ?_
  (apply TB.last; kernel_rfl; exact rfl)
  refine m_rrun ?_
  refine TL.back (by (focus ((repeat (first | assumption | exact Ent.refl _ | apply Ent.tail)); done))) ?_
  refine TA.done (by kernel_rfl) ?_
  generalize bitsOf .xor .u64 _ _ = x2
  refine m_run ?_
  refine TK.drawB mixed rfl 9 (row s [.int .u64 x2] 170 :: Γ) Γ ?_
  refine m_bake (At.mk : At 0) ?_; refine m_bake (At.mk : At 1) ?_; refine m_bake (At.mk : At 2) ?_; refine m_bake (At.mk : At 3) ?_; refine m_bake (At.mk : At 4) ?_; refine m_bake (At.mk : At 5) ?_
  (apply TB.takeA (At.mk : At 6); exact rfl; exact rfl; kernel_rfl; exact rfl; ((focus ((repeat (first | assumption | exact Ent.refl _ | apply Ent.tail)); done))); (apply PV.shl; exact rfl; exact rfl; exact (by decide)))
  refine m_bake (At.mk : At 7) ?_
  obtain ⟨y, hy, hy2⟩ := bxor_nat x2 (IntKind.u64.wrap (x2 * 2 ^ min (Int.toNat 17) IntKind.u64.bits))
  refine TB.know (t := 28) (v := .int .u64 (y : Int)) (congrArg (Value.int .u64) hy) ?_
  refine m_bake (At.mk : At 8) ?_
  (apply TB.last; kernel_rfl; exact rfl)
  refine m_rrun ?_
  refine TL.back (by (focus ((repeat (first | assumption | exact Ent.refl _ | apply Ent.tail)); done))) ?_
  refine TA.done (by kernel_rfl) ?_
  refine m_run ?_
  (apply TK.ret1; exact rfl; exact rfl; (exact m_val))
  exact ⟨_, rfl, y, hy2, rfl, rfl⟩
set_option maxRecDepth 100000 in
set_option maxHeartbeats 4000000 in
theorem brk_t (b c n a e : Nat) (d0 : Array Int) (Γ : List HP) (hsz0 : d0.size = n) (hae : a + 12 < e) (he : e ≤ n) (hn : n ≤ 1000000000) :
    FnV Try.prog 87 [.slice (some ⟨b, 0, none⟩) n c, .int .i64 (a : Int), .int .i64 (e : Int)] (DD b c n d0 :: Γ) fun v Γ' => v = .tuple #[] ∧ ∃ d, PermIn a e d0 d ∧ Γ' = DD b c n d :: Γ := by
  refine Fn.enter Try.func87 rfl rfl rfl fun E => ?_
  have hq1 : (e - a) / 4 * 4 ≤ e - a := Nat.div_mul_le_self _ _
  have hq3 : 3 ≤ (e - a) / 4 := by omega
  have hqt : IntKind.i64.wrap (((e - a : Nat) : Int).tdiv 4) = (((e - a) / 4 : Nat) : Int) := by
    rw [show ((e - a : Nat) : Int).tdiv 4 = (((e - a) / 4 : Nat) : Int) from rfl, i64_in (by omega) (by omega)]
  generalize (e - a) / 4 = q at *
  have hea : IntKind.i64.wrap ((e : Int) - (a : Int)) = ((e - a : Nat) : Int) := by rw [i64_in (by omega) (by omega)]; omega
  refine m_run ?_
  refine TL.know (t := 17) (v := .int .u64 ((e - a : Nat) : Int)) (congrArg (Value.int .u64) (by rw [hea]; exact u64_nat (by omega))) ?_
  refine TL.know (t := 6) (v := .int .i64 ((e - a : Nat) : Int)) (congrArg (Value.int .i64) hea) ?_
  obtain ⟨L, hL⟩ : ∃ L, e - a = L := ⟨_, rfl⟩
  rw [hL] at hqt hq1 ⊢
  (apply TL.alloc; exact rfl; exact tb rfl; (exact m_lst))
  intro s
  refine m_run ?_
  refine TL.imp (Δ := row s [.int .u64 (L : Int)] 170 :: DD b c n d0 :: Γ) (fun _ h => h) ?_
  (apply TL.callV; exact rfl; exact callB_of (by kernel_rfl); exact rfl; exact fun _ h => h)
  exact npow_t L (by omega) (by omega) _
  rintro _ _ ⟨M, hM1, hM2, rfl, rfl⟩
  refine m_run ?_
  refine TK.know (t := 9) (v := .int .i64 ((a + q * 2 - 1 : Nat) : Int)) (congrArg (Value.int .i64) (by rw [hqt, i64_in (x := (q : Int) * 2) (by omega) (by omega), i64_in (x := (a : Int) + (q : Int) * 2) (by omega) (by omega), i64_in (by omega) (by omega)]; omega)) ?_
  apply TK.iter (fun m ρ' Γ' => ∃ (x y : Nat) (d : Array Int), x + m = a + q * 2 + 3 ∧ a + q * 2 ≤ x + 1 ∧ y < 18446744073709551616 ∧ PermIn a e d0 d ∧ lk ρ' 0 = .slice (some ⟨b, 0, none⟩) n c ∧ lk ρ' 1 = .int .i64 (a : Int) ∧ lk ρ' 6 = .int .i64 (L : Int) ∧ lk ρ' 7 = .pointer (some ⟨s, 0, none⟩) ∧ lk ρ' 8 = .int .u64 (M : Int) ∧ lk ρ' 9 = .int .i64 (x : Int) ∧ Γ' = row s [.int .u64 (y : Int)] 170 :: DD b c n d :: Γ) 4
  · exact ⟨a + q * 2 - 1, L, d0, by omega, by omega, by omega, permIn_refl _ _ _, rfl, rfl, rfl, rfl, rfl, rfl, rfl⟩
  rintro m IH ρ' _ ⟨x, y, d, hm, hx, hy, hP, e0, e1, e6, e7, e8, e9, rfl⟩
  refine TK.know6 e0 e1 e6 e7 e8 e9 ?_
  have hsz : d.size = n := hP.1.trans hsz0
  have hw : IntKind.i64.wrap (IntKind.i64.wrap ((a : Int) + IntKind.i64.wrap (IntKind.i64.wrap ((L : Int).tdiv 4) * 2)) + 1) = ((a + q * 2 + 1 : Nat) : Int) := by
    rw [hqt, i64_in (x := (q : Int) * 2) (by omega) (by omega), i64_in (x := (a : Int) + (q : Int) * 2) (by omega) (by omega), i64_in (by omega) (by omega)]; omega
  by_cases hx2 : x ≤ a + q * 2 + 1
  · refine m_run ?_
    (apply TL.callV; exact rfl; exact callB_of (by kernel_rfl); exact rfl; exact fun _ h => h)
    exact next_t s y _
    rintro _ _ ⟨z, hz, rfl, rfl⟩
    have hand : bitsOf .and .u64 (z : Int) ((M - 1 : Nat) : Int) = ((z &&& (M - 1) : Nat) : Int) := bits_and rfl hz (show M - 1 < 18446744073709551616 by omega)
    have hle : z &&& (M - 1) ≤ M - 1 := Nat.and_le_right
    have hM' : IntKind.u64.wrap ((M : Int) - 1) = ((M - 1 : Nat) : Int) := by rw [u64_in (by omega) (by omega)]; omega
    refine m_rrun ?_
    refine TL.know (t := 10) (v := .int .i64 ((z &&& (M - 1) : Nat) : Int)) (congrArg (Value.int .i64) (by rw [hM', hand]; exact i64_nat (by omega))) ?_
    generalize z &&& (M - 1) = o at *
    refine TL.nil ?_
    (repeat (first | refine TK.seq ?_ | refine TK.skip ?_))
    refine TK.region ?_
    refine m_rrun ?_
    refine TL.nil ?_
    (repeat (first | refine TK.seq ?_ | refine TK.skip ?_))
    apply TK.cut (fun ρ' Γ' => ∃ p : Nat, p < L ∧ lk ρ' 0 = .slice (some ⟨b, 0, none⟩) n c ∧ lk ρ' 1 = .int .i64 (a : Int) ∧ lk ρ' 6 = .int .i64 (L : Int) ∧ lk ρ' 7 = .pointer (some ⟨s, 0, none⟩) ∧ lk ρ' 8 = .int .u64 (M : Int) ∧ lk ρ' 9 = .int .i64 (x : Int) ∧ lk ρ' 10 = .int .i64 (p : Int) ∧ Γ' = row s [.int .u64 (z : Int)] 170 :: DD b c n d :: Γ)
    · intro k' hk'
      by_cases ho : L ≤ o
      · refine m_run ?_
        exact hk' _ _ ⟨o - L, by omega, rfl, rfl, rfl, rfl, rfl, rfl, congrArg (Value.int .i64) (by rw [i64_in (by omega) (by omega)]; omega), rfl⟩
      · refine m_run ?_
        exact hk' _ _ ⟨o, by omega, rfl, rfl, rfl, rfl, rfl, rfl, rfl, rfl⟩
    rintro ρ' _ ⟨p, hp, e0, e1, e6, e7, e8, e9, e10, rfl⟩
    refine TK.know7 e0 e1 e6 e7 e8 e9 e10 ?_
    refine TK.perm (List.Perm.swap _ _ _) ?_
    refine m_run ?_
    have hcI := cellD (b := b) (c := c) (Γ := row s [.int .u64 (z : Int)] 170 :: Γ) hsz (show x < n by omega)
    have hcK := cellD (b := b) (c := c) (Γ := row s [.int .u64 (z : Int)] 170 :: Γ) hsz (show a + p < n by omega)
    refine TK.drawB mixed rfl 17 (DD b c n d :: row s [.int .u64 (z : Int)] 170 :: Γ) (row s [.int .u64 (z : Int)] 170 :: Γ) ?_
    refine m_bake (At.mk : At 0) ?_; refine m_bake (At.mk : At 1) ?_; refine m_bake (At.mk : At 2) ?_; refine m_bake (At.mk : At 3) ?_; refine m_bake (At.mk : At 4) ?_; refine m_bake (At.mk : At 5) ?_
    refine TB.know (t := 52) (v := .int .i64 ((a + p : Nat) : Int)) (congrArg (Value.int .i64) (by rw [i64_in (by omega) (by omega)]; omega)) ?_
    refine m_bake (At.mk : At 6) ?_; refine m_bake (At.mk : At 7) ?_; refine m_bake (At.mk : At 8) ?_; refine m_bake (At.mk : At 9) ?_
    refine TB.know (t := 56) (v := .int .i64 ((a + p : Nat) : Int)) (congrArg (Value.int .i64) (by rw [i64_in (by omega) (by omega)]; omega)) ?_
    refine m_bake (At.mk : At 10) ?_; refine m_bake (At.mk : At 11) ?_; refine m_bake (At.mk : At 12) ?_; refine m_bake (At.mk : At 13) ?_; refine m_bake (At.mk : At 14) ?_; refine m_bake (At.mk : At 15) ?_; refine m_bake (At.mk : At 16) ?_
    (apply TB.last; kernel_rfl; exact rfl)
    (apply TL.storeOwn 0 (x); exact rfl; exact rfl; exact rfl; exact rfl; exact tb rfl; exact rfl; exact (Nat.zero_add _).symm; exact (by omega))
    refine TL.back (by (focus ((repeat (first | assumption | exact Ent.refl _ | apply Ent.tail)); done))) ?_
    refine m_take (At.mk : At 18) ?_
    (apply TA.one 19; kernel_rfl; exact rfl)
    (apply TL.storeOwn 0 (a + p); exact rfl; exact rfl; exact rfl; exact rfl; exact tb rfl; exact rfl; exact (Nat.zero_add _).symm; exact (by omega))
    refine TL.back (by (focus ((repeat (first | assumption | exact Ent.refl _ | apply Ent.tail)); done))) ?_
    refine TA.done (by kernel_rfl) ?_
    refine TK.imp (Δ := DD b c n (swp d (x) (a + p)) :: row s [.int .u64 (z : Int)] 170 :: Γ) (fun _ h => by show all (own _ _ _ _ (nums _ (swp d (x) (a + p)).toList) :: _) _; rw [← swpD]; exact h) ?_
    have hsz : (swp d (x) (a + p)).size = n := (size_swp _ _ _).trans hsz
    clear hcI hcK
    refine TK.perm (List.Perm.swap _ _ _) ?_
    refine m_run ?_
    exact IH (m - 1) _ _ (by omega) ⟨x + 1, z, _, by omega, by omega, hz, permIn_trans _ _ _ _ _ hP (swp_permIn _ _ _ _ _ (by omega) (by omega) (by omega) (by omega) (by rw [hP.1]; omega)), rfl, rfl, rfl, rfl, rfl, congrArg (Value.int .i64) (i64_succ x (by omega)), rfl⟩
  · refine m_run ?_
    refine TK.sub (Δ := DD b c n d :: Γ) (by (repeat (first | exact List.Sublist.refl _ | apply List.Sublist.cons_cons | apply List.Sublist.cons))) ?_
    exact TK.over0 rfl rfl ⟨_, rfl, rfl, d, hP, rfl⟩

set_option maxRecDepth 100000 in
set_option maxHeartbeats 4000000 in
theorem pdq_t (b c n : Nat) (Γ : List HP) (hn : n ≤ 1000000000) : ∀ (N a e : Nat) (z : Int) (d : Array Int), e - a = N → d.size = n → a ≤ e → e ≤ n → Below ltInt a e d →
    FnV Try.prog 58 [.slice (some ⟨b, 0, none⟩) n c, .int .i64 (a : Int), .int .i64 (e : Int), .int .i64 z] (DD b c n d :: Γ) fun v Γ' => v = .tuple #[] ∧ ∃ d', PermIn a e d d' ∧ SortedIn ltInt a e d' ∧ Γ' = DD b c n d' :: Γ := by
  intro N
  induction N using Nat.strongRecOn with
  | _ N IHN =>
  intro a0 e0 z0 d0 hN hsz0 hae0 he0 hB0
  refine Fn.enter Try.func58 rfl rfl rfl fun E => ?_
  refine m_run ?_
  apply TK.iter (fun m ρ' Γ' => ∃ (a e : Nat) (z : Int) (d : Array Int) (wb wp : Bool), e - a ≤ m ∧ a0 ≤ a ∧ a ≤ e ∧ e ≤ e0 ∧ d.size = n ∧ Below ltInt a e d ∧ (∀ R, PermIn a e d R → SortedIn ltInt a e R → PermIn a0 e0 d0 R ∧ SortedIn ltInt a0 e0 R) ∧ lk ρ' 0 = .slice (some ⟨b, 0, none⟩) n c ∧ lk ρ' 1 = .int .i64 (a : Int) ∧ lk ρ' 2 = .int .i64 (e : Int) ∧ lk ρ' 3 = .int .i64 z ∧ lk ρ' 8 = .bool wb ∧ lk ρ' 9 = .bool wp ∧ Γ' = DD b c n d :: Γ) (e0 - a0)
  · exact ⟨a0, e0, z0, d0, true, true, Nat.le_refl _, Nat.le_refl _, hae0, Nat.le_refl _, hsz0, hB0, fun R h1 h2 => ⟨h1, h2⟩, rfl, rfl, rfl, rfl, rfl, rfl, rfl⟩
  rintro m IH ρ' _ ⟨a, e, z, d, wb, wp, hm, ha0, hae, hee, hsz, hB, hfin, e0_, e1, e2, e3, e8, e9, rfl⟩
  refine TK.know6 e0_ e1 e2 e3 e8 e9 ?_
  have hea : IntKind.i64.wrap ((e : Int) - (a : Int)) = ((e - a : Nat) : Int) := by rw [i64_in (by omega) (by omega)]; omega
  by_cases h12 : e - a ≤ 12
  · refine m_run ?_
    (apply TL.callV; exact rfl; exact callB_of (by kernel_rfl); exact rfl; exact fun _ h => h)
    exact ins_t b c n a e d Γ hsz (by omega) (by omega) hn
    rintro _ _ ⟨rfl, rfl⟩
    obtain ⟨q1, q2⟩ := insertionSort_holds swo_ltInt d a e hae (by omega)
    obtain ⟨r1, r2⟩ := hfin _ q1 q2
    refine m_run ?_
    (apply TK.ret0; exact rfl; exact rfl)
    exact ⟨_, rfl, rfl, _, r1, r2, rfl⟩
  by_cases hz : z = 0
  · refine m_run ?_
    (apply TL.callV; exact rfl; exact callB_of (by kernel_rfl); exact rfl; exact fun _ h => h)
    exact heap_t b c n a e d Γ hsz (by omega) (by omega) hn
    rintro _ _ ⟨rfl, rfl⟩
    obtain ⟨q1, q2⟩ := heapSort_holds swo_ltInt d a e hae (by omega)
    obtain ⟨r1, r2⟩ := hfin _ q1 q2
    refine m_run ?_
    (apply TK.ret0; exact rfl; exact rfl)
    exact ⟨_, rfl, rfl, _, r1, r2, rfl⟩
  (repeat (first | refine TK.seq ?_ | refine TK.skip ?_))
  refine TK.block ?_
  (repeat (first | refine TK.seq ?_ | refine TK.skip ?_))
  refine TK.region ?_
  refine m_rrun ?_
  refine TL.nil ?_
  (repeat (first | refine TK.seq ?_ | refine TK.skip ?_))
  refine TK.know (t := 10) (v := .int .i64 ((e - a : Nat) : Int)) (congrArg (Value.int .i64) hea) ?_
  (repeat (first | refine TK.seq ?_ | refine TK.skip ?_))
  refine TK.region ?_
  refine m_rrun ?_
  refine TL.nil ?_
  (repeat (first | refine TK.seq ?_ | refine TK.skip ?_))
  refine TK.condF rfl (decide_eq_false (by omega)) ?_
  (repeat (first | refine TK.seq ?_ | refine TK.skip ?_))
  refine TK.region ?_
  refine m_rrun ?_
  refine TL.nil ?_
  (repeat (first | refine TK.seq ?_ | refine TK.skip ?_))
  refine TK.condF rfl (beq_eq_false_iff_ne.2 hz) ?_
  (repeat (first | refine TK.seq ?_ | refine TK.skip ?_))
  refine TK.region ?_
  refine m_rrun ?_
  refine TL.nil ?_
  (repeat (first | refine TK.seq ?_ | refine TK.skip ?_))
  apply TK.cut (fun ρ' Γ' => ∃ (z : Int) (d1 : Array Int), PermIn a e d d1 ∧ lk ρ' 0 = .slice (some ⟨b, 0, none⟩) n c ∧ lk ρ' 1 = .int .i64 (a : Int) ∧ lk ρ' 2 = .int .i64 (e : Int) ∧ lk ρ' 8 = .bool wb ∧ lk ρ' 9 = .bool wp ∧ lk ρ' 10 = .int .i64 ((e - a : Nat) : Int) ∧ lk ρ' 3 = .int .i64 z ∧ Γ' = DD b c n d1 :: Γ)
  · intro k' hk'
    cases wb with
    | true =>
      refine m_run ?_
      exact hk' _ _ ⟨z, d, permIn_refl _ _ _, rfl, rfl, rfl, rfl, rfl, rfl, rfl, rfl⟩
    | false =>
      refine m_run ?_
      (apply TL.callV; exact rfl; exact callB_of (by kernel_rfl); exact rfl; exact fun _ h => h)
      exact brk_t b c n a e d Γ hsz (by omega) (by omega) hn
      rintro _ _ ⟨rfl, d1, hP, rfl⟩
      refine m_run ?_
      exact hk' _ _ ⟨_, d1, hP, rfl, rfl, rfl, rfl, rfl, rfl, rfl, rfl⟩
  rintro ρ' _ ⟨z, d1, hP1, e0_, e1, e2, e8, e9, e10, e3, rfl⟩
  refine TK.know7 e0_ e1 e2 e8 e9 e10 e3 ?_
  have hsz1 : d1.size = n := hP1.1.trans hsz
  (repeat (first | refine TK.seq ?_ | refine TK.skip ?_))
  refine TK.region ?_
  refine m_rrun ?_
  (apply TL.callV; exact rfl; exact callB_of (by kernel_rfl); exact rfl; exact fun _ h => h)
  exact pivot_t b c n a e d1 Γ hsz1 (by omega) (by omega) hn
  rintro _ _ ⟨x, h, hx1, hx2, hh, rfl, rfl⟩
  refine m_rrun ?_
  refine TL.nil ?_
  (repeat (first | refine TK.seq ?_ | refine TK.skip ?_))
  refine TK.region ?_
  refine m_rrun ?_
  refine TL.nil ?_
  (repeat (first | refine TK.seq ?_ | refine TK.skip ?_))
  apply TK.cut (fun ρ' Γ' => ∃ (x : Nat) (h : Int) (d2 : Array Int), PermIn a e d1 d2 ∧ a ≤ x ∧ x < e ∧ lk ρ' 0 = .slice (some ⟨b, 0, none⟩) n c ∧ lk ρ' 1 = .int .i64 (a : Int) ∧ lk ρ' 2 = .int .i64 (e : Int) ∧ lk ρ' 8 = .bool wb ∧ lk ρ' 9 = .bool wp ∧ lk ρ' 10 = .int .i64 ((e - a : Nat) : Int) ∧ lk ρ' 3 = .int .i64 z ∧ lk ρ' 11 = .int .i64 (x : Int) ∧ lk ρ' 12 = .int .i64 h ∧ Γ' = DD b c n d2 :: Γ)
  · intro k' hk'
    by_cases hh2 : h = 2
    · refine m_run ?_
      (apply TL.callV; exact rfl; exact callB_of (by kernel_rfl); exact rfl; exact fun _ h => h)
      exact rev_t b c n a e d1 Γ hsz1 (by omega) (by omega) hn
      rintro _ _ ⟨rfl, rfl⟩
      have hP2 := reverseRange_holds d1 a e hae (by omega)
      refine m_run ?_
      exact hk' _ _ ⟨(e - 1) - (x - a), 1, _, hP2, by omega, by omega, rfl, rfl, rfl, rfl, rfl, rfl, rfl, congrArg (Value.int .i64) (by rw [i64_in (x := (e : Int) - 1) (by omega) (by omega), i64_in (x := (x : Int) - (a : Int)) (by omega) (by omega), i64_in (by omega) (by omega)]; omega), rfl, rfl⟩
    · refine m_run ?_
      exact hk' _ _ ⟨x, h, d1, permIn_refl _ _ _, hx1, hx2, rfl, rfl, rfl, rfl, rfl, rfl, rfl, rfl, rfl, rfl⟩
  clear hx1 hx2 hh
  rintro ρ' _ ⟨x, h, d2, hP2, hx1, hx2, e0_, e1, e2, e8, e9, e10, e3, e11, e12, rfl⟩
  refine TK.know9 e0_ e1 e2 e8 e9 e10 e3 e11 e12 ?_
  have hsz2 : d2.size = n := hP2.1.trans hsz1
  (repeat (first | refine TK.seq ?_ | refine TK.skip ?_))
  apply TK.cut (fun ρ' Γ' => ∃ (t : Bool), lk ρ' 0 = .slice (some ⟨b, 0, none⟩) n c ∧ lk ρ' 1 = .int .i64 (a : Int) ∧ lk ρ' 2 = .int .i64 (e : Int) ∧ lk ρ' 8 = .bool wb ∧ lk ρ' 9 = .bool wp ∧ lk ρ' 10 = .int .i64 ((e - a : Nat) : Int) ∧ lk ρ' 3 = .int .i64 z ∧ lk ρ' 11 = .int .i64 (x : Int) ∧ lk ρ' 68 = .bool t ∧ Γ' = DD b c n d2 :: Γ)
  · intro k' hk'
    cases wb <;> cases wp <;> (by_cases h1 : h = 1) <;> (refine m_run ?_; exact hk' _ _ ⟨_, rfl, rfl, rfl, rfl, rfl, rfl, rfl, rfl, rfl, rfl⟩)
  rintro ρ' _ ⟨t, e0_, e1, e2, e8, e9, e10, e3, e11, e68, rfl⟩
  refine TK.know9 e0_ e1 e2 e8 e9 e10 e3 e11 e68 ?_
  (repeat (first | refine TK.seq ?_ | refine TK.skip ?_))
  have hB2 : Below ltInt a e d2 := (hB.perm (by omega) hP1).perm (by omega) hP2
  apply TK.cut (fun ρ' Γ' => ∃ (d3 : Array Int), PermIn a e d2 d3 ∧ lk ρ' 0 = .slice (some ⟨b, 0, none⟩) n c ∧ lk ρ' 1 = .int .i64 (a : Int) ∧ lk ρ' 2 = .int .i64 (e : Int) ∧ lk ρ' 8 = .bool wb ∧ lk ρ' 9 = .bool wp ∧ lk ρ' 10 = .int .i64 ((e - a : Nat) : Int) ∧ lk ρ' 3 = .int .i64 z ∧ lk ρ' 11 = .int .i64 (x : Int) ∧ Γ' = DD b c n d3 :: Γ)
  · intro k' hk'
    cases t with
    | false =>
      refine m_run ?_
      exact hk' _ _ ⟨d2, permIn_refl _ _ _, rfl, rfl, rfl, rfl, rfl, rfl, rfl, rfl, rfl⟩
    | true =>
      refine m_run ?_
      (apply TL.callV; exact rfl; exact callB_of (by kernel_rfl); exact rfl; exact fun _ h => h)
      exact partial_t b c n a e d2 Γ hsz2 (by omega) (by omega) hn
      rintro _ _ ⟨rfl, rfl⟩
      obtain ⟨q1, q2⟩ := partialInsertionSort_holds swo_ltInt d2 a e (by omega) (by omega) hB2
      generalize partialInsertionSort ltInt d2 a e = r at *
      obtain ⟨d3, t⟩ := r
      cases t with
      | true =>
        obtain ⟨r1, r2⟩ := hfin _ (permIn_trans _ _ _ _ _ (permIn_trans _ _ _ _ _ hP1 hP2) q1) (q2 rfl)
        refine m_run ?_
        (apply TK.ret0; exact rfl; exact rfl)
        exact ⟨_, rfl, rfl, _, r1, r2, rfl⟩
      | false =>
        refine m_run ?_
        exact hk' _ _ ⟨d3, q1, rfl, rfl, rfl, rfl, rfl, rfl, rfl, rfl, rfl⟩
  rintro ρ' _ ⟨d3, hP3, e0_, e1, e2, e8, e9, e10, e3, e11, rfl⟩
  refine TK.know8 e0_ e1 e2 e8 e9 e10 e3 e11 ?_
  have hsz3 : d3.size = n := hP3.1.trans hsz2
  have hP : PermIn a e d d3 := permIn_trans _ _ _ _ _ (permIn_trans _ _ _ _ _ hP1 hP2) hP3
  have hB3 : Below ltInt a e d3 := hB2.perm (by omega) hP3
  clear hB2 hB hP1 hP2 hP3
  (repeat (first | refine TK.seq ?_ | refine TK.skip ?_))
  by_cases heq : 0 < a ∧ ¬ d3[a - 1]! < d3[x]!
  · obtain ⟨h0, hnl⟩ := heq
    have hc1 := cellD (b := b) (c := c) (Γ := Γ) hsz3 (show a - 1 < n by omega)
    have hc2 := cellD (b := b) (c := c) (Γ := Γ) hsz3 (show x < n by omega)
    refine TK.drawS mixed rfl ?_
    refine m_take (At.mk : At 0) ?_; refine m_take (At.mk : At 1) ?_
    refine TA.isT 74 rfl (decide_eq_true (by omega)) ?_
    refine m_take (At.mk : At 2) ?_; refine m_take (At.mk : At 3) ?_; refine m_take (At.mk : At 4) ?_; refine m_take (At.mk : At 5) ?_
    refine TA.know (t := 78) (v := .int .i64 ((a - 1 : Nat) : Int)) (congrArg (Value.int .i64) (by rw [i64_in (by omega) (by omega)]; omega)) ?_
    refine m_take (At.mk : At 6) ?_; refine m_take (At.mk : At 7) ?_; refine m_take (At.mk : At 8) ?_; refine m_take (At.mk : At 9) ?_; refine m_take (At.mk : At 10) ?_; refine m_take (At.mk : At 11) ?_
    (apply TA.one 12; kernel_rfl; exact rfl)
    refine m_rrun ?_
    (apply TL.callV; exact rfl; exact callB_of (by kernel_rfl); exact rfl; exact fun _ h => h)
    exact less_t _ _ _
    rintro _ _ ⟨rfl, rfl⟩
    refine TL.back (by (focus ((repeat (first | assumption | exact Ent.refl _ | apply Ent.tail)); done))) ?_
    refine m_take (At.mk : At 13) ?_; refine m_take (At.mk : At 14) ?_
    refine TA.isT 87 rfl (not_t (decide_eq_false hnl)) ?_
    refine TA.done (by kernel_rfl) ?_
    clear hc1 hc2
    refine m_run ?_
    (apply TL.callV; exact rfl; exact callB_of (by kernel_rfl); exact rfl; exact fun _ h => h)
    exact partEq_t b c n a e x d3 Γ hsz3 hx1 hx2 (by omega) hn
    rintro _ _ ⟨rfl, rfl⟩
    obtain ⟨mid, d4, hx⟩ : ∃ mid d4, partitionEqual ltInt d3 a e x = (mid, d4) := ⟨_, _, rfl⟩
    rw [show (partitionEqual ltInt d3 a e x).1 = mid by rw [hx], show (partitionEqual ltInt d3 a e x).2 = d4 by rw [hx]]
    obtain ⟨g1, g2, g3, g4, g5⟩ := round_eq swo_ltInt (partitionEqual_holds ltInt) h0 hx1 hx2 (by omega) hB3 (decide_eq_false hnl) hx
    refine m_run ?_
    exact IH (m - 1) _ _ (by omega) ⟨mid, e, z, d4, wb, wp, by omega, by omega, g2, hee, g3.trans hsz3, g4, fun R r1 r2 => by
      obtain ⟨q1, q2⟩ := g5 R r1 r2
      exact hfin R (permIn_trans _ _ _ _ _ hP q1) q2, rfl, rfl, rfl, rfl, rfl, rfl, rfl⟩
  apply TK.cut (fun ρ' Γ' => lk ρ' 0 = .slice (some ⟨b, 0, none⟩) n c ∧ lk ρ' 1 = .int .i64 (a : Int) ∧ lk ρ' 2 = .int .i64 (e : Int) ∧ lk ρ' 8 = .bool wb ∧ lk ρ' 9 = .bool wp ∧ lk ρ' 10 = .int .i64 ((e - a : Nat) : Int) ∧ lk ρ' 3 = .int .i64 z ∧ lk ρ' 11 = .int .i64 (x : Int) ∧ lk ρ' 87 = .bool false ∧ Γ' = DD b c n d3 :: Γ)
  · intro k' hk'
    by_cases h0 : 0 < a
    · have hlt : d3[a - 1]! < d3[x]! := Decidable.byContradiction fun h => heq ⟨h0, h⟩
      have hc1 := cellD (b := b) (c := c) (Γ := Γ) hsz3 (show a - 1 < n by omega)
      have hc2 := cellD (b := b) (c := c) (Γ := Γ) hsz3 (show x < n by omega)
      refine TK.drawS mixed rfl ?_
      refine m_take (At.mk : At 0) ?_; refine m_take (At.mk : At 1) ?_
      refine TA.isT 74 rfl (decide_eq_true (by omega)) ?_
      refine m_take (At.mk : At 2) ?_; refine m_take (At.mk : At 3) ?_; refine m_take (At.mk : At 4) ?_; refine m_take (At.mk : At 5) ?_
      refine TA.know (t := 78) (v := .int .i64 ((a - 1 : Nat) : Int)) (congrArg (Value.int .i64) (by rw [i64_in (by omega) (by omega)]; omega)) ?_
      refine m_take (At.mk : At 6) ?_; refine m_take (At.mk : At 7) ?_; refine m_take (At.mk : At 8) ?_; refine m_take (At.mk : At 9) ?_; refine m_take (At.mk : At 10) ?_; refine m_take (At.mk : At 11) ?_
      (apply TA.one 12; kernel_rfl; exact rfl)
      refine m_rrun ?_
      (apply TL.callV; exact rfl; exact callB_of (by kernel_rfl); exact rfl; exact fun _ h => h)
      exact less_t _ _ _
      rintro _ _ ⟨rfl, rfl⟩
      refine TL.back (by (focus ((repeat (first | assumption | exact Ent.refl _ | apply Ent.tail)); done))) ?_
      refine m_take (At.mk : At 13) ?_; refine m_take (At.mk : At 14) ?_
      refine TA.isF 87 rfl (not_f (decide_eq_true hlt)) ?_
      refine TA.done (by kernel_rfl) ?_
      exact hk' _ _ ⟨rfl, rfl, rfl, rfl, rfl, rfl, rfl, rfl, rfl, rfl⟩
    · refine TK.drawS mixed rfl ?_
      refine m_take (At.mk : At 0) ?_; refine m_take (At.mk : At 1) ?_
      refine TA.isF 74 rfl (decide_eq_false (by omega)) ?_
      refine m_take (At.mk : At 2) ?_; refine m_take (At.mk : At 3) ?_; refine m_take (At.mk : At 4) ?_; refine m_take (At.mk : At 5) ?_; refine m_take (At.mk : At 6) ?_; refine m_take (At.mk : At 7) ?_; refine m_take (At.mk : At 8) ?_; refine m_take (At.mk : At 9) ?_; refine m_take (At.mk : At 10) ?_; refine m_take (At.mk : At 11) ?_; refine m_take (At.mk : At 12) ?_; refine m_take (At.mk : At 13) ?_; refine m_take (At.mk : At 14) ?_
      refine TA.done (by kernel_rfl) ?_
      exact hk' _ _ ⟨rfl, rfl, rfl, rfl, rfl, rfl, rfl, rfl, rfl, rfl⟩
  rintro ρ' _ ⟨e0_, e1, e2, e8, e9, e10, e3, e11, e87, rfl⟩
  refine TK.know9 e0_ e1 e2 e8 e9 e10 e3 e11 e87 ?_
  clear heq
  refine m_run ?_
  (apply TL.callV; exact rfl; exact callB_of (by kernel_rfl); exact rfl; exact fun _ h => h)
  exact part_t b c n a e x d3 Γ hsz3 hx1 hx2 (by omega) hn
  rintro _ _ ⟨rfl, rfl⟩
  obtain ⟨mid, ap, d4, hx⟩ : ∃ mid ap d4, Sort.partition ltInt d3 a e x = (mid, ap, d4) := ⟨_, _, _, rfl⟩
  rw [show (Sort.partition ltInt d3 a e x).1 = mid by rw [hx], show (Sort.partition ltInt d3 a e x).2.1 = ap by rw [hx], show (Sort.partition ltInt d3 a e x).2.2 = d4 by rw [hx]]
  obtain ⟨g1, g2, g3, gBl, gBr, gL, gR⟩ := round_part swo_ltInt (partition_holds ltInt) hx1 hx2 (by omega) hB3 hx
  have hsz4 : d4.size = n := g3.trans hsz3
  have hma : IntKind.i64.wrap ((mid : Int) - (a : Int)) = ((mid - a : Nat) : Int) := by rw [i64_in (by omega) (by omega)]; omega
  have hme : IntKind.i64.wrap ((e : Int) - (mid : Int)) = ((e - mid : Nat) : Int) := by rw [i64_in (by omega) (by omega)]; omega
  by_cases hlt : mid - a < e - mid
  · refine m_run ?_
    (apply TL.callV; exact rfl; exact callB_of (by kernel_rfl); exact rfl; exact fun _ h => h)
    exact IHN (mid - a) (by omega) a mid z d4 rfl hsz4 g1 (by omega) gBl
    rintro _ _ ⟨rfl, d5, p1, p2, rfl⟩
    obtain ⟨b5, f5⟩ := gL d5 p1 p2
    refine m_run ?_
    exact IH (m - 1) _ _ (by omega) ⟨mid + 1, e, z, d5, _, ap, by omega, by omega, by omega, hee, p1.1.trans hsz4, b5, fun R r1 r2 => by
      obtain ⟨q1, q2⟩ := f5 R r1 r2
      exact hfin R (permIn_trans _ _ _ _ _ hP q1) q2, rfl, congrArg (Value.int .i64) (i64_succ mid (by omega)), rfl, rfl, rfl, rfl, rfl⟩
  · refine m_run ?_
    refine TL.know (t := 129) (v := .int .i64 ((mid + 1 : Nat) : Int)) (congrArg (Value.int .i64) (i64_succ mid (by omega))) ?_
    (apply TL.callV; exact rfl; exact callB_of (by kernel_rfl); exact rfl; exact fun _ h => h)
    exact IHN (e - (mid + 1)) (by omega) (mid + 1) e z d4 rfl hsz4 (by omega) (by omega) gBr
    rintro _ _ ⟨rfl, d5, p1, p2, rfl⟩
    obtain ⟨b5, f5⟩ := gR d5 p1 p2
    refine m_run ?_
    exact IH (m - 1) _ _ (by omega) ⟨a, mid, z, d5, _, ap, by omega, by omega, g1, by omega, p1.1.trans hsz4, b5, fun R r1 r2 => by
      obtain ⟨q1, q2⟩ := f5 R r1 r2
      exact hfin R (permIn_trans _ _ _ _ _ hP q1) q2, rfl, rfl, rfl, rfl, rfl, rfl, rfl⟩

theorem perm_whole {d d' : Array Int} (h : PermIn 0 d.size d d') : d'.toList.Perm d.toList := by
  obtain ⟨h1, _, h3⟩ := h
  have e1 : d'.extract 0 d.size = d' := by rw [← h1]; simp
  have e2 : d.extract 0 d.size = d := by simp
  rw [e1, e2] at h3
  exact h3
theorem sorted_whole {d : Array Int} (h : SortedIn ltInt 0 d.size d) : d.toList.Pairwise (· ≤ ·) := by
  refine List.pairwise_iff_getElem.2 fun i j hi hj hij => ?_
  simp only [Array.length_toList] at hi hj
  have := h i j (Nat.zero_le _) hij hj
  unfold ltInt at this
  have h2 := of_decide_eq_false this
  rw [getElem!_pos d i hi, getElem!_pos d j hj] at h2
  simp only [Array.getElem_toList]
  omega
set_option maxRecDepth 100000 in
set_option maxHeartbeats 4000000 in
theorem ins0_t (A : Option Addr) (c : Nat) (Γ : List HP) : FnV Try.prog 85 [.slice A 0 c, .int .i64 0, .int .i64 0] Γ fun v Γ' => v = .tuple #[] ∧ Γ' = Γ := by
  refine Fn.enter Try.func85 rfl rfl rfl fun E => ?_
  refine m_run ?_
  refine TK.know (t := 6) (v := .int .i64 1) rfl ?_
  apply TK.iter (fun m ρ' Γ' => lk ρ' 2 = .int .i64 0 ∧ lk ρ' 6 = .int .i64 1 ∧ Γ' = Γ) 0
  · exact ⟨rfl, rfl, rfl⟩
  rintro m IH ρ' _ ⟨e2, e6, rfl⟩
  refine TK.know2 e2 e6 ?_
  refine m_run ?_
  exact TK.over0 rfl rfl ⟨_, rfl, rfl, rfl⟩
set_option maxRecDepth 100000 in
set_option maxHeartbeats 4000000 in
theorem pdq0_t (A : Option Addr) (c : Nat) (z : Int) (Γ : List HP) : FnV Try.prog 58 [.slice A 0 c, .int .i64 0, .int .i64 0, .int .i64 z] Γ fun v Γ' => v = .tuple #[] ∧ Γ' = Γ := by
  refine Fn.enter Try.func58 rfl rfl rfl fun E => ?_
  refine m_run ?_
  apply TK.iter (fun m ρ' Γ' => lk ρ' 0 = .slice A 0 c ∧ lk ρ' 1 = .int .i64 0 ∧ lk ρ' 2 = .int .i64 0 ∧ Γ' = Γ) 0
  · exact ⟨rfl, rfl, rfl, rfl⟩
  rintro m IH ρ' _ ⟨e0, e1, e2, rfl⟩
  refine TK.know3 e0 e1 e2 ?_
  have hw : IntKind.i64.wrap ((0 : Int) - 0) = 0 := rfl
  refine m_run ?_
  (apply TL.callV; exact rfl; exact callB_of (by kernel_rfl); exact rfl; exact fun _ h => h)
  exact ins0_t A c _
  rintro _ _ ⟨rfl, rfl⟩
  refine m_run ?_
  (apply TK.ret0; exact rfl; exact rfl)
  exact ⟨_, rfl, rfl, rfl⟩
set_option maxRecDepth 100000 in
set_option maxHeartbeats 4000000 in
theorem sort_t (A : Option Addr) (c : Nat) (D : List Int) (Γ : List HP) (hn : D.length ≤ 1000000000) :
    FnV Try.prog 41 [.slice A D.length c] (own 3 1 (.slice A D.length c) D.length (nums .i64 D) :: Γ)
      fun v Γ' => v = .tuple #[] ∧ ∃ D', D'.Perm D ∧ D'.Pairwise (· ≤ ·) ∧ Γ' = own 3 1 (.slice A D.length c) D.length (nums .i64 D') :: Γ := by
  refine Fn.enter Try.func41 rfl rfl rfl fun E => ?_
  refine m_run ?_
  refine TL.know (t := 8) (v := .int .u64 (D.length : Int)) (congrArg (Value.int .u64) (u64_in (by omega) (by omega))) ?_
  (apply TL.callV; exact rfl; exact callB_of (by kernel_rfl); exact rfl; exact fun _ h => h)
  exact len_t D.length hn _
  rintro _ _ ⟨L, _, _, rfl, rfl⟩
  refine m_run ?_
  by_cases h0 : D.length = 0
  · rw [h0]
    (apply TL.callV; exact rfl; exact callB_of (by kernel_rfl); exact rfl; exact fun _ h => h)
    exact pdq0_t A c _ _
    rintro _ _ ⟨rfl, rfl⟩
    refine m_run ?_
    refine TK.over0 rfl rfl ⟨_, rfl, rfl, D, List.Perm.refl _, ?_, rfl⟩
    rw [List.eq_nil_of_length_eq_zero h0]
    exact List.Pairwise.nil
  refine TL.mem fun m0 hm0 => ?_
  obtain ⟨b, rfl⟩ : ∃ b, A = some ⟨b, 0, none⟩ := by
    obtain ⟨m1, m2, _, _, h1, _⟩ := hm0
    obtain ⟨_, ⟨_, h, _⟩ | ⟨g, cap, cur, hv, _⟩⟩ := h1
    · omega
    · injection hv with hv _ _
      exact ⟨g, hv⟩
  clear hm0 m0
  (apply TL.callV (Δ := DD b c D.length D.toArray :: Γ); exact rfl; exact callB_of (by kernel_rfl); exact rfl; exact fun _ h => h)
  exact pdq_t b c D.length Γ hn D.length 0 D.length L D.toArray rfl rfl (Nat.zero_le _) (Nat.le_refl _) (.inl rfl)
  rintro _ _ ⟨rfl, d', h1, h2, rfl⟩
  refine m_run ?_
  refine TK.over0 rfl rfl ⟨_, rfl, rfl, d'.toList, perm_whole (d := D.toArray) h1, sorted_whole (by rw [show d'.size = D.length from h1.1]; exact h2), rfl⟩
end Go.Proofs.Ythbcfamfaicneaa.E.SI

/- Of, as the program tells it, walked. -/
namespace Go.Proofs.Ythbcfamfaicneaa.E
open Go Go.RowKit Go.Proofs
attribute [local irreducible] TK TL TQ TA TB Fn PV
namespace Rch
theorem flat_len {α β : Type} (f : α → List β) (k : Nat) : ∀ L : List α, (∀ x ∈ L, (f x).length ≤ k) → (L.flatMap f).length ≤ L.length * k
  | [], _ => by simp
  | x :: L, h => by
    rw [List.flatMap_cons, List.length_append, List.length_cons, Nat.add_mul]
    have h1 := h x (List.mem_cons_self ..)
    have h2 := flat_len f k L fun y hy => h y (List.mem_cons_of_mem _ hy)
    omega
theorem chs_len (K : List Nat) (nx : Sp → Nat → Option Sp) (s0 : Sp) : ∀ n, (chs K nx s0 n).length ≤ K.length ^ n
  | 0 => Nat.le_refl _
  | n + 1 => by
    rw [Nat.pow_succ]
    exact Nat.le_trans (flat_len _ K.length _ fun x _ => List.length_filterMap_le _ _) (Nat.mul_le_mul_right _ (chs_len K nx s0 n))
theorem fresh_len : ∀ (L : List Stp) (S : List Sp), (fresh S L).length ≤ L.length
  | [], _ => Nat.le_refl _
  | s :: L, S => by
    rw [fresh]
    split
    · exact Nat.le_succ_of_le (fresh_len L S)
    · exact Nat.succ_le_succ (fresh_len L _)
theorem allC_len (K : List Nat) (nx : Sp → Nat → Option Sp) (s0 : Sp) (h : K.length ≤ 50) : (allC K nx s0 4).length ≤ 200000 := by
  rw [allC_succ, allC_succ, allC_succ, allC_succ]
  simp only [List.length_append]
  have h1 := chs_len K nx s0
  have p1 := Nat.pow_le_pow_left h 1
  have p2 := Nat.pow_le_pow_left h 2
  have p3 := Nat.pow_le_pow_left h 3
  have c0 := h1 0
  have c1 := h1 1
  have c2 := h1 2
  have c3 := h1 3
  have h0 : (allC K nx s0 0).length = 0 := rfl
  have e0 : K.length ^ 0 = 1 := rfl
  have e1 : 50 ^ 1 = 50 := rfl
  have e2 : 50 ^ 2 = 2500 := rfl
  have e3 : 50 ^ 3 = 125000 := rfl
  omega
end Rch
theorem compL_up : ∀ {D : List Nat}, D.Pairwise (· ≤ ·) → (compL D).Pairwise (· < ·)
  | [], _ => List.Pairwise.nil
  | [x], _ => List.pairwise_singleton _ _
  | x :: y :: l, h => by
    have h1 : compL (x :: y :: l) = if x = y then compL (y :: l) else x :: compL (y :: l) := rfl
    obtain ⟨h2, h3⟩ := List.pairwise_cons.1 h
    have ih := compL_up h3
    rw [h1]
    split
    · exact ih
    · rename_i hne
      refine List.pairwise_cons.2 ⟨fun z hz => ?_, ih⟩
      have hz' := (compL_mem _ _).1 hz
      have hy := h2 y (List.mem_cons_self ..)
      rcases List.mem_cons.1 hz' with rfl | hz'
      · omega
      · have := (List.pairwise_cons.1 h3).1 z hz'
        omega
theorem all_free {H : HP} {Γ : List HP} {m : Mem} (hH : ∀ m, emp m → H m) (h : all Γ m) : all (H :: Γ) m := sep_mono (sep_comm (sep_emp h)) hH (fun _ => id)
/-- Who is reached: told once, in order. -/
def OfSpec (l : List Cr) (who p : Nat) (args : Int) (O : List Nat) : Prop := O.Pairwise (· < ·) ∧ ∀ v, v ∈ O ↔ (predS p args true 0).2 = true ∧ ∃ s ∈ Rch.allC (linksOf l p args) (nxL l) (who, 3) 4, s.1.1 = v
theorem unskip_no (K : List Nat) : unskip K (-1) = K := by
  unfold unskip
  exact List.filter_eq_self.2 fun i _ => by simp
def TOf (b : Nat) (L : List Wy) : HP := fun m => ∃ p : Option Addr × Nat, sep (own 31 1 (.slice p.1 (L.map Wy.pos).length p.2) (L.map Wy.pos).length (u32s (L.map Wy.pos))) (row b [.slice p.1 (L.map Wy.pos).length p.2] 32) m
set_option maxRecDepth 100000 in
theorem ofc_t (b : Nat) (L : List Wy) (s : Wy) (Γ : List HP) (hl : L.length ≤ 10000000000) :
    FnV Try.prog 38 [.agg (spotL (s.pos, s.left)).toArray, .slice s.A s.w.length s.c, .pointer (some ⟨b, 0, none⟩)] (TOf b L :: Γ) fun v Γ' => v = .tuple #[] ∧ Γ' = TOf b (L ++ [s]) :: Γ := by
  show Fn _ _ _ _ _
  refine Fn.ex fun p => ?_
  obtain ⟨A, c⟩ := p
  refine Fn.imp (Δ := own 31 1 (.slice A (L.map Wy.pos).length c) (L.map Wy.pos).length (u32s (L.map Wy.pos)) :: row b [.slice A (L.map Wy.pos).length c] 32 :: Γ) ?_ (fun m hm => sep_assoc hm)
  have hlm : (L.map Wy.pos).length = L.length := List.length_map _
  have hsn : (L ++ [s]).map Wy.pos = L.map Wy.pos ++ [s.pos] := by simp
  unfold TOf
  rw [hsn]
  generalize L.map Wy.pos = D at *
  refine Fn.enter Try.func38 rfl rfl rfl fun E => ?_
  refine m_run ?_
  (apply TL.box; exact rfl; exact rfl; (exact m_lst))
  intro b3
  refine TL.imp (Δ := row b3 [.int .u32 (s.pos : Int), .int .i64 (s.left : Int)] 91 :: own 31 1 (.slice A D.length c) D.length (u32s D) :: row b [.slice A D.length c] 32 :: Γ) (fun _ h => h) ?_
  refine m_run ?_
  (apply TL.buildSlice (l := u32s [s.pos]); exact rfl; exact tb rfl; exact rfl; exact tb rfl; exact rfl; exact rfl; exact rfl; exact rfl; exact rfl)
  intro b8
  refine m_run ?_
  (apply TL.append 2; exact rfl; exact rfl; exact tb rfl; exact rfl; exact tb rfl; exact rfl; exact rfl; exact rfl)
  · exact fun _ h => h
  · exact rfl
  · exact has_src_row 0 rfl rfl
  · exact u32s_one [s.pos]
  · show (D.length + 1) * 4 ≤ _; omega
  · show D.length + 1 ≤ maxLen; unfold maxLen; omega
  · exact fun _ => (rfl : _ = _ :: _ :: _ :: _)
  intro A2 c2 hc2
  rw [show u32s D ++ u32s [s.pos] = u32s (D ++ [s.pos]) by simp [u32s], show D.length + 1 = (D ++ [s.pos]).length by simp]
  refine m_run ?_
  refine TK.sub (Δ := own 31 1 (.slice A2 (D ++ [s.pos]).length c2) (D ++ [s.pos]).length (u32s (D ++ [s.pos])) :: row b [.slice A2 (D ++ [s.pos]).length c2] 32 :: Γ) (by (repeat (first | exact List.Sublist.refl _ | apply List.Sublist.cons_cons | apply List.Sublist.cons))) ?_
  refine TK.imp (Δ := (fun m => ∃ p : Option Addr × Nat, sep (own 31 1 (.slice p.1 (D ++ [s.pos]).length p.2) (D ++ [s.pos]).length (u32s (D ++ [s.pos]))) (row b [.slice p.1 (D ++ [s.pos]).length p.2] 32) m) :: Γ) (fun m hm => sep_mono (sep_assoc' hm) (fun q hq => ⟨(A2, c2), hq⟩) (fun _ => id)) ?_
  exact TK.over0 rfl rfl ⟨_, rfl, rfl, rfl⟩
set_option maxRecDepth 100000 in
set_option maxHeartbeats 4000000 in
theorem ofR_t (A : Option Addr) (c : Nat) (l : List Cr) (who p : Nat) (args : Int) (Γ : List HP) (h : Crs A l Γ) (hl : l.length ≤ 50) :
    FnV Try.prog 18 [.slice A l.length c, .int .u32 (who : Int), .int .u32 (p : Int), .int .i64 args] Γ fun v Γ' => ∃ (O : List Nat) (B : Option Addr) (k : Nat) (Γ2 : List HP), OfSpec l who p args O ∧ O.length ≤ 200000 ∧ Γ.Sublist Γ2 ∧ v = .slice B O.length k ∧ Γ' = own 31 1 (.slice B O.length k) O.length (u32s O) :: Γ2 := by
  refine Fn.enter Try.func18 rfl rfl rfl fun E => ?_
  refine m_run ?_
  (apply TL.alloc; exact rfl; exact tb rfl; exact (rfl : _ = [_]))
  intro b9
  refine m_run ?_
  (apply TL.callV; exact rfl; exact callB_of (by kernel_rfl); exact rfl; exact fun _ h => h)
  exact of_t A c l p args _ (Crs.tl h)
  rintro _ _ ⟨B, k, hk, rfl, rfl⟩
  refine m_run ?_
  (apply TL.pv; exact rfl; (apply PV.makeFunc; exact rfl; exact rfl))
  refine m_run ?_
  have hKl : (linksOf l p args).length ≤ 50 := Nat.le_trans (linksOf_len l p args) hl
  have hKd : ∀ i ∈ linksOf l p args, ∃ x, l[i]? = some x ∧ 0 ≤ x.dep ∧ x.dep ≤ 3 := fun i hi => by
    obtain ⟨x, hx, hb⟩ := linksOf_mem.1 hi
    exact ⟨x, hx, linkB_dep hb⟩
  (apply TL.callV (Δ := TOf b9 [] :: own 3 1 (.slice B (linksOf l p args).length k) (linksOf l p args).length (ints (linksOf l p args)) :: Γ); exact rfl; exact callB_of (by kernel_rfl); exact rfl; exact fun m hm => sep_mono (sep_assoc' (all_free (fun _ h => own_nil 31 1 h) (all_perm (.swap _ _ _) hm))) (fun q hq => ⟨(none, 0), hq⟩) (fun _ => id))
  exact rounds_t A B c k l (linksOf l p args) (predS p args true 0).2 who (-1) 38 [.pointer (some ⟨b9, 0, none⟩)] (TOf b9) (own 3 1 (.slice B (linksOf l p args).length k) (linksOf l p args).length (ints (linksOf l p args)) :: Γ) (Crs.tl h) (has_at (up_src _ _ _ _) 0 rfl fun _ h => own_src h) (by omega) hKd (callB_of (by kernel_rfl)) (fun L s Γ' hL _ _ => ofc_t b9 L s Γ' hL)
  rintro _ _ ⟨rfl, L, Γ2, rfl, hsub, hok, hL⟩
  rw [unskip_no] at hL
  refine TL.nil ?_
  refine TK.ex fun q => ?_
  obtain ⟨A1, c1⟩ := q
  refine TK.imp (Δ := own 31 1 (.slice A1 (L.map Wy.pos).length c1) (L.map Wy.pos).length (u32s (L.map Wy.pos)) :: row b9 [.slice A1 (L.map Wy.pos).length c1] 32 :: Γ2) (fun m hm => sep_assoc hm) ?_
  have hpos : ∀ v, v ∈ L.map Wy.pos ↔ (predS p args true 0).2 = true ∧ ∃ s ∈ Rch.allC (linksOf l p args) (nxL l) (who, 3) 4, s.1.1 = v := fun v => by
    have h1 : L.map Wy.pos = (L.map pureY).map fun s => s.1.1 := by rw [List.map_map]; rfl
    rw [h1, hL]
    cases (predS p args true 0).2 with
    | false => simp
    | true =>
      rw [if_pos rfl]
      have h2 := Rch.fresh_mem (Rch.allC (linksOf l p args) (nxL l) (who, 3) 4) []
      simp only [List.nil_append, List.not_mem_nil, false_or, List.mem_map] at h2
      simp only [List.mem_map, true_and]
      constructor
      · rintro ⟨s, hs, rfl⟩
        obtain ⟨t, ht, hts⟩ := (h2 s.1).1 ⟨s, hs, rfl⟩
        exact ⟨t, ht, by rw [hts]⟩
      · rintro ⟨s, hs, rfl⟩
        obtain ⟨t, ht, hts⟩ := (h2 s.1).2 ⟨s, hs, rfl⟩
        exact ⟨t, ht, by rw [hts]⟩
  have hlenL : (L.map Wy.pos).length ≤ 200000 := by
    have h1 : (L.map Wy.pos).length = (L.map pureY).length := by simp
    rw [h1, hL]
    split
    · exact Nat.le_trans (Rch.fresh_len _ _) (Rch.allC_len _ _ _ hKl)
    · exact Nat.zero_le _
  generalize L.map Wy.pos = D at *
  refine m_run ?_
  (apply TL.callV (Δ := own 31 1 (.slice A1 D.length c1) D.length (u32s D) :: row b9 [.slice A1 D.length c1] 32 :: Γ2); exact rfl; exact callB_of (by kernel_rfl); exact rfl; exact fun _ h => h)
  exact SU.sortN_t A1 c1 D _ (by omega)
  rintro _ _ ⟨rfl, D2, hp2, hs2, rfl⟩
  have hlen2 := hp2.length_eq
  rw [← hlen2] at hlenL ⊢
  refine m_run ?_
  (apply TL.callV; exact rfl; exact callB_of (by kernel_rfl); exact rfl; exact fun _ h => h)
  exact compact_t A1 c1 D2 _ (by omega)
  rintro _ _ ⟨rfl, rfl⟩
  refine m_run ?_
  (apply TK.retS1; exact rfl; exact rfl; (exact m_val))
  refine ⟨_, rfl, compL D2, A1, c1, row b9 [.slice A1 D2.length c1] 32 :: Γ2, ⟨compL_up hs2, fun v => ?_⟩, Nat.le_trans (compL_len D2) hlenL, .cons _ ((List.sublist_cons_self _ _).trans hsub), rfl, rfl⟩
  · rw [compL_mem, hp2.mem_iff, hpos]
  · (repeat (first | exact List.Sublist.refl _ | apply List.Sublist.cons_cons | apply List.Sublist.cons))
end Go.Proofs.Ythbcfamfaicneaa.E

/- Chain and Cuts, as the program tells them, walked. -/
namespace Go.Proofs.Ythbcfamfaicneaa.E
open Go Go.RowKit Go.Proofs
attribute [local irreducible] TK TL TQ TA TB Fn PV
def fnd (L : List Wy) (x : Nat) : Option Wy := L.find? fun s => decide (s.pos = x)
def wayV : Option Wy → Value
  | none => .slice none 0 0
  | some s => .slice s.A s.w.length s.c
theorem wayV_one (f : Option Wy) : (wayV f).oneCell' = true := by cases f <;> rfl
def TCh (bx bi bw x : Nat) (L : List Wy) : HP := sep (row bx [.int .u32 (x : Int)] 31) (sep (row bi [.bool (fnd L x).isSome] 4) (row bw [wayV (fnd L x)] 54))
theorem all3 {H K M : HP} {Γ : List HP} {m : Mem} (h : all (sep H (sep K M) :: Γ) m) : all (H :: K :: M :: Γ) m := sep_mono (sep_assoc h) (fun _ => id) (fun _ h => sep_assoc h)
theorem all3' {H K M : HP} {Γ : List HP} {m : Mem} (h : all (H :: K :: M :: Γ) m) : all (sep H (sep K M) :: Γ) m := sep_assoc' (sep_mono h (fun _ => id) (fun _ h => sep_assoc' h))
theorem fnd_snoc (L : List Wy) (s : Wy) (x : Nat) : fnd (L ++ [s]) x = if (fnd L x).isSome then fnd L x else if s.pos = x then some s else none := by
  unfold fnd
  rw [List.find?_append]
  cases L.find? fun s => decide (s.pos = x) with
  | some y => rfl
  | none =>
    by_cases hs : s.pos = x <;> simp [hs]
set_option maxRecDepth 100000 in
theorem chainc_t (bx bi bw x : Nat) (L : List Wy) (s : Wy) (Γ : List HP) :
    FnV Try.prog 52 [.agg (spotL (s.pos, s.left)).toArray, .slice s.A s.w.length s.c, .pointer (some ⟨bx, 0, none⟩), .pointer (some ⟨bi, 0, none⟩), .pointer (some ⟨bw, 0, none⟩)] (TCh bx bi bw x L :: Γ) fun v Γ' => v = .tuple #[] ∧ Γ' = TCh bx bi bw x (L ++ [s]) :: Γ := by
  show Fn _ _ _ _ _
  refine Fn.imp (Δ := row bx [.int .u32 (x : Int)] 31 :: row bi [.bool (fnd L x).isSome] 4 :: row bw [wayV (fnd L x)] 54 :: Γ) ?_ (fun m hm => all3 hm)
  unfold TCh
  rw [fnd_snoc]
  refine Fn.enter Try.func52 rfl rfl rfl fun E => ?_
  generalize hf : fnd L x = f
  refine m_run ?_
  (apply TL.box; exact rfl; exact rfl; (exact m_lst))
  intro b5
  refine TL.imp (Δ := row b5 [.int .u32 (s.pos : Int), .int .i64 (s.left : Int)] 91 :: row bx [.int .u32 (x : Int)] 31 :: row bi [.bool f.isSome] 4 :: row bw [wayV f] 54 :: Γ) (fun _ h => h) ?_
  by_cases hx : s.pos = x
  · cases f with
    | some y =>
      refine m_run ?_
      refine TK.drop ?_
      refine TK.imp (fun m hm => all3' hm) ?_
      exact TK.over0 rfl rfl ⟨_, rfl, rfl, rfl⟩
    | none =>
      refine m_run ?_
      refine TK.drop ?_
      refine TK.imp (fun m hm => all3' hm) ?_
      refine TK.over0 rfl rfl ⟨_, rfl, rfl, ?_⟩
      simp [hx, wayV]
  · refine m_run ?_
    refine TK.drop ?_
    refine TK.imp (fun m hm => all3' hm) ?_
    refine TK.over0 rfl rfl ⟨_, rfl, rfl, ?_⟩
    cases f <;> simp [hx]
/-- The least chain, without a link. -/
def chainS (l : List Cr) (who p : Nat) (args : Int) (x : Nat) (skip : Int) : Option (List Nat) := if (predS p args true 0).2 then ((Rch.allC (unskip (linksOf l p args) skip) (nxL l) (who, 3) 4).find? fun s => decide (s.1.1 = x)).map (·.2) else none
set_option maxRecDepth 100000 in
set_option maxHeartbeats 4000000 in
theorem chain_t (A B : Option Addr) (c k : Nat) (l : List Cr) (who p : Nat) (args : Int) (x : Nat) (skip : Int) (Γ : List HP) (h : Crs A l Γ) (hK : has Γ (srcAt 1 B (linksOf l p args).length (ints (linksOf l p args)))) (hl : l.length ≤ 50) :
    FnV Try.prog 35 [.agg #[.slice A l.length c, .slice B (linksOf l p args).length k, .bool (predS p args true 0).2], .int .u32 (who : Int), .int .u32 (x : Int), .int .i64 skip] Γ fun v Γ' => ∃ f : Option Wy, v = .tuple #[wayV f, .bool f.isSome] ∧ Γ.Sublist Γ' ∧ (∀ s, f = some s → s.ok Γ') ∧ f.map (·.w) = chainS l who p args x skip := by
  refine Fn.enter Try.func35 rfl rfl rfl fun E => ?_
  have hKl : (linksOf l p args).length ≤ 50 := Nat.le_trans (linksOf_len l p args) hl
  have hKd : ∀ i ∈ linksOf l p args, ∃ x, l[i]? = some x ∧ 0 ≤ x.dep ∧ x.dep ≤ 3 := fun i hi => by
    obtain ⟨x, hx, hb⟩ := linksOf_mem.1 hi
    exact ⟨x, hx, linkB_dep hb⟩
  generalize hKK : linksOf l p args = K at *
  refine m_run ?_
  (apply TL.box; exact rfl; exact rfl; (exact m_lst))
  intro b4
  refine m_run ?_
  (apply TL.box; exact rfl; exact rfl; (exact m_lst))
  intro b6
  refine m_run ?_
  (apply TL.alloc; exact rfl; exact tb rfl; exact (rfl : _ = [_]))
  intro b8
  refine m_run ?_
  (apply TL.alloc; exact rfl; exact tb rfl; exact (rfl : _ = [_]))
  intro b9
  refine TL.imp (Δ := row b9 [.bool false] 4 :: row b8 [.slice none 0 0] 54 :: row b6 [.int .u32 (x : Int)] 31 :: row b4 [.slice A l.length c, .slice B K.length k, .bool (predS p args true 0).2] 82 :: Γ) (fun _ h => h) ?_
  have hb4 : has (row b9 [.bool false] 4 :: row b8 [.slice none 0 0] 54 :: row b6 [.int .u32 (x : Int)] 31 :: row b4 [.slice A l.length c, .slice B K.length k, .bool (predS p args true 0).2] 82 :: Γ) (fun m => cellsAt m b4 0 [.slice A l.length c, .slice B K.length k, .bool (predS p args true 0).2]) := has_rows 3 rfl rfl
  refine m_run ?_
  (apply TL.pv; exact rfl; (apply PV.makeFunc; exact rfl; exact rfl))
  refine m_run ?_
  (apply TL.callV (Δ := TCh b6 b9 b8 x [] :: row b4 [.slice A l.length c, .slice B K.length k, .bool (predS p args true 0).2] 82 :: Γ); exact rfl; exact callB_of (by kernel_rfl); exact rfl; exact fun m hm => all3' (all_perm (List.perm_middle (a := row b6 [.int .u32 (x : Int)] 31) (l₁ := [row b9 [.bool false] 4, row b8 [.slice none 0 0] 54]) (l₂ := row b4 [.slice A l.length c, .slice B K.length k, .bool (predS p args true 0).2] 82 :: Γ)) hm))
  exact rounds_t A B c k l K (predS p args true 0).2 who skip 52 [.pointer (some ⟨b6, 0, none⟩), .pointer (some ⟨b9, 0, none⟩), .pointer (some ⟨b8, 0, none⟩)] (TCh b6 b9 b8 x) (row b4 [.slice A l.length c, .slice B K.length k, .bool (predS p args true 0).2] 82 :: Γ) (Crs.tl h) (has_tls hK) (by omega) hKd (callB_of (by kernel_rfl)) (fun L s Γ' _ _ _ => chainc_t b6 b9 b8 x L s Γ')
  rintro _ _ ⟨rfl, L, Γ2, rfl, hsub, hok, hL⟩
  refine TL.nil ?_
  refine TK.imp (Δ := row b6 [.int .u32 (x : Int)] 31 :: row b9 [.bool (fnd L x).isSome] 4 :: row b8 [wayV (fnd L x)] 54 :: Γ2) (fun m hm => all3 hm) ?_
  have hfw : (fnd L x).map (·.w) = chainS l who p args x skip := by
    have h1 : (fnd L x).map (·.w) = ((L.map pureY).find? fun s => decide (s.1.1 = x)).map (·.2) := by
      unfold fnd
      rw [List.find?_map]
      show _ = ((L.find? fun s => decide (s.pos = x)).map pureY).map (·.2)
      cases L.find? fun s => decide (s.pos = x) <;> rfl
    rw [h1, hL]
    unfold chainS
    rw [hKK]
    cases (predS p args true 0).2 with
    | false => rfl
    | true =>
      rw [if_pos rfl, if_pos rfl]
      have := Rch.fresh_find (fun t => decide (t.1 = x)) (Rch.allC (unskip K skip) (nxL l) (who, 3) 4) [] (by simp)
      exact congrArg (Option.map (·.2)) this
  have hfo : ∀ s, fnd L x = some s → s.ok Γ2 := fun s hs => hok s (List.mem_of_find?_eq_some hs)
  generalize fnd L x = f at *
  have hone := wayV_one f
  generalize hw : wayV f = W at *
  refine m_run ?_
  refine TK.drawS mixed rfl ?_
  refine m_take (At.mk : At 0) ?_; refine m_take (At.mk : At 1) ?_
  (apply TA.one 2; kernel_rfl; exact rfl)
  (apply TL.storeR 2; exact rfl; exact rfl; exact rfl; exact hone; exact tb rfl; exact rfl; exact rfl; exact rfl; exact (rfl : _ = _ :: _ :: _ :: _))
  refine TL.back (by (focus ((repeat (first | assumption | exact Ent.refl _ | apply Ent.tail)); done))) ?_
  (apply TA.one 3; kernel_rfl; exact rfl)
  (apply TL.storeR 1; exact rfl; exact rfl; (exact m_val); exact rfl; exact tb rfl; exact rfl; exact rfl; exact rfl; exact (rfl : _ = _ :: _ :: _ :: _))
  refine TL.back (by (focus ((repeat (first | assumption | exact Ent.refl _ | apply Ent.tail)); done))) ?_
  refine TA.done (by kernel_rfl) ?_
  refine m_run ?_
  refine TK.rets (rvs := [.cell 8 54, .cell 9 4]) (vs := [W, .bool f.isSome]) rfl rfl (.cons (.cell rfl (tb rfl) rfl (has_row 2 rfl rfl)) (.cons (.cell rfl (tb rfl) rfl (has_row 1 rfl rfl)) .nil)) ⟨_, rfl, f, by rw [hw]; rfl, .cons _ (.cons _ (.cons _ ((List.sublist_cons_self _ _).trans hsub))), fun s hs => Wy.ok_tl (Wy.ok_tl (Wy.ok_tl (hfo s hs))), hfw⟩
set_option maxRecDepth 100000 in
theorem chainR_t (A : Option Addr) (c : Nat) (l : List Cr) (who p : Nat) (args : Int) (x : Nat) (Γ : List HP) (h : Crs A l Γ) (hl : l.length ≤ 50) :
    FnV Try.prog 15 [.slice A l.length c, .int .u32 (who : Int), .int .u32 (p : Int), .int .i64 args, .int .u32 (x : Int)] Γ fun v Γ' => ∃ f : Option Wy, v = .tuple #[wayV f, .bool f.isSome] ∧ Γ.Sublist Γ' ∧ (∀ s, f = some s → s.ok Γ') ∧ f.map (·.w) = chainS l who p args x (-1) := by
  refine Fn.enter Try.func15 rfl rfl rfl fun E => ?_
  refine m_run ?_
  (apply TL.callV; exact rfl; exact callB_of (by kernel_rfl); exact rfl; exact fun _ h => h)
  exact of_t A c l p args _ h
  rintro _ _ ⟨B, k, hk, rfl, rfl⟩
  refine m_run ?_
  (apply TL.callV; exact rfl; exact callB_of (by kernel_rfl); exact rfl; exact fun _ h => h)
  exact chain_t A B c k l who p args x (-1) _ (Crs.tl h) (has_at (up_src _ _ _ _) 0 rfl fun _ h => own_src h) hl
  rintro _ Γ3 ⟨f, rfl, hsub, hok, hf⟩
  generalize hw : wayV f = W
  refine m_run ?_
  (apply TK.ret2; exact rfl; exact rfl; exact (rfl : _ = W); exact (rfl : _ = Value.bool f.isSome))
  exact ⟨_, rfl, f, by rw [hw], (List.sublist_cons_self _ _).trans hsub, hok, hf⟩
theorem sub_perm {α : Type} {l m : List α} (h : l.Sublist m) : ∃ r, m.Perm (l ++ r) := by
  induction h with
  | slnil => exact ⟨[], .refl _⟩
  | cons a _ ih =>
    obtain ⟨r, hr⟩ := ih
    exact ⟨a :: r, (hr.cons a).trans List.perm_middle.symm⟩
  | cons_cons a _ ih =>
    obtain ⟨r, hr⟩ := ih
    exact ⟨r, hr.cons a⟩
theorem Atm.ok_sub {a : Atm} {Γ Δ : List HP} (hs : Γ.Sublist Δ) (h : a.ok Γ) : a.ok Δ := ⟨has_sublist (up_src _ _ _ _) hs h.1, h.2⟩
theorem Cr.ok_sub {c : Cr} {Γ Δ : List HP} (hs : Γ.Sublist Δ) (h : c.ok Γ) : c.ok Δ := ⟨Atm.ok_sub hs h.1, has_sublist (up_src _ _ _ _) hs h.2.1, h.2.2.1, fun x hx => Atm.ok_sub hs (h.2.2.2 x hx)⟩
theorem Crs.sub {A : Option Addr} {l : List Cr} {Γ Δ : List HP} (hs : Γ.Sublist Δ) (h : Crs A l Γ) : Crs A l Δ := ⟨has_sublist (up_src _ _ _ _) hs h.src, fun x hx => Cr.ok_sub hs (h.ok x hx), h.few, h.len⟩
theorem chainS_len {l : List Cr} {who p : Nat} {args : Int} {x : Nat} {skip : Int} : ((chainS l who p args x skip).getD []).length ≤ 3 := by
  unfold chainS
  split
  · cases hf : (Rch.allC (unskip (linksOf l p args) skip) (nxL l) (who, 3) 4).find? fun s => decide (s.1.1 = x) with
    | none => exact Nat.zero_le _
    | some s =>
      obtain ⟨k, hk, hm⟩ := (Rch.mem_allC _ _).1 (List.mem_of_find?_eq_some hf)
      have := ((Rch.mem_chs _ _ _ k s.1 s.2).1 hm).1
      show s.2.length ≤ 3
      omega
  · exact Nat.zero_le _
theorem nums_ints (D : List Nat) : nums .i64 (D.map fun n : Nat => (n : Int)) = ints D := by simp [nums, Function.comp_def]
theorem sortI_t (A : Option Addr) (c : Nat) (D : List Nat) (Γ : List HP) (hn : D.length ≤ 1000000000) :
    FnV Try.prog 41 [.slice A D.length c] (own 3 1 (.slice A D.length c) D.length (ints D) :: Γ)
      fun v Γ' => v = .tuple #[] ∧ ∃ D', D'.Perm D ∧ D'.Pairwise (· ≤ ·) ∧ Γ' = own 3 1 (.slice A D.length c) D.length (ints D') :: Γ := by
  have h := SI.sort_t A c (D.map fun n : Nat => (n : Int)) Γ (by rw [List.length_map]; exact hn)
  rw [nums_ints, List.length_map] at h
  refine Fn.mono h fun e Γ' => ?_
  rintro ⟨v, rfl, rfl, D', hp, hs, rfl⟩
  have hn : ∀ x ∈ D', 0 ≤ x := fun x hx => by
    obtain ⟨n, _, rfl⟩ := List.mem_map.1 (hp.mem_iff.1 hx)
    omega
  have hback : (D'.map Int.toNat).map (fun n : Nat => (n : Int)) = D' := by
    rw [List.map_map]
    exact (List.map_congr_left fun x hx => Int.toNat_of_nonneg (hn x hx)).trans (List.map_id _)
  refine ⟨_, rfl, rfl, D'.map Int.toNat, ?_, ?_, by rw [← nums_ints, hback]⟩
  · have := hp.map Int.toNat
    rw [List.map_map] at this
    exact this.trans (.of_eq ((List.map_congr_left fun x _ => rfl).trans (List.map_id _)))
  · rw [List.pairwise_map]
    exact hs.imp fun h => Int.toNat_le_toNat h
/-- The links without which one is not reached, as they lie on the way. -/
def cutsL (l : List Cr) (who p : Nat) (args : Int) (x : Nat) : List Nat := ((chainS l who p args x (-1)).getD []).filter fun i : Nat => (chainS l who p args x i).isNone
set_option maxRecDepth 100000 in
set_option maxHeartbeats 4000000 in
theorem cutsR_t (A : Option Addr) (c : Nat) (l : List Cr) (who p : Nat) (args : Int) (x : Nat) (Γ : List HP) (h : Crs A l Γ) (hl : l.length ≤ 50) :
    FnV Try.prog 21 [.slice A l.length c, .int .u32 (who : Int), .int .u32 (p : Int), .int .i64 args, .int .u32 (x : Int)] Γ fun v Γ' => ∃ (O : List Nat) (B : Option Addr) (k : Nat) (Γ2 : List HP), O.Perm (cutsL l who p args x) ∧ O.Pairwise (· ≤ ·) ∧ Γ.Sublist Γ2 ∧ v = .slice B O.length k ∧ Γ' = own 3 1 (.slice B O.length k) O.length (ints O) :: Γ2 := by
  refine Fn.enter Try.func21 rfl rfl rfl fun E => ?_
  refine m_run ?_
  (apply TL.callV; exact rfl; exact callB_of (by kernel_rfl); exact rfl; exact fun _ h => h)
  exact of_t A c l p args _ h
  rintro _ _ ⟨B, k, hk, rfl, rfl⟩
  (apply TL.alloc; exact rfl; exact tb rfl; exact (rfl : _ = [_, _, _]))
  intro b11
  refine m_rrun ?_
  refine TL.nil ?_
  refine TK.imp (Δ := row b11 [.slice A l.length c, .slice B (linksOf l p args).length k, .bool (predS p args true 0).2] 82 :: own 3 1 (.slice B (linksOf l p args).length k) (linksOf l p args).length (ints (linksOf l p args)) :: Γ) (fun _ h => h) ?_
  have hb11 : has (row b11 [.slice A l.length c, .slice B (linksOf l p args).length k, .bool (predS p args true 0).2] 82 :: own 3 1 (.slice B (linksOf l p args).length k) (linksOf l p args).length (ints (linksOf l p args)) :: Γ) (fun m => cellsAt m b11 0 [.slice A l.length c, .slice B (linksOf l p args).length k, .bool (predS p args true 0).2]) := has_rows 0 rfl rfl
  refine m_run ?_
  (apply TL.callV; exact rfl; exact callB_of (by kernel_rfl); exact rfl; exact fun _ h => h)
  exact chain_t A B c k l who p args x (-1) _ (Crs.tl (Crs.tl h)) (has_at (up_src _ _ _ _) 1 rfl fun _ h => own_src h) hl
  rintro _ Γ3 ⟨f, rfl, hsub, hok, hf⟩
  have hb3 : has Γ3 (fun m => cellsAt m b11 0 [.slice A l.length c, .slice B (linksOf l p args).length k, .bool (predS p args true 0).2]) := has_sublist (up_cells _ _ _) hsub hb11
  have hK3 : has Γ3 (srcAt 1 B (linksOf l p args).length (ints (linksOf l p args))) := has_sublist (up_src _ _ _ _) hsub (has_at (up_src _ _ _ _) 1 rfl fun _ h => own_src h)
  have hG3 : Γ.Sublist Γ3 := ((List.sublist_cons_self _ _).trans (List.sublist_cons_self _ _)).trans hsub
  clear hb11
  have hwl := @chainS_len l who p args x (-1)
  obtain ⟨w, hwd⟩ : ∃ w, w = (chainS l who p args x (-1)).getD [] := ⟨_, rfl⟩
  rw [← hwd] at hwl
  obtain ⟨WA, Wc, hwv, hws⟩ : ∃ WA Wc, wayV f = .slice WA w.length Wc ∧ has Γ3 (srcAt 1 WA w.length (ints w)) := by
    rw [hwd, ← hf]
    cases f with
    | none => exact ⟨none, 0, rfl, has_srcnil _ _⟩
    | some s => exact ⟨s.A, s.c, rfl, (hok s rfl).1⟩
  rw [hwv]
  unfold cutsL
  rw [← hwd]
  refine m_run ?_
  refine TK.free (H := own 3 1 (.slice none 0 0) 0 []) (fun m hm => own_nil _ _ hm) ?_
  apply TK.iter (fun j ρ' Γ' => ∃ (a : Nat) (O : List Nat) (B2 : Option Addr) (k2 : Nat) (Γ4 : List HP), a + j = w.length ∧ O = (w.take a).filter (fun i : Nat => (chainS l who p args x i).isNone) ∧ O.length ≤ a ∧ Γ3.Sublist Γ4 ∧ lk ρ' 1 = .int .u32 (who : Int) ∧ lk ρ' 4 = .int .u32 (x : Int) ∧ lk ρ' 11 = .pointer (some ⟨b11, 0, none⟩) ∧ lk ρ' 14 = .slice B2 O.length k2 ∧ lk ρ' 30 = .slice WA w.length Wc ∧ lk ρ' 31 = .int .i64 (w.length : Int) ∧ lk ρ' 32 = .int .i64 (a : Int) ∧ Γ' = own 3 1 (.slice B2 O.length k2) O.length (ints O) :: Γ4) w.length
  · exact ⟨0, [], none, 0, Γ3, Nat.zero_add _, rfl, Nat.le_refl _, .refl _, rfl, rfl, rfl, rfl, rfl, rfl, rfl, rfl⟩
  rintro j IH ρ' _ ⟨a, O, B2, k2, Γ4, haj, hO, hOl, hs4, e1, e4, e11, e14, e30, e31, e32, rfl⟩
  refine TK.know7 e1 e4 e11 e14 e30 e31 e32 ?_
  by_cases ha : a < w.length
  · obtain ⟨i, hi⟩ : ∃ i, w[a]? = some i := ⟨w[a], List.getElem?_eq_getElem ha⟩
    have hw4 : has Γ4 (srcAt 1 WA w.length (ints w)) := has_sublist (up_src _ _ _ _) hs4 hws
    have hb4 : has Γ4 (fun m => cellsAt m b11 0 [.slice A l.length c, .slice B (linksOf l p args).length k, .bool (predS p args true 0).2]) := has_sublist (up_cells _ _ _) hs4 hb3
    have hK4 : has Γ4 (srcAt 1 B (linksOf l p args).length (ints (linksOf l p args))) := has_sublist (up_src _ _ _ _) hs4 hK3
    refine TK.mem fun m0 hm0 => ?_
    obtain ⟨g, u, rfl⟩ := src_some ((has_tls hw4 : has (_ :: Γ4) _) m0 hm0) (by rw [ints_len]; omega)
    clear hm0 m0
    have hcell := has_ints hw4 hi
    refine m_run ?_
    (apply TL.callV; exact rfl; exact callB_of (by kernel_rfl); exact rfl; exact fun _ h => h)
    exact chain_t A B c k l who p args x (i : Int) _ (Crs.tl (Crs.sub (hG3.trans hs4) h)) (has_tls hK4) hl
    rintro _ Γ5 ⟨f2, rfl, hsub5, hok5, hf5⟩
    obtain ⟨R, hR⟩ := sub_perm hsub5
    refine TL.imp (Δ := own 3 1 (.slice B2 O.length k2) O.length (ints O) :: (Γ4 ++ R)) (fun m hm => all_perm hR hm) ?_
    have hs5 : Γ3.Sublist (Γ4 ++ R) := hs4.trans (List.sublist_append_left _ _)
    have hone := wayV_one f2
    generalize wayV f2 = W2 at *
    have hisn : (chainS l who p args x (i : Int)).isNone = !f2.isSome := by rw [← hf5]; cases f2 <;> rfl
    have hsn : (w.take (a + 1)).filter (fun i : Nat => (chainS l who p args x i).isNone) = O ++ (if f2.isSome then [] else [i]) := by
      rw [List.take_add_one, hi, List.filter_append, ← hO]
      congr 1
      simp only [Option.toList_some, List.filter_cons, List.filter_nil, hisn]
      cases f2 <;> rfl
    cases f2 with
    | some y =>
      refine m_run ?_
      exact IH (j - 1) _ _ (by omega) ⟨a + 1, O, B2, k2, Γ4 ++ R, by omega, by rw [hsn]; simp, by omega, hs5, rfl, rfl, rfl, rfl, rfl, rfl, congrArg (Value.int .i64) (i64_succ a (by omega)), rfl⟩
    | none =>
      refine m_run ?_
      (apply TL.buildSlice (l := ints [i]); exact rfl; exact tb rfl; exact rfl; exact tb rfl; exact rfl; exact rfl; exact rfl; exact rfl; exact rfl)
      intro b48
      refine m_run ?_
      (apply TL.append 1; exact rfl; exact rfl; exact tb rfl; exact rfl; exact tb rfl; exact rfl; exact rfl; exact rfl)
      · exact fun _ h => h
      · exact rfl
      · exact has_src_row 0 rfl rfl
      · exact ints_one [i]
      · show (O.length + 1) * 8 ≤ _; omega
      · show O.length + 1 ≤ maxLen; unfold maxLen; omega
      · exact fun _ => (rfl : _ = _ :: _ :: _)
      intro B3 k3 hk3
      rw [show ints O ++ ints [i] = ints (O ++ [i]) by simp, show O.length + 1 = (O ++ [i]).length by simp]
      refine m_run ?_
      refine TK.drop ?_
      exact IH (j - 1) _ _ (by omega) ⟨a + 1, O ++ [i], B3, k3, Γ4 ++ R, by omega, by rw [hsn]; simp, by simp; omega, hs5, rfl, rfl, rfl, rfl, rfl, rfl, congrArg (Value.int .i64) (i64_succ a (by omega)), rfl⟩
  obtain rfl : a = w.length := by omega
  rw [List.take_length] at hO
  refine m_run ?_
  (apply TL.callV (Δ := own 3 1 (.slice B2 O.length k2) O.length (ints O) :: Γ4); exact rfl; exact callB_of (by kernel_rfl); exact rfl; exact fun _ h => h)
  exact sortI_t B2 k2 O _ (by omega)
  rintro _ _ ⟨rfl, D2, hp2, hs2, rfl⟩
  rw [← hp2.length_eq]
  refine m_run ?_
  (apply TK.ret1; exact rfl; exact rfl; (exact m_val))
  exact ⟨_, rfl, D2, B2, k2, Γ4, by rw [← hO]; exact hp2, hs2, hG3.trans hs4, rfl, rfl⟩
end Go.Proofs.Ythbcfamfaicneaa.E

/- The document on who is reached: link, reached, from, walked. Printed by gen_yp.py. -/
namespace Go.Proofs.Ythbcfamfaicneaa.E
open Go Go.RowKit Go.Proofs
attribute [local irreducible] TK TL TQ TA TB Fn PV
set_option maxRecDepth 100000 in
set_option maxHeartbeats 4000000 in
theorem rlink_t (x : Cr) (p : Nat) (args : Int) (Γ : List HP) (hxo : x.ok Γ) (hxf : x.few) : FnV Try.prog 73 [.agg x.cells.toArray, .int .u32 (p : Int), .int .i64 args] Γ fun v Γ' => v = .bool (linkB p args x) ∧ Γ' = Γ := by
  refine Fn.enter Try.func73 rfl rfl rfl fun E => ?_
  refine m_run ?_
  (apply TL.box; exact rfl; exact rfl; (exact m_lst))
  intro b3
  refine TL.imp (Δ := crRow b3 x :: Γ) (fun _ h => h) ?_
  have hb3 : has (crRow b3 x :: Γ) (fun m => cellsAt m b3 0 x.cells) := has_rows 0 rfl rfl
  by_cases h1 : x.kind = 2
  rotate_left
  · refine m_run ?_
    (apply TK.retS1; exact rfl; exact rfl; (exact m_val))
    exact ⟨_, rfl, by simp [linkB, h1], rfl⟩
    (repeat (first | exact List.Sublist.refl _ | apply List.Sublist.cons_cons | apply List.Sublist.cons))
  refine m_run ?_
  (apply TL.callV; exact rfl; exact callB_of (by kernel_rfl); exact rfl; exact fun _ h => h)
  exact rcredMay_t x _ (Cr.ok_tl hxo) hxf
  rintro _ _ ⟨rfl, rfl⟩
  cases hm : mayCr x with
  | false =>
    refine m_run ?_
    (apply TK.retS1; exact rfl; exact rfl; (exact m_val))
    exact ⟨_, rfl, by simp [linkB, hm], rfl⟩
    (repeat (first | exact List.Sublist.refl _ | apply List.Sublist.cons_cons | apply List.Sublist.cons))
  | true =>
  by_cases h2 : x.p = p
  rotate_left
  · refine m_run ?_
    (apply TK.retS1; exact rfl; exact rfl; (exact m_val))
    exact ⟨_, rfl, by simp [linkB, h2], rfl⟩
    (repeat (first | exact List.Sublist.refl _ | apply List.Sublist.cons_cons | apply List.Sublist.cons))
  by_cases h3 : x.args = args
  rotate_left
  · have h3' : (x.args == args) = false := by simpa using h3
    refine m_run ?_
    (apply TK.retS1; exact rfl; exact rfl; (exact m_val))
    exact ⟨_, rfl, by simp [linkB, h3], rfl⟩
    (repeat (first | exact List.Sublist.refl _ | apply List.Sublist.cons_cons | apply List.Sublist.cons))
  have h3' : (x.args == args) = true := by simpa using h3
  refine m_run ?_
  (apply TL.callV; exact rfl; exact callB_of (by kernel_rfl); exact rfl; exact fun _ h => h)
  exact takes_t p args _
  rintro _ _ ⟨rfl, rfl⟩
  refine m_run ?_
  (apply TK.retS1; exact rfl; exact rfl; (exact m_val))
  exact ⟨_, rfl, by simp [linkB, h1, h2, h3, hm], rfl⟩
  (repeat (first | exact List.Sublist.refl _ | apply List.Sublist.cons_cons | apply List.Sublist.cons))
abbrev wkRow (bw : Nat) (A : Option Addr) (n c p : Nat) (args : Int) (O : Option Addr) (m ko x : Nat) (f : Option Wy) : HP := row bw [.slice A n c, .int .u32 (p : Int), .int .i64 args, .slice O m ko, .int .u32 (x : Int), wayV f, .bool f.isSome] 88
/-- One chain, told. -/
def rchP (x : Nat) (st : List Nat × Option (List Nat)) (s : Rch.Stp) : List Nat × Option (List Nat) := (if s.1.1 ∈ st.1 then st.1 else st.1 ++ [s.1.1], if st.2.isSome then st.2 else if s.1.1 = x then some s.2 else none)
theorem rchP_len (x : Nat) : ∀ (L : List Rch.Stp) (st : List Nat × Option (List Nat)), (L.foldl (rchP x) st).1.length ≤ st.1.length + L.length
  | [], _ => Nat.le_refl _
  | s :: L, st => by
    rw [List.foldl_cons, List.length_cons]
    refine Nat.le_trans (rchP_len x L _) ?_
    unfold rchP
    simp only
    split
    · omega
    · rw [List.length_append, List.length_singleton]; omega
set_option maxRecDepth 100000 in
set_option maxHeartbeats 8000000 in
theorem reached_t (bw : Nat) (A : Option Addr) (c : Nat) (l : List Cr) (p : Nat) (args : Int) (x v : Nat) (y : Wy) (O : Option Addr) (ko : Nat) (out : List Nat) (f : Option Wy) (Γ : List HP) (hn : out.length ≤ 1000000) :
    FnV Try.prog 72 [.pointer (some ⟨bw, 0, none⟩), .int .u32 (v : Int), .slice y.A y.w.length y.c] (own 31 1 (.slice O out.length ko) out.length (u32s out) :: wkRow bw A l.length c p args O out.length ko x f :: Γ) fun r Γ' => r = .tuple #[] ∧ ∃ (O' : Option Addr) (ko' : Nat), Γ' = own 31 1 (.slice O' (if v ∈ out then out else out ++ [v]).length ko') (if v ∈ out then out else out ++ [v]).length (u32s (if v ∈ out then out else out ++ [v])) :: wkRow bw A l.length c p args O' (if v ∈ out then out else out ++ [v]).length ko' x (if f.isSome then f else if v = x then some y else none) :: Γ := by
  refine Fn.enter Try.func72 rfl rfl rfl fun E => ?_
  cases f with
  | some y0 =>
    rw [if_pos (show (some y0).isSome = true from rfl)]
    by_cases hx : v = x
    · refine m_run ?_
      apply TK.iter (fun j ρ' Γ' => ∃ i : Nat, i + j = out.length ∧ v ∉ out.take i ∧ lk ρ' 0 = .pointer (some ⟨bw, 0, none⟩) ∧ lk ρ' 1 = .int .u32 (v : Int) ∧ lk ρ' 6 = .int .i64 (i : Int) ∧ Γ' = own 31 1 (.slice O out.length ko) out.length (u32s out) :: wkRow bw A l.length c p args O out.length ko x (some y0) :: Γ) out.length
      · exact ⟨0, Nat.zero_add _, by simp, rfl, rfl, rfl, rfl⟩
      rintro j IH ρ' _ ⟨i, hij, hno, e0, e1, e6, rfl⟩
      refine TK.know3 e0 e1 e6 ?_
      by_cases hi : i < out.length
      · obtain ⟨z, hz⟩ : ∃ z, out[i]? = some z := ⟨out[i], List.getElem?_eq_getElem hi⟩
        have hs : has (own 31 1 (.slice O out.length ko) out.length (u32s out) :: wkRow bw A l.length c p args O out.length ko x (some y0) :: Γ) (srcAt 1 O out.length (u32s out)) := has_at (up_src _ _ _ _) 0 rfl fun _ h => own_src h
        refine TK.mem fun m0 hm0 => ?_
        obtain ⟨g, u, rfl⟩ := src_some (hs m0 hm0) (by rw [u32s_len]; omega)
        clear hm0 m0
        have hw := has_u32 hs hz
        by_cases hvz : z = v
        · subst hvz
          have hin : z ∈ out := List.mem_of_getElem? hz
          refine m_run ?_
          refine TK.ret0 rfl rfl ⟨_, rfl, rfl, some ⟨g, u, none⟩, ko, ?_⟩
          rw [if_pos hin]
        · refine m_run ?_
          refine IH (j - 1) _ _ (by omega) ⟨i + 1, by omega, ?_, rfl, rfl, congrArg (Value.int .i64) (i64_succ i (by omega)), rfl⟩
          rw [List.take_add_one, hz, List.mem_append, not_or]
          exact ⟨hno, by simpa using fun e => hvz e.symm⟩
      obtain rfl : i = out.length := by omega
      rw [List.take_length] at hno
      refine m_run ?_
      (apply TL.buildSlice (l := u32s [v]); exact rfl; exact tb rfl; exact rfl; exact tb rfl; exact rfl; exact rfl; exact rfl; exact rfl; exact rfl)
      intro b51
      refine m_run ?_
      (apply TL.append 1; exact rfl; exact rfl; exact tb rfl; exact rfl; exact tb rfl; exact rfl; exact rfl; exact rfl)
      · exact fun _ h => h
      · exact rfl
      · exact has_src_row 0 rfl rfl
      · exact u32s_one [v]
      · show (out.length + 1) * 4 ≤ _; omega
      · show out.length + 1 ≤ maxLen; unfold maxLen; omega
      · exact fun _ => (rfl : _ = _ :: _ :: _)
      intro O2 k2 hk2
      rw [show u32s out ++ u32s [v] = u32s (out ++ [v]) by simp [u32s], show out.length + 1 = (out ++ [v]).length by simp]
      refine m_run ?_
      refine TK.drop ?_
      refine TK.over0 rfl rfl ⟨_, rfl, rfl, O2, k2, ?_⟩
      rw [if_neg hno]
    · refine m_run ?_
      apply TK.iter (fun j ρ' Γ' => ∃ i : Nat, i + j = out.length ∧ v ∉ out.take i ∧ lk ρ' 0 = .pointer (some ⟨bw, 0, none⟩) ∧ lk ρ' 1 = .int .u32 (v : Int) ∧ lk ρ' 6 = .int .i64 (i : Int) ∧ Γ' = own 31 1 (.slice O out.length ko) out.length (u32s out) :: wkRow bw A l.length c p args O out.length ko x (some y0) :: Γ) out.length
      · exact ⟨0, Nat.zero_add _, by simp, rfl, rfl, rfl, rfl⟩
      rintro j IH ρ' _ ⟨i, hij, hno, e0, e1, e6, rfl⟩
      refine TK.know3 e0 e1 e6 ?_
      by_cases hi : i < out.length
      · obtain ⟨z, hz⟩ : ∃ z, out[i]? = some z := ⟨out[i], List.getElem?_eq_getElem hi⟩
        have hs : has (own 31 1 (.slice O out.length ko) out.length (u32s out) :: wkRow bw A l.length c p args O out.length ko x (some y0) :: Γ) (srcAt 1 O out.length (u32s out)) := has_at (up_src _ _ _ _) 0 rfl fun _ h => own_src h
        refine TK.mem fun m0 hm0 => ?_
        obtain ⟨g, u, rfl⟩ := src_some (hs m0 hm0) (by rw [u32s_len]; omega)
        clear hm0 m0
        have hw := has_u32 hs hz
        by_cases hvz : z = v
        · subst hvz
          have hin : z ∈ out := List.mem_of_getElem? hz
          refine m_run ?_
          refine TK.ret0 rfl rfl ⟨_, rfl, rfl, some ⟨g, u, none⟩, ko, ?_⟩
          rw [if_pos hin]
        · refine m_run ?_
          refine IH (j - 1) _ _ (by omega) ⟨i + 1, by omega, ?_, rfl, rfl, congrArg (Value.int .i64) (i64_succ i (by omega)), rfl⟩
          rw [List.take_add_one, hz, List.mem_append, not_or]
          exact ⟨hno, by simpa using fun e => hvz e.symm⟩
      obtain rfl : i = out.length := by omega
      rw [List.take_length] at hno
      refine m_run ?_
      (apply TL.buildSlice (l := u32s [v]); exact rfl; exact tb rfl; exact rfl; exact tb rfl; exact rfl; exact rfl; exact rfl; exact rfl; exact rfl)
      intro b51
      refine m_run ?_
      (apply TL.append 1; exact rfl; exact rfl; exact tb rfl; exact rfl; exact tb rfl; exact rfl; exact rfl; exact rfl)
      · exact fun _ h => h
      · exact rfl
      · exact has_src_row 0 rfl rfl
      · exact u32s_one [v]
      · show (out.length + 1) * 4 ≤ _; omega
      · show out.length + 1 ≤ maxLen; unfold maxLen; omega
      · exact fun _ => (rfl : _ = _ :: _ :: _)
      intro O2 k2 hk2
      rw [show u32s out ++ u32s [v] = u32s (out ++ [v]) by simp [u32s], show out.length + 1 = (out ++ [v]).length by simp]
      refine m_run ?_
      refine TK.drop ?_
      refine TK.over0 rfl rfl ⟨_, rfl, rfl, O2, k2, ?_⟩
      rw [if_neg hno]
  | none =>
    rw [if_neg (show ¬ (none : Option Wy).isSome = true by decide)]
    by_cases hx : v = x
    · rw [if_pos hx]
      refine m_run ?_
      apply TK.iter (fun j ρ' Γ' => ∃ i : Nat, i + j = out.length ∧ v ∉ out.take i ∧ lk ρ' 0 = .pointer (some ⟨bw, 0, none⟩) ∧ lk ρ' 1 = .int .u32 (v : Int) ∧ lk ρ' 6 = .int .i64 (i : Int) ∧ Γ' = own 31 1 (.slice O out.length ko) out.length (u32s out) :: wkRow bw A l.length c p args O out.length ko x (some y) :: Γ) out.length
      · exact ⟨0, Nat.zero_add _, by simp, rfl, rfl, rfl, rfl⟩
      rintro j IH ρ' _ ⟨i, hij, hno, e0, e1, e6, rfl⟩
      refine TK.know3 e0 e1 e6 ?_
      by_cases hi : i < out.length
      · obtain ⟨z, hz⟩ : ∃ z, out[i]? = some z := ⟨out[i], List.getElem?_eq_getElem hi⟩
        have hs : has (own 31 1 (.slice O out.length ko) out.length (u32s out) :: wkRow bw A l.length c p args O out.length ko x (some y) :: Γ) (srcAt 1 O out.length (u32s out)) := has_at (up_src _ _ _ _) 0 rfl fun _ h => own_src h
        refine TK.mem fun m0 hm0 => ?_
        obtain ⟨g, u, rfl⟩ := src_some (hs m0 hm0) (by rw [u32s_len]; omega)
        clear hm0 m0
        have hw := has_u32 hs hz
        by_cases hvz : z = v
        · subst hvz
          have hin : z ∈ out := List.mem_of_getElem? hz
          refine m_run ?_
          refine TK.ret0 rfl rfl ⟨_, rfl, rfl, some ⟨g, u, none⟩, ko, ?_⟩
          rw [if_pos hin]
        · refine m_run ?_
          refine IH (j - 1) _ _ (by omega) ⟨i + 1, by omega, ?_, rfl, rfl, congrArg (Value.int .i64) (i64_succ i (by omega)), rfl⟩
          rw [List.take_add_one, hz, List.mem_append, not_or]
          exact ⟨hno, by simpa using fun e => hvz e.symm⟩
      obtain rfl : i = out.length := by omega
      rw [List.take_length] at hno
      refine m_run ?_
      (apply TL.buildSlice (l := u32s [v]); exact rfl; exact tb rfl; exact rfl; exact tb rfl; exact rfl; exact rfl; exact rfl; exact rfl; exact rfl)
      intro b51
      refine m_run ?_
      (apply TL.append 1; exact rfl; exact rfl; exact tb rfl; exact rfl; exact tb rfl; exact rfl; exact rfl; exact rfl)
      · exact fun _ h => h
      · exact rfl
      · exact has_src_row 0 rfl rfl
      · exact u32s_one [v]
      · show (out.length + 1) * 4 ≤ _; omega
      · show out.length + 1 ≤ maxLen; unfold maxLen; omega
      · exact fun _ => (rfl : _ = _ :: _ :: _)
      intro O2 k2 hk2
      rw [show u32s out ++ u32s [v] = u32s (out ++ [v]) by simp [u32s], show out.length + 1 = (out ++ [v]).length by simp]
      refine m_run ?_
      refine TK.drop ?_
      refine TK.over0 rfl rfl ⟨_, rfl, rfl, O2, k2, ?_⟩
      rw [if_neg hno]
    · rw [if_neg hx]
      refine m_run ?_
      apply TK.iter (fun j ρ' Γ' => ∃ i : Nat, i + j = out.length ∧ v ∉ out.take i ∧ lk ρ' 0 = .pointer (some ⟨bw, 0, none⟩) ∧ lk ρ' 1 = .int .u32 (v : Int) ∧ lk ρ' 6 = .int .i64 (i : Int) ∧ Γ' = own 31 1 (.slice O out.length ko) out.length (u32s out) :: wkRow bw A l.length c p args O out.length ko x none :: Γ) out.length
      · exact ⟨0, Nat.zero_add _, by simp, rfl, rfl, rfl, rfl⟩
      rintro j IH ρ' _ ⟨i, hij, hno, e0, e1, e6, rfl⟩
      refine TK.know3 e0 e1 e6 ?_
      by_cases hi : i < out.length
      · obtain ⟨z, hz⟩ : ∃ z, out[i]? = some z := ⟨out[i], List.getElem?_eq_getElem hi⟩
        have hs : has (own 31 1 (.slice O out.length ko) out.length (u32s out) :: wkRow bw A l.length c p args O out.length ko x none :: Γ) (srcAt 1 O out.length (u32s out)) := has_at (up_src _ _ _ _) 0 rfl fun _ h => own_src h
        refine TK.mem fun m0 hm0 => ?_
        obtain ⟨g, u, rfl⟩ := src_some (hs m0 hm0) (by rw [u32s_len]; omega)
        clear hm0 m0
        have hw := has_u32 hs hz
        by_cases hvz : z = v
        · subst hvz
          have hin : z ∈ out := List.mem_of_getElem? hz
          refine m_run ?_
          refine TK.ret0 rfl rfl ⟨_, rfl, rfl, some ⟨g, u, none⟩, ko, ?_⟩
          rw [if_pos hin]
        · refine m_run ?_
          refine IH (j - 1) _ _ (by omega) ⟨i + 1, by omega, ?_, rfl, rfl, congrArg (Value.int .i64) (i64_succ i (by omega)), rfl⟩
          rw [List.take_add_one, hz, List.mem_append, not_or]
          exact ⟨hno, by simpa using fun e => hvz e.symm⟩
      obtain rfl : i = out.length := by omega
      rw [List.take_length] at hno
      refine m_run ?_
      (apply TL.buildSlice (l := u32s [v]); exact rfl; exact tb rfl; exact rfl; exact tb rfl; exact rfl; exact rfl; exact rfl; exact rfl; exact rfl)
      intro b51
      refine m_run ?_
      (apply TL.append 1; exact rfl; exact rfl; exact tb rfl; exact rfl; exact tb rfl; exact rfl; exact rfl; exact rfl)
      · exact fun _ h => h
      · exact rfl
      · exact has_src_row 0 rfl rfl
      · exact u32s_one [v]
      · show (out.length + 1) * 4 ≤ _; omega
      · show out.length + 1 ≤ maxLen; unfold maxLen; omega
      · exact fun _ => (rfl : _ = _ :: _ :: _)
      intro O2 k2 hk2
      rw [show u32s out ++ u32s [v] = u32s (out ++ [v]) by simp [u32s], show out.length + 1 = (out ++ [v]).length by simp]
      refine m_run ?_
      refine TK.drop ?_
      refine TK.over0 rfl rfl ⟨_, rfl, rfl, O2, k2, ?_⟩
      rw [if_neg hno]
end Go.Proofs.Ythbcfamfaicneaa.E

/- The document on who is reached: from, walked. Printed by gen_yq.py. -/
namespace Go.Proofs.Ythbcfamfaicneaa.E
open Go Go.RowKit Go.Proofs
attribute [local irreducible] TK TL TQ TA TB Fn PV
theorem linksOf_split (l : List Cr) (p : Nat) (args : Int) (i : Nat) : ∃ R, linksOf l p args = linksOf (l.take i) p args ++ R := by
  unfold linksOf
  refine ⟨((((l.drop i).zipIdx (0 + (l.take i).length)).filter fun x => linkB p args x.1).map (·.2)), ?_⟩
  rw [← List.map_append, ← List.filter_append, ← List.zipIdx_append, List.take_append_drop]
set_option maxRecDepth 100000 in
set_option maxHeartbeats 16000000 in
theorem from_t (bw : Nat) (A : Option Addr) (c : Nat) (l : List Cr) (p : Nat) (args : Int) (x : Nat) (Γ : List HP) (h : Crs A l Γ) :
    ∀ (links v k : Nat) (y : Wy) (O : Option Addr) (ko : Nat) (out : List Nat) (f : Option Wy) (Γ2 : List HP), Γ.Sublist Γ2 → y.ok Γ2 → y.w.length + links ≤ 10 → k ≤ 3 → links ≤ 3 → (∀ s, f = some s → s.ok Γ2) → out.length + (Rch.goes (linksOf l p args) (nxL l) links ((v, k), y.w)).length ≤ 1000000 →
    FnV Try.prog 54 [.pointer (some ⟨bw, 0, none⟩), .int .u32 (v : Int), .int .i64 (k : Int), .int .i64 (links : Int), .slice y.A y.w.length y.c] (own 31 1 (.slice O out.length ko) out.length (u32s out) :: wkRow bw A l.length c p args O out.length ko x f :: Γ2) fun r Γ' => r = .tuple #[] ∧ ∃ (O' : Option Addr) (ko' : Nat) (out' : List Nat) (f' : Option Wy) (Γ3 : List HP), Γ' = own 31 1 (.slice O' out'.length ko') out'.length (u32s out') :: wkRow bw A l.length c p args O' out'.length ko' x f' :: Γ3 ∧ Γ2.Sublist Γ3 ∧ (∀ s, f' = some s → s.ok Γ3) ∧ (out', f'.map (·.w)) = (Rch.goes (linksOf l p args) (nxL l) links ((v, k), y.w)).foldl (rchP x) (out, f.map (·.w)) := by
  intro links
  induction links with
  | zero =>
    intro v k y O ko out f Γ2 hsub hy hyw hk hlk hf hlen
    refine Fn.enter Try.func54 rfl rfl rfl fun E => ?_
    refine m_run ?_
    (apply TL.callV; exact rfl; exact callB_of (by kernel_rfl); exact rfl; exact fun _ h => h)
    exact reached_t bw A c l p args x v y O ko out f Γ2 (by omega)
    rintro _ _ ⟨rfl, O2, k2, rfl⟩
    refine m_run ?_
    refine TK.ret0 rfl rfl ⟨_, rfl, rfl, O2, k2, _, _, Γ2, rfl, .refl _, fun s hs => ?_, ?_⟩
    · split at hs
      · exact hf s hs
      · split at hs
        · injection hs with hs; rw [← hs]; exact hy
        · cases hs
    · show _ = rchP x (out, f.map (·.w)) ((v, k), y.w)
      unfold rchP
      cases f with
      | some y0 => rfl
      | none => by_cases hvx : v = x <;> simp [hvx]
  | succ links ih =>
    intro v k y O ko out f Γ2 hsub hy hyw hk hlk hf hlen
    refine Fn.enter Try.func54 rfl rfl rfl fun E => ?_
    have hll := h.len
    refine m_run ?_
    apply TK.iter (fun j ρ' Γ' => ∃ (i : Nat) (O1 : Option Addr) (k1 : Nat) (out1 : List Nat) (f1 : Option Wy) (Γ3 : List HP), i + j = l.length ∧ Γ2.Sublist Γ3 ∧ (∀ s, f1 = some s → s.ok Γ3) ∧ (out1, f1.map (·.w)) = (((linksOf (l.take i) p args).filterMap (Rch.step1 (nxL l) ((v, k), y.w))).flatMap (Rch.goes (linksOf l p args) (nxL l) links)).foldl (rchP x) (out, f.map (·.w)) ∧ lk ρ' 0 = .pointer (some ⟨bw, 0, none⟩) ∧ lk ρ' 1 = .int .u32 (v : Int) ∧ lk ρ' 2 = .int .i64 (k : Int) ∧ lk ρ' 3 = .int .i64 ((links + 1 : Nat) : Int) ∧ lk ρ' 4 = .slice y.A y.w.length y.c ∧ lk ρ' 10 = .int .i64 (i : Int) ∧ Γ' = own 31 1 (.slice O1 out1.length k1) out1.length (u32s out1) :: wkRow bw A l.length c p args O1 out1.length k1 x f1 :: Γ3) l.length
    · exact ⟨0, O, ko, out, f, Γ2, Nat.zero_add _, .refl _, hf, rfl, rfl, rfl, rfl, rfl, rfl, rfl, rfl⟩
    rintro j IH ρ' _ ⟨i, O1, k1, out1, f1, Γ3, hij, hsub3, hf1, hst, e0, e1, e2, e3, e4, e10, rfl⟩
    refine TK.know6 e0 e1 e2 e3 e4 e10 ?_
    by_cases hi : i < l.length
    rotate_left
    · obtain rfl : i = l.length := by omega
      rw [List.take_length] at hst
      refine m_run ?_
      exact TK.over0 rfl rfl ⟨_, rfl, rfl, O1, k1, out1, f1, Γ3, rfl, hsub3, hf1, hst⟩
    obtain ⟨X, hX⟩ : ∃ X, l[i]? = some X := ⟨l[i], List.getElem?_eq_getElem hi⟩
    have hXm := List.mem_of_getElem? hX
    have hA3 : has Γ3 (srcAt 15 A l.length (crsC l)) := has_sublist (up_src _ _ _ _) (hsub.trans hsub3) h.src
    have hXo : X.ok Γ3 := Cr.ok_sub (hsub.trans hsub3) (h.ok X hXm)
    have hXf := h.few X hXm
    have hy3 : y.ok Γ3 := ⟨has_sublist (up_src _ _ _ _) hsub3 hy.1, hy.2⟩
    have hsn := linksOf_take (p := p) (args := args) hX
    refine TK.mem fun m0 hm0 => ?_
    obtain ⟨g, u, rfl⟩ := src_some ((has_tls (has_tls hA3) : has (_ :: _ :: Γ3) _) m0 hm0) (by rw [crsC_len]; omega)
    clear hm0 m0
    have hel : has Γ3 (fun m => cellsAt m g (u + i * 15) [.int .u32 (X.iss : Int), .int .u64 (X.ser : Int), .int .u64 (X.frm : Int), .int .u64 (X.til : Int), .int .u8 (X.kind : Int), .bool X.r.h.s, .bool X.r.h.w.v, .int .u32 (X.r.h.w.n : Int), .int .u32 (X.r.h.a.p : Int), .slice X.r.h.a.A X.r.h.a.l.length X.r.h.a.c, .slice X.r.A X.r.l.length X.r.c, .int .u32 (X.p : Int), .int .i64 X.args, .int .u32 (X.to : Int), .int .i64 X.dep]) := has_el (sz := 15) (f := Cr.cells) (fun _ => rfl) (by decide) hA3 hX
    refine m_run ?_
    (apply TL.alloc; exact rfl; exact tb rfl; exact (rfl : _ = [_, _, _, _, _, _, _, _, _, _, _, _, _, _, _]))
    intro b11
    refine m_rrun ?_
    refine TL.nil ?_
    refine TK.imp (Δ := crRow b11 X :: own 31 1 (.slice O1 out1.length k1) out1.length (u32s out1) :: wkRow bw (some ⟨g, u, none⟩) l.length c p args O1 out1.length k1 x f1 :: Γ3) (fun _ h => h) ?_
    clear hel
    have hb11 : has (crRow b11 X :: own 31 1 (.slice O1 out1.length k1) out1.length (u32s out1) :: wkRow bw (some ⟨g, u, none⟩) l.length c p args O1 out1.length k1 x f1 :: Γ3) (fun m => cellsAt m b11 0 X.cells) := has_rows 0 rfl rfl
    refine m_run ?_
    refine TK.drawS mixed rfl ?_
    refine m_take (At.mk : At 0) ?_; refine m_take (At.mk : At 1) ?_; refine m_take (At.mk : At 2) ?_; refine m_take (At.mk : At 3) ?_; refine m_take (At.mk : At 4) ?_; refine m_take (At.mk : At 5) ?_; refine m_take (At.mk : At 6) ?_; refine m_take (At.mk : At 7) ?_; refine m_take (At.mk : At 8) ?_
    (apply TA.one 9; kernel_rfl; exact rfl)
    (apply TL.callV; exact rfl; exact callB_of (by kernel_rfl); exact rfl; exact fun _ h => h)
    exact rlink_t X p args _ (Cr.ok_tl (Cr.ok_tl (Cr.ok_tl hXo))) hXf
    rintro _ _ ⟨rfl, rfl⟩
    refine TL.back (by (focus ((repeat (first | assumption | exact Ent.refl _ | apply Ent.tail)); done))) ?_
    refine m_take (At.mk : At 10) ?_
    cases hlb : linkB p args X with
    | false =>
      refine m_take (At.mk : At 11) ?_; refine m_take (At.mk : At 12) ?_; refine m_take (At.mk : At 13) ?_; refine m_take (At.mk : At 14) ?_; refine m_take (At.mk : At 15) ?_; refine m_take (At.mk : At 16) ?_; refine m_take (At.mk : At 17) ?_; refine m_take (At.mk : At 18) ?_; refine m_take (At.mk : At 19) ?_
      refine TA.done (by kernel_rfl) ?_
      refine m_run ?_
      refine TK.drop ?_
      exact IH (j - 1) _ _ (by omega) ⟨i + 1, O1, k1, out1, f1, Γ3, by omega, hsub3, hf1, by rw [hsn, hlb]; simpa using hst, rfl, rfl, rfl, rfl, rfl, congrArg (Value.int .i64) (i64_succ i (by omega)), rfl⟩
    | true =>
    rw [hlb, if_pos rfl] at hsn
    refine m_take (At.mk : At 11) ?_; refine m_take (At.mk : At 12) ?_; refine m_take (At.mk : At 13) ?_; refine m_take (At.mk : At 14) ?_
    by_cases hiss : X.iss = v
    rotate_left
    · have hnx : Rch.step1 (nxL l) ((v, k), y.w) i = none := by
        unfold Rch.step1
        rw [nxL_none hX (.inl hiss)]
        rfl
      refine TA.isF 48 rfl (beq_eq_false_iff_ne.2 (by omega)) ?_
      refine m_take (At.mk : At 15) ?_; refine m_take (At.mk : At 16) ?_; refine m_take (At.mk : At 17) ?_; refine m_take (At.mk : At 18) ?_; refine m_take (At.mk : At 19) ?_
      refine TA.done (by kernel_rfl) ?_
      refine m_run ?_
      refine TK.drop ?_
      exact IH (j - 1) _ _ (by omega) ⟨i + 1, O1, k1, out1, f1, Γ3, by omega, hsub3, hf1, by rw [hsn, List.filterMap_append]; simp only [List.filterMap_cons, List.filterMap_nil, hnx, List.append_nil]; exact hst, rfl, rfl, rfl, rfl, rfl, congrArg (Value.int .i64) (i64_succ i (by omega)), rfl⟩
    refine TA.isT 48 rfl (beq_iff_eq.2 (by omega)) ?_
    refine m_take (At.mk : At 15) ?_; refine m_take (At.mk : At 16) ?_; refine m_take (At.mk : At 17) ?_; refine m_take (At.mk : At 18) ?_
    by_cases hk0 : 0 < k
    rotate_left
    · have hnx : Rch.step1 (nxL l) ((v, k), y.w) i = none := by
        unfold Rch.step1
        rw [nxL_none hX (.inr (by show k = 0; omega))]
        rfl
      refine TA.isF 52 rfl (decide_eq_false (by omega)) ?_
      refine m_take (At.mk : At 19) ?_
      refine TA.done (by kernel_rfl) ?_
      refine m_run ?_
      refine TK.drop ?_
      exact IH (j - 1) _ _ (by omega) ⟨i + 1, O1, k1, out1, f1, Γ3, by omega, hsub3, hf1, by rw [hsn, List.filterMap_append]; simp only [List.filterMap_cons, List.filterMap_nil, hnx, List.append_nil]; exact hst, rfl, rfl, rfl, rfl, rfl, congrArg (Value.int .i64) (i64_succ i (by omega)), rfl⟩
    refine TA.isT 52 rfl (decide_eq_true (by omega)) ?_
    refine m_take (At.mk : At 19) ?_
    refine TA.done (by kernel_rfl) ?_
    obtain ⟨hd0, hd3⟩ := linkB_dep hlb
    obtain ⟨to2, hto2⟩ : ∃ n, n = min (k - 1) X.dep.toNat := ⟨_, rfl⟩
    have hnx : Rch.step1 (nxL l) ((v, k), y.w) i = some ((X.to, to2), y.w ++ [i]) := by
      unfold Rch.step1
      rw [nxL_some hX (show X.iss = (((v, k), y.w) : Rch.Stp).1.1 from hiss) (show 0 < k from hk0), hto2]
      rfl
    have hmin : (if X.dep < IntKind.i64.wrap ((k : Int) - 1) then X.dep else IntKind.i64.wrap ((k : Int) - 1)) = (to2 : Int) := by
      rw [i64_in (by omega) (by omega), hto2]
      split <;> omega
    have hst2 : ((linksOf (l.take (i + 1)) p args).filterMap (Rch.step1 (nxL l) ((v, k), y.w))).flatMap (Rch.goes (linksOf l p args) (nxL l) links) = ((linksOf (l.take i) p args).filterMap (Rch.step1 (nxL l) ((v, k), y.w))).flatMap (Rch.goes (linksOf l p args) (nxL l) links) ++ Rch.goes (linksOf l p args) (nxL l) links ((X.to, to2), y.w ++ [i]) := by
      rw [hsn, List.filterMap_append, List.flatMap_append]
      simp only [List.filterMap_cons, List.filterMap_nil, hnx, List.flatMap_cons, List.flatMap_nil, List.append_nil]
    have hlen1 : out1.length + (Rch.goes (linksOf l p args) (nxL l) links ((X.to, to2), y.w ++ [i])).length ≤ 1000000 := by
      obtain ⟨R, hR⟩ := linksOf_split l p args (i + 1)
      have h1 : Rch.goes (linksOf l p args) (nxL l) (links + 1) ((v, k), y.w) = ((linksOf (l.take (i + 1)) p args).filterMap (Rch.step1 (nxL l) ((v, k), y.w))).flatMap (Rch.goes (linksOf l p args) (nxL l) links) ++ (R.filterMap (Rch.step1 (nxL l) ((v, k), y.w))).flatMap (Rch.goes (linksOf l p args) (nxL l) links) := by
        rw [← List.flatMap_append, ← List.filterMap_append, ← hR]
        rfl
      rw [h1, hst2, List.length_append, List.length_append] at hlen
      have h2 := rchP_len x (((linksOf (l.take i) p args).filterMap (Rch.step1 (nxL l) ((v, k), y.w))).flatMap (Rch.goes (linksOf l p args) (nxL l) links)) (out, f.map (·.w))
      rw [← hst] at h2
      simp only at h2
      omega
    refine m_run ?_
    refine TK.perm (Δ := own 31 1 (.slice O1 out1.length k1) out1.length (u32s out1) :: wkRow bw (some ⟨g, u, none⟩) l.length c p args O1 out1.length k1 x f1 :: crRow b11 X :: Γ3) (List.perm_middle (a := crRow b11 X) (l₁ := [own 31 1 (.slice O1 out1.length k1) out1.length (u32s out1), wkRow bw (some ⟨g, u, none⟩) l.length c p args O1 out1.length k1 x f1]) (l₂ := Γ3)).symm ?_
    have hb11 : has (crRow b11 X :: Γ3) (fun m => cellsAt m b11 0 X.cells) := has_rows 0 rfl rfl
    refine TK.drawE mixed rfl (crRow b11 X :: Γ3) ?_
    refine m_take (At.mk : At 0) ?_; refine m_take (At.mk : At 1) ?_; refine m_take (At.mk : At 2) ?_; refine m_take (At.mk : At 3) ?_; refine m_take (At.mk : At 4) ?_; refine m_take (At.mk : At 5) ?_; refine m_take (At.mk : At 6) ?_; refine m_take (At.mk : At 7) ?_; refine m_take (At.mk : At 8) ?_; refine m_take (At.mk : At 9) ?_; refine m_take (At.mk : At 11) ?_; refine m_take (At.mk : At 13) ?_
    refine TA.know (t := 61) (v := .int .i64 (to2 : Int)) (congrArg (Value.int .i64) hmin) ?_
    refine TA.know (t := 63) (v := .int .i64 (links : Int)) (congrArg (Value.int .i64) (by rw [i64_in (by omega) (by omega)]; omega)) ?_
    refine TA.cutJ [10, 12, 14] (fun ρ' Γ' => ∃ (W : Option Addr) (c2 b68 : Nat), y.w.length ≤ c2 ∧ lk ρ' 0 = .pointer (some ⟨bw, 0, none⟩) ∧ lk ρ' 1 = .int .u32 (v : Int) ∧ lk ρ' 2 = .int .i64 (k : Int) ∧ lk ρ' 3 = .int .i64 ((links + 1 : Nat) : Int) ∧ lk ρ' 4 = .slice y.A y.w.length y.c ∧ lk ρ' 10 = .int .i64 (i : Int) ∧ lk ρ' 54 = .pointer (some ⟨bw, 0, none⟩) ∧ lk ρ' 56 = .int .u32 (X.to : Int) ∧ lk ρ' 61 = .int .i64 (to2 : Int) ∧ lk ρ' 63 = .int .i64 (links : Int) ∧ lk ρ' 66 = .slice W y.w.length c2 ∧ lk ρ' 68 = .slice (some ⟨b68, 0, none⟩) 1 1 ∧ Γ' = row b68 (ints [i]) 3 :: own 3 1 (.slice W y.w.length c2) y.w.length (ints y.w) :: own 31 1 (.slice O1 out1.length k1) out1.length (u32s out1) :: wkRow bw (some ⟨g, u, none⟩) l.length c p args O1 out1.length k1 x f1 :: crRow b11 X :: Γ3) rfl ?_ ?_
    · intro tail
      refine TA.two 10 14 (by kernel_rfl) rfl rfl ?_ ?_
      · (apply TL.buildSlice (l := []); exact rfl; exact tb rfl; exact rfl; exact tb rfl; exact rfl; exact rfl; exact rfl; exact rfl; exact rfl)
        intro b64
        refine TL.back (by (focus ((repeat (first | assumption | exact Ent.refl _ | apply Ent.tail)); done))) ?_
        refine TA.two 12 14 (by kernel_rfl) rfl rfl ?_ ?_
        · skip
          (apply TL.append 0 (n := 0) (m := y.w.length) (cs := []) (news := ints y.w); exact rfl; exact rfl; exact tb rfl; exact rfl; exact tb rfl; exact rfl; exact rfl; exact rfl)
          · exact fun _ h => own_row (n := 0) rfl (by decide) h
          · exact rfl
          · exact has_tls (has_tls (has_tls (has_tls hy3.1)))
          · exact ints_one y.w
          · show (0 + y.w.length) * 8 ≤ _; omega
          · show 0 + y.w.length ≤ maxLen; unfold maxLen; omega
          · exact fun _ => (rfl : _ = _ :: _)
          intro W c2 hc2
          simp only [Nat.zero_add, List.nil_append] at hc2 ⊢
          refine TL.back (by (focus ((repeat (first | assumption | exact Ent.refl _ | apply Ent.tail)); done))) ?_
          (apply TA.one 14; kernel_rfl; exact rfl)
          (apply TL.buildSlice (l := ints [i]); exact rfl; exact tb rfl; exact rfl; exact tb rfl; exact rfl; exact rfl; exact rfl; exact rfl; exact rfl)
          intro b68
          refine TL.back (by (focus ((repeat (first | assumption | exact Ent.refl _ | apply Ent.tail)); done))) ?_
          refine TA.eqL ?_ (tail _ _ ⟨W, c2, b68, hc2, rfl, rfl, rfl, rfl, rfl, rfl, rfl, rfl, rfl, rfl, rfl, rfl, rfl⟩)
          kernel_rfl
        · (apply TL.buildSlice (l := ints [i]); exact rfl; exact tb rfl; exact rfl; exact tb rfl; exact rfl; exact rfl; exact rfl; exact rfl; exact rfl)
          intro b68
          refine TL.back (by (focus ((repeat (first | assumption | exact Ent.refl _ | apply Ent.tail)); done))) ?_
          (apply TA.one 12; kernel_rfl; exact rfl)
          (apply TL.append 1 (n := 0) (m := y.w.length) (cs := []) (news := ints y.w); exact rfl; exact rfl; exact tb rfl; exact rfl; exact tb rfl; exact rfl; exact rfl; exact rfl)
          · exact fun _ h => own_row (n := 0) rfl (by decide) h
          · exact rfl
          · exact has_tls (has_tls (has_tls (has_tls (has_tls hy3.1))))
          · exact ints_one y.w
          · show (0 + y.w.length) * 8 ≤ _; omega
          · show 0 + y.w.length ≤ maxLen; unfold maxLen; omega
          · exact fun _ => (rfl : _ = _ :: _ :: _)
          intro W c2 hc2
          simp only [Nat.zero_add, List.nil_append] at hc2 ⊢
          refine TL.back (by (focus ((repeat (first | assumption | exact Ent.refl _ | apply Ent.tail)); done))) ?_
          refine TA.eqL ?_ (tail _ _ ⟨W, c2, b68, hc2, rfl, rfl, rfl, rfl, rfl, rfl, rfl, rfl, rfl, rfl, rfl, rfl, rfl⟩)
          kernel_rfl
      · (apply TL.buildSlice (l := ints [i]); exact rfl; exact tb rfl; exact rfl; exact tb rfl; exact rfl; exact rfl; exact rfl; exact rfl; exact rfl)
        intro b68
        refine TL.back (by (focus ((repeat (first | assumption | exact Ent.refl _ | apply Ent.tail)); done))) ?_
        (apply TA.one 10; kernel_rfl; exact rfl)
        (apply TL.buildSlice (l := []); exact rfl; exact tb rfl; exact rfl; exact tb rfl; exact rfl; exact rfl; exact rfl; exact rfl; exact rfl)
        intro b64
        refine TL.back (by (focus ((repeat (first | assumption | exact Ent.refl _ | apply Ent.tail)); done))) ?_
        (apply TA.one 12; kernel_rfl; exact rfl)
        (apply TL.append 0 (n := 0) (m := y.w.length) (cs := []) (news := ints y.w); exact rfl; exact rfl; exact tb rfl; exact rfl; exact tb rfl; exact rfl; exact rfl; exact rfl)
        · exact fun _ h => own_row (n := 0) rfl (by decide) h
        · exact rfl
        · exact has_tls (has_tls (has_tls (has_tls (has_tls hy3.1))))
        · exact ints_one y.w
        · show (0 + y.w.length) * 8 ≤ _; omega
        · show 0 + y.w.length ≤ maxLen; unfold maxLen; omega
        · exact fun _ => (rfl : _ = _ :: _)
        intro W c2 hc2
        simp only [Nat.zero_add, List.nil_append] at hc2 ⊢
        refine TL.back (by (focus ((repeat (first | assumption | exact Ent.refl _ | apply Ent.tail)); done))) ?_
        refine TA.perm (.swap _ _ _) ?_
        refine TA.eqL ?_ (tail _ _ ⟨W, c2, b68, hc2, rfl, rfl, rfl, rfl, rfl, rfl, rfl, rfl, rfl, rfl, rfl, rfl, rfl⟩)
        kernel_rfl
    rintro ρ3 _ ⟨W, c2, b68, hc2, q0, q1, q2, q3, q4, q10, q54, q56, q61, q63, q66, q68, rfl⟩
    refine TA.know (t := 0) (v := .pointer (some ⟨bw, 0, none⟩)) q0 ?_
    refine TA.know (t := 1) (v := .int .u32 (v : Int)) q1 ?_
    refine TA.know (t := 2) (v := .int .i64 (k : Int)) q2 ?_
    refine TA.know (t := 3) (v := .int .i64 ((links + 1 : Nat) : Int)) q3 ?_
    refine TA.know (t := 4) (v := .slice y.A y.w.length y.c) q4 ?_
    refine TA.know (t := 10) (v := .int .i64 (i : Int)) q10 ?_
    refine TA.know (t := 54) (v := .pointer (some ⟨bw, 0, none⟩)) q54 ?_
    refine TA.know (t := 56) (v := .int .u32 (X.to : Int)) q56 ?_
    refine TA.know (t := 61) (v := .int .i64 (to2 : Int)) q61 ?_
    refine TA.know (t := 63) (v := .int .i64 (links : Int)) q63 ?_
    refine TA.know (t := 66) (v := .slice W y.w.length c2) q66 ?_
    refine TA.know (t := 68) (v := .slice (some ⟨b68, 0, none⟩) 1 1) q68 ?_
    (apply TA.one 15; kernel_rfl; exact rfl)
    (apply TL.append 1; exact rfl; exact rfl; exact tb rfl; exact rfl; exact tb rfl; exact rfl; exact rfl; exact rfl)
    · exact fun _ h => h
    · exact rfl
    · exact has_src_row 0 rfl rfl
    · exact ints_one [i]
    · show (y.w.length + 1) * 8 ≤ _; omega
    · show y.w.length + 1 ≤ maxLen; unfold maxLen; omega
    · exact fun _ => (rfl : _ = _ :: _ :: _)
    intro W2 c3 hc3
    rw [show ints y.w ++ ints [i] = ints (y.w ++ [i]) by simp, show y.w.length + 1 = (y.w ++ [i]).length by simp]
    rw [show y.w.length + 1 = (y.w ++ [i]).length by simp] at hc3
    refine TL.back (by (focus ((repeat (first | assumption | exact Ent.refl _ | apply Ent.tail)); done))) ?_
    (apply TA.one 16; kernel_rfl; exact rfl)
    (apply TL.callV (Δ := own 31 1 (.slice O1 out1.length k1) out1.length (u32s out1) :: wkRow bw (some ⟨g, u, none⟩) l.length c p args O1 out1.length k1 x f1 :: row b68 (ints [i]) 3 :: own 3 1 (.slice W2 (y.w ++ [i]).length c3) (y.w ++ [i]).length (ints (y.w ++ [i])) :: crRow b11 X :: Γ3); exact rfl; exact callB_of (by kernel_rfl); exact rfl; exact fun m hm => all_perm ((List.perm_middle (a := own 31 1 (.slice O1 out1.length k1) out1.length (u32s out1)) (l₁ := [row b68 (ints [i]) 3, own 3 1 (.slice W2 (y.w ++ [i]).length c3) (y.w ++ [i]).length (ints (y.w ++ [i]))]) (l₂ := wkRow bw (some ⟨g, u, none⟩) l.length c p args O1 out1.length k1 x f1 :: crRow b11 X :: Γ3)).trans (.cons _ (List.perm_middle (a := wkRow bw (some ⟨g, u, none⟩) l.length c p args O1 out1.length k1 x f1) (l₁ := [row b68 (ints [i]) 3, own 3 1 (.slice W2 (y.w ++ [i]).length c3) (y.w ++ [i]).length (ints (y.w ++ [i]))]) (l₂ := crRow b11 X :: Γ3)))) hm)
    exact ih X.to to2 ⟨X.to, to2, W2, c3, y.w ++ [i]⟩ O1 k1 out1 f1 _ (.cons _ (.cons _ (.cons _ (hsub.trans hsub3)))) ⟨has_at (up_src _ _ _ _) 1 rfl fun _ h => own_src h, hc3⟩ (by show (y.w ++ [i]).length + links ≤ 10; simp; omega) (by omega) (by omega) (fun s hs => Wy.ok_tl (Wy.ok_tl (Wy.ok_tl (hf1 s hs)))) hlen1
    rintro _ _ ⟨rfl, O3, k3, out3, f3, Γ4, rfl, hsub4, hf4, hst4⟩
    refine TL.back (fun m hm => all_sub (.cons _ (.cons _ ((List.sublist_append_right [row b68 (ints [i]) 3, own 3 1 (.slice W2 (y.w ++ [i]).length c3) (y.w ++ [i]).length (ints (y.w ++ [i]))] (crRow b11 X :: Γ3)).trans hsub4))) hm) ?_
    refine TA.done (by kernel_rfl) ?_
    refine m_run ?_
    exact IH (j - 1) _ _ (by omega) ⟨i + 1, O3, k3, out3, f3, Γ4, by omega, (hsub3.trans ((List.sublist_append_right [row b68 (ints [i]) 3, own 3 1 (.slice W2 (y.w ++ [i]).length c3) (y.w ++ [i]).length (ints (y.w ++ [i])), crRow b11 X] Γ3))).trans hsub4, hf4, by rw [hst2, List.foldl_append, ← hst]; exact hst4, rfl, rfl, rfl, rfl, rfl, congrArg (Value.int .i64) (i64_succ i (by omega)), rfl⟩
end Go.Proofs.Ythbcfamfaicneaa.E

/- The document on who is reached: walked, Chain, Of, walked. -/
namespace Go.Proofs.Ythbcfamfaicneaa.E
open Go Go.RowKit Go.Proofs
attribute [local irreducible] TK TL TQ TA TB Fn PV
theorem rchP_spec (x : Nat) : ∀ (L : List Rch.Stp) (st : List Nat × Option (List Nat)), st.1.Nodup → (L.foldl (rchP x) st).1.Nodup ∧ (∀ v, v ∈ (L.foldl (rchP x) st).1 ↔ v ∈ st.1 ∨ ∃ s ∈ L, s.1.1 = v) ∧ (L.foldl (rchP x) st).2 = if st.2.isSome then st.2 else (L.find? fun s => decide (s.1.1 = x)).map (·.2)
  | [], st, h => ⟨h, by simp, by obtain ⟨a, b⟩ := st; cases b <;> rfl⟩
  | s :: L, st, h => by
    rw [List.foldl_cons]
    have h1 : (rchP x st s).1.Nodup := by
      unfold rchP
      simp only
      split
      · exact h
      · rename_i hn
        refine List.nodup_append.2 ⟨h, by simp, fun a ha b hb => ?_⟩
        simp at hb
        subst hb
        exact fun e => hn (e ▸ ha)
    obtain ⟨i1, i2, i3⟩ := rchP_spec x L (rchP x st s) h1
    refine ⟨i1, fun v => ?_, ?_⟩
    · rw [i2]
      have h2 : v ∈ (rchP x st s).1 ↔ v ∈ st.1 ∨ s.1.1 = v := by
        unfold rchP
        simp only
        split
        · rename_i hin
          exact ⟨.inl, fun h => h.elim id fun e => e ▸ hin⟩
        · simp [eq_comm]
      rw [h2, or_assoc]
      simp only [List.mem_cons]
      constructor
      · rintro (h | h | ⟨t, ht, e⟩)
        · exact .inl h
        · exact .inr ⟨s, .inl rfl, h⟩
        · exact .inr ⟨t, .inr ht, e⟩
      · rintro (h | ⟨t, rfl | ht, e⟩)
        · exact .inl h
        · exact .inr (.inl e)
        · exact .inr (.inr ⟨t, ht, e⟩)
    · rw [i3]
      unfold rchP
      simp only
      cases st.2 with
      | some w => rfl
      | none =>
        by_cases hx : s.1.1 = x <;> simp [hx]
theorem allC_le (K : List Nat) (nx : Rch.Sp → Nat → Option Rch.Sp) (s0 : Rch.Sp) (h : K.length ≤ 50) {n : Nat} (hn : n ≤ 4) : (Rch.allC K nx s0 n).length ≤ 200000 := by
  have h4 := Rch.allC_len K nx s0 h
  have e4 : (Rch.allC K nx s0 4).length = (Rch.allC K nx s0 3).length + (Rch.chs K nx s0 3).length := by rw [← List.length_append, ← Rch.allC_succ]
  have e3 : (Rch.allC K nx s0 3).length = (Rch.allC K nx s0 2).length + (Rch.chs K nx s0 2).length := by rw [← List.length_append, ← Rch.allC_succ]
  have e2 : (Rch.allC K nx s0 2).length = (Rch.allC K nx s0 1).length + (Rch.chs K nx s0 1).length := by rw [← List.length_append, ← Rch.allC_succ]
  have e1 : (Rch.allC K nx s0 1).length = (Rch.allC K nx s0 0).length + (Rch.chs K nx s0 0).length := by rw [← List.length_append, ← Rch.allC_succ]
  rcases (by omega : n = 0 ∨ n = 1 ∨ n = 2 ∨ n = 3 ∨ n = 4) with rfl | rfl | rfl | rfl | rfl <;> omega
set_option maxRecDepth 100000 in
set_option maxHeartbeats 8000000 in
theorem walked_t (A : Option Addr) (c : Nat) (l : List Cr) (who p : Nat) (args : Int) (x : Nat) (Γ : List HP) (h : Crs A l Γ) (hl : l.length ≤ 50) :
    FnV Try.prog 36 [.slice A l.length c, .int .u32 (who : Int), .int .u32 (p : Int), .int .i64 args, .int .u32 (x : Int)] Γ fun v Γ' => ∃ (bw : Nat) (O : Option Addr) (ko : Nat) (out : List Nat) (f : Option Wy) (Γ3 : List HP), v = .pointer (some ⟨bw, 0, none⟩) ∧ Γ' = own 31 1 (.slice O out.length ko) out.length (u32s out) :: wkRow bw A l.length c p args O out.length ko x f :: Γ3 ∧ Γ.Sublist Γ3 ∧ (∀ s, f = some s → s.ok Γ3) ∧ (out, f.map (·.w)) = if (predS p args true 0).2 then (Rch.allC (linksOf l p args) (nxL l) (who, 3) 4).foldl (rchP x) ([], none) else ([], none) := by
  refine Fn.enter Try.func36 rfl rfl rfl fun E => ?_
  have hKl : (linksOf l p args).length ≤ 50 := Nat.le_trans (linksOf_len l p args) hl
  refine m_run ?_
  (apply TL.pv; exact rfl; (apply PV.build tabs; exact rfl; exact rfl; exact rfl; exact rfl; exact rfl; exact (rfl : _ = ([.slice A l.length c, .int .u32 (p : Int), .int .i64 args, .slice none 0 0, .int .u32 (x : Int), wayV none, .bool (none : Option Wy).isSome] : List Value))))
  (apply TL.box; exact rfl; exact rfl; (exact m_lst))
  intro bw
  refine m_run ?_
  refine TK.imp (Δ := wkRow bw A l.length c p args none 0 0 x none :: Γ) (fun _ h => h) ?_
  refine TK.free (H := own 31 1 (.slice none 0 0) 0 []) (fun m hm => own_nil _ _ hm) ?_
  cases hp : (predS p args true 0).2 with
  | false =>
    refine TK.loop ?_
    refine m_run ?_
    (apply TL.callV; exact rfl; exact callB_of (by kernel_rfl); exact rfl; exact fun _ h => h)
    exact takes_t p args _
    rintro _ _ ⟨rfl, rfl⟩
    rw [hp]
    refine m_run ?_
    (apply TK.ret1; exact rfl; exact rfl; (exact m_val))
    exact ⟨_, rfl, bw, none, 0, [], none, Γ, rfl, rfl, .refl _, by simp, rfl⟩
  | true =>
  apply TK.iter (fun j ρ' Γ' => ∃ (n : Nat) (O : Option Addr) (ko : Nat) (out : List Nat) (f : Option Wy) (Γ3 : List HP), n + j = 4 ∧ Γ.Sublist Γ3 ∧ (∀ s, f = some s → s.ok Γ3) ∧ (out, f.map (·.w)) = (Rch.allC (linksOf l p args) (nxL l) (who, 3) n).foldl (rchP x) ([], none) ∧ lk ρ' 1 = .int .u32 (who : Int) ∧ lk ρ' 2 = .int .u32 (p : Int) ∧ lk ρ' 3 = .int .i64 args ∧ lk ρ' 11 = .pointer (some ⟨bw, 0, none⟩) ∧ lk ρ' 12 = .int .i64 (n : Int) ∧ Γ' = own 31 1 (.slice O out.length ko) out.length (u32s out) :: wkRow bw A l.length c p args O out.length ko x f :: Γ3) 4
  · exact ⟨0, none, 0, [], none, Γ, rfl, .refl _, by simp, rfl, rfl, rfl, rfl, rfl, rfl, rfl⟩
  rintro j IH ρ' _ ⟨n, O, ko, out, f, Γ3, hnj, hsub, hf, hst, e1, e2, e3, e11, e12, rfl⟩
  refine TK.know5 e1 e2 e3 e11 e12 ?_
  by_cases hn : n ≤ 3
  · refine m_run ?_
    (apply TL.callV; exact rfl; exact callB_of (by kernel_rfl); exact rfl; exact fun _ h => h)
    exact takes_t p args _
    rintro _ _ ⟨rfl, rfl⟩
    rw [hp]
    refine m_run ?_
    have hlen : out.length + (Rch.goes (linksOf l p args) (nxL l) n ((who, 3), [])).length ≤ 1000000 := by
      have h1 := rchP_len x (Rch.allC (linksOf l p args) (nxL l) (who, 3) n) ([], none)
      rw [← hst] at h1
      have h2 := allC_le (linksOf l p args) (nxL l) (who, 3) hKl (show n + 1 ≤ 4 by omega)
      rw [Rch.allC_succ, List.length_append] at h2
      rw [Rch.goes_flat]
      simp only [List.length_nil] at h1
      omega
    (apply TL.callV; exact rfl; exact callB_of (by kernel_rfl); exact rfl; exact fun _ h => h)
    exact from_t bw A c l p args x Γ h n who 3 ⟨who, 3, none, 0, []⟩ O ko out f Γ3 hsub ⟨has_srcnil _ _, Nat.le_refl _⟩ (by show 0 + n ≤ 10; omega) (Nat.le_refl _) hn hf hlen
    rintro _ _ ⟨rfl, O2, k2, out2, f2, Γ4, rfl, hsub4, hf2, hst2⟩
    refine m_run ?_
    refine IH (j - 1) _ _ (by omega) ⟨n + 1, O2, k2, out2, f2, Γ4, by omega, hsub.trans hsub4, hf2, ?_, rfl, rfl, rfl, rfl, congrArg (Value.int .i64) (i64_succ n (by omega)), rfl⟩
    rw [hst2, hst, Rch.allC_succ, List.foldl_append]
    show (Rch.goes (linksOf l p args) (nxL l) n ((who, 3), [])).foldl (rchP x) _ = _
    rw [Rch.goes_flat]
  obtain rfl : n = 4 := by omega
  refine m_run ?_
  (apply TK.ret1; exact rfl; exact rfl; (exact m_val))
  exact ⟨_, rfl, bw, O, ko, out, f, Γ3, rfl, rfl, hsub, hf, hst⟩
set_option maxRecDepth 100000 in
theorem rchain_t (A : Option Addr) (c : Nat) (l : List Cr) (who p : Nat) (args : Int) (x : Nat) (Γ : List HP) (h : Crs A l Γ) (hl : l.length ≤ 50) :
    FnV Try.prog 16 [.slice A l.length c, .int .u32 (who : Int), .int .u32 (p : Int), .int .i64 args, .int .u32 (x : Int)] Γ fun v Γ' => ∃ f : Option Wy, v = .tuple #[wayV f, .bool f.isSome] ∧ Γ.Sublist Γ' ∧ (∀ s, f = some s → s.ok Γ') ∧ f.map (·.w) = chainS l who p args x (-1) := by
  refine Fn.enter Try.func16 rfl rfl rfl fun E => ?_
  refine m_run ?_
  (apply TL.callV; exact rfl; exact callB_of (by kernel_rfl); exact rfl; exact fun _ h => h)
  exact walked_t A c l who p args x _ h hl
  rintro _ _ ⟨bw, O, ko, out, f, Γ3, rfl, rfl, hsub, hf, hst⟩
  have hfw : f.map (·.w) = chainS l who p args x (-1) := by
    unfold chainS
    rw [unskip_no]
    have h1 := congrArg Prod.snd hst
    simp only at h1
    rw [h1]
    split
    · exact ((rchP_spec x _ ([], none) List.nodup_nil).2.2).trans rfl
    · rfl
  refine m_run ?_
  refine TK.drawS mixed rfl ?_
  refine m_take (At.mk : At 0) ?_; refine m_take (At.mk : At 1) ?_; refine m_take (At.mk : At 2) ?_; refine m_take (At.mk : At 3) ?_; refine m_take (At.mk : At 4) ?_; refine m_take (At.mk : At 5) ?_; refine m_take (At.mk : At 6) ?_; refine m_take (At.mk : At 7) ?_; refine m_take (At.mk : At 8) ?_; refine m_take (At.mk : At 9) ?_
  refine TA.done (by kernel_rfl) ?_
  refine m_run ?_
  (apply TK.ret2; exact rfl; exact rfl; exact (rfl : _ = wayV f); exact (rfl : _ = Value.bool f.isSome))
  exact ⟨_, rfl, f, rfl, .cons _ (.cons _ hsub), fun s hs => Wy.ok_tl (Wy.ok_tl (hf s hs)), hfw⟩
end Go.Proofs.Ythbcfamfaicneaa.E

/- The document on who is reached: Of, sorted in place, walked. -/
namespace Go.Proofs.Ythbcfamfaicneaa.E
open Go Go.RowKit Go.Proofs Go.Sort
attribute [local irreducible] TK TL TQ TA TB Fn PV Sort.insInner
theorem swp_comm (d : Array Int) (p : Nat) : swp d p (p + 1) = swp d (p + 1) p := by
  unfold swp
  exact Array.setIfInBounds_comm _ _ (by omega)
theorem back_nat {D' : List Int} {out : List Nat} (hp : D'.Perm (out.map fun n : Nat => (n : Int))) (hs : D'.Pairwise (· ≤ ·)) : ∃ L : List Nat, nums .u32 D' = u32s L ∧ L.Perm out ∧ L.Pairwise (· ≤ ·) := by
  have hn : ∀ x ∈ D', 0 ≤ x := fun x hx => by
    obtain ⟨n, _, rfl⟩ := List.mem_map.1 (hp.mem_iff.1 hx)
    omega
  have hback : (D'.map Int.toNat).map (fun n : Nat => (n : Int)) = D' := by
    rw [List.map_map]
    exact (List.map_congr_left fun x hx => Int.toNat_of_nonneg (hn x hx)).trans (List.map_id _)
  refine ⟨D'.map Int.toNat, by rw [← SU.nums_u32s, hback], ?_, ?_⟩
  · have := hp.map Int.toNat
    rw [List.map_map] at this
    exact this.trans (.of_eq ((List.map_congr_left fun x _ => rfl).trans (List.map_id _)))
  · rw [List.pairwise_map]
    exact hs.imp fun h => Int.toNat_le_toNat h
set_option maxRecDepth 100000 in
set_option maxHeartbeats 8000000 in
theorem rof_t (A : Option Addr) (c : Nat) (l : List Cr) (who p : Nat) (args : Int) (Γ : List HP) (h : Crs A l Γ) (hl : l.length ≤ 50) :
    FnV Try.prog 19 [.slice A l.length c, .int .u32 (who : Int), .int .u32 (p : Int), .int .i64 args] Γ fun v Γ' => ∃ (O : List Nat) (B : Option Addr) (k : Nat) (Γ2 : List HP), OfSpec l who p args O ∧ O.length ≤ 200000 ∧ Γ.Sublist Γ2 ∧ v = .slice B O.length k ∧ Γ' = own 31 1 (.slice B O.length k) O.length (u32s O) :: Γ2 := by
  refine Fn.enter Try.func19 rfl rfl rfl fun E => ?_
  refine m_run ?_
  (apply TL.callV; exact rfl; exact callB_of (by kernel_rfl); exact rfl; exact fun _ h => h)
  exact walked_t A c l who p args who _ h hl
  rintro _ _ ⟨bw, O, ko, out, f, Γ3, rfl, rfl, hsub, hf, hst⟩
  have hKl : (linksOf l p args).length ≤ 50 := Nat.le_trans (linksOf_len l p args) hl
  have hspec : out.Nodup ∧ out.length ≤ 200000 ∧ ∀ v, v ∈ out ↔ (predS p args true 0).2 = true ∧ ∃ s ∈ Rch.allC (linksOf l p args) (nxL l) (who, 3) 4, s.1.1 = v := by
    have h1 := congrArg Prod.fst hst
    simp only at h1
    cases hp : (predS p args true 0).2 with
    | false =>
      rw [hp, if_neg (by decide)] at h1
      simp only at h1
      subst h1
      exact ⟨List.nodup_nil, Nat.zero_le _, by simp⟩
    | true =>
      rw [hp, if_pos rfl] at h1
      obtain ⟨s1, s2, _⟩ := rchP_spec who (Rch.allC (linksOf l p args) (nxL l) (who, 3) 4) ([], none) List.nodup_nil
      have s3 := rchP_len who (Rch.allC (linksOf l p args) (nxL l) (who, 3) 4) ([], none)
      have s4 := Rch.allC_len (linksOf l p args) (nxL l) (who, 3) hKl
      rw [← h1] at s1 s2 s3
      simp only [List.length_nil] at s3
      exact ⟨s1, by omega, fun v => by rw [s2]; simp⟩
  obtain ⟨hnd, hol, hmem⟩ := hspec
  clear hst
  generalize hR : wkRow bw A l.length c p args O out.length ko who f :: Γ3 = R
  have hsubR : Γ.Sublist R := by rw [← hR]; exact .cons _ hsub
  have hcell : has R (fun m => cellAt m bw 3 (.slice O out.length ko)) := by rw [← hR]; exact has_row 0 rfl rfl
  clear hR hf
  refine m_run ?_
  by_cases h0 : out.length = 0
  · refine TK.loop ?_
    refine m_run ?_
    (apply TK.ret1; exact rfl; exact rfl; (exact m_val))
    exact ⟨_, rfl, out, O, ko, R, ⟨by rw [List.eq_nil_of_length_eq_zero h0]; exact List.Pairwise.nil, hmem⟩, hol, hsubR, rfl, rfl⟩
  refine TK.mem fun m0 hm0 => ?_
  obtain ⟨b, rfl⟩ : ∃ b, O = some ⟨b, 0, none⟩ := by
    obtain ⟨m1, m2, _, _, h1, _⟩ := hm0
    obtain ⟨_, ⟨_, h, _⟩ | ⟨g, cap, cur, hv, _⟩⟩ := h1
    · omega
    · injection hv with hv _ _
      exact ⟨g, hv⟩
  clear hm0 m0 hcell
  obtain ⟨d0, hd0⟩ : ∃ d0 : Array Int, d0 = (out.map fun n : Nat => (n : Int)).toArray := ⟨_, rfl⟩
  have hsz0 : d0.size = out.length := by rw [hd0]; simp
  have hl0 : d0.toList = out.map fun n : Nat => (n : Int) := by rw [hd0]
  refine TK.imp (Δ := SU.DD b ko out.length d0 :: R) (fun _ h => by show all (own _ _ _ _ (nums .u32 d0.toList) :: _) _; rw [hl0, SU.nums_u32s]; exact h) ?_
  generalize hX : insOuter ltInt 0 out.length 0 d0 = X
  have hXs : X.toList.Perm (out.map fun n : Nat => (n : Int)) ∧ X.toList.Pairwise (· ≤ ·) ∧ X.size = out.length := by
    have e : X = insertionSort ltInt d0 0 out.length := by
      rw [← hX, insOuter, if_pos (by omega)]
      show insOuter ltInt 0 out.length 1 (insInner ltInt 0 0 d0) = insOuter ltInt 0 out.length 1 d0
      congr 1
      unfold insInner
      rfl
    obtain ⟨q1, q2⟩ := insertionSort_holds swo_ltInt d0 0 out.length (Nat.zero_le _) (by omega)
    rw [← e] at q1 q2
    have hs1 : X.size = d0.size := q1.1
    refine ⟨hl0 ▸ SU.perm_whole (by rw [hsz0]; exact q1), SU.sorted_whole (by rw [hs1, hsz0]; exact q2), by omega⟩
  have hol' : out.length ≤ 200000 := hol
  generalize hN : out.length = n at *
  apply TK.iter (fun j ρ' Γ' => ∃ (i : Nat) (d : Array Int), i + j = n ∧ d.size = n ∧ insOuter ltInt 0 n i d = X ∧ lk ρ' 9 = .slice (some ⟨b, 0, none⟩) n ko ∧ lk ρ' 10 = .int .i64 (i : Int) ∧ Γ' = SU.DD b ko n d :: R) n
  · exact ⟨0, d0, by omega, hsz0, hX, rfl, rfl, rfl⟩
  clear hX hsz0 hl0 hd0
  rintro j IH ρ' _ ⟨i, d, hij, hsz, hX, e9, e10, rfl⟩
  refine TK.know2 e9 e10 ?_
  by_cases hi : i < n
  · rw [insOuter, if_pos hi] at hX
    refine m_run ?_
    generalize hY : insInner ltInt 0 i d = Y at hX
    apply TK.iter (fun j ρ' Γ' => ∃ (d : Array Int), j ≤ i ∧ d.size = n ∧ insInner ltInt 0 j d = Y ∧ lk ρ' 9 = .slice (some ⟨b, 0, none⟩) n ko ∧ lk ρ' 10 = .int .i64 (i : Int) ∧ lk ρ' 11 = .int .i64 (j : Int) ∧ Γ' = SU.DD b ko n d :: R) i
    · exact ⟨d, Nat.le_refl _, hsz, hY, rfl, rfl, rfl, rfl⟩
    clear hY hsz
    rintro q IH2 ρ2 _ ⟨d, hqi, hsz, hY, f9, f10, f11, rfl⟩
    refine TK.know3 f9 f10 f11 ?_
    have hfin : d = Y → Y.size = n ∧ insOuter ltInt 0 n (i + 1) Y = X := fun h => ⟨h ▸ hsz, hX⟩
    by_cases hk : 0 < q
    · obtain ⟨p1, rfl⟩ : ∃ p, q = p + 1 := ⟨q - 1, by omega⟩
      unfold insInner at hY
      have hc1 := SU.cellD (b := b) (c := ko) (Γ := R) hsz (show p1 + 1 < n by omega)
      have hc2 := SU.cellD (b := b) (c := ko) (Γ := R) hsz (show p1 < n by omega)
      refine m_run ?_
      refine TK.drawS mixed rfl ?_
      refine m_take (At.mk : At 0) ?_; refine m_take (At.mk : At 1) ?_; refine m_take (At.mk : At 2) ?_
      refine TA.isT 30 rfl (decide_eq_true (by omega)) ?_
      refine m_take (At.mk : At 3) ?_; refine m_take (At.mk : At 4) ?_; refine m_take (At.mk : At 5) ?_
      refine TA.know (t := 33) (v := .int .i64 ((p1 : Nat) : Int)) (congrArg (Value.int .i64) (by rw [i64_in (by omega) (by omega)]; omega)) ?_
      refine m_take (At.mk : At 6) ?_; refine m_take (At.mk : At 7) ?_; refine m_take (At.mk : At 8) ?_; refine m_take (At.mk : At 9) ?_; refine m_take (At.mk : At 10) ?_; refine m_take (At.mk : At 11) ?_; refine m_take (At.mk : At 12) ?_
      by_cases hlt : d[p1 + 1]! < d[p1]!
      · rw [if_pos (by simp [ltInt, hlt])] at hY
        refine TA.isT 40 rfl (decide_eq_true hlt) ?_
        refine m_take (At.mk : At 13) ?_
        refine TA.done (by kernel_rfl) ?_
        refine m_run ?_
        refine TK.drawB mixed rfl 15 (SU.DD b ko n d :: R) (R) ?_
        refine m_bake (At.mk : At 0) ?_; refine m_bake (At.mk : At 1) ?_; refine m_bake (At.mk : At 2) ?_
        refine TB.know (t := 46) (v := .int .i64 ((p1 : Nat) : Int)) (congrArg (Value.int .i64) (by rw [i64_in (by omega) (by omega)]; omega)) ?_
        refine m_bake (At.mk : At 3) ?_; refine m_bake (At.mk : At 4) ?_; refine m_bake (At.mk : At 5) ?_; refine m_bake (At.mk : At 6) ?_; refine m_bake (At.mk : At 7) ?_; refine m_bake (At.mk : At 8) ?_; refine m_bake (At.mk : At 9) ?_; refine m_bake (At.mk : At 10) ?_; refine m_bake (At.mk : At 11) ?_
        refine TB.know (t := 55) (v := .int .i64 ((p1 : Nat) : Int)) (congrArg (Value.int .i64) (by rw [i64_in (by omega) (by omega)]; omega)) ?_
        refine m_bake (At.mk : At 12) ?_; refine m_bake (At.mk : At 13) ?_; refine m_bake (At.mk : At 14) ?_
        (apply TB.last; kernel_rfl; exact rfl)
        (apply TL.storeOwn 0 (p1); exact rfl; exact rfl; exact rfl; exact rfl; exact tb rfl; exact rfl; exact (Nat.zero_add _).symm; exact (by omega))
        refine TL.back (by (focus ((repeat (first | assumption | exact Ent.refl _ | apply Ent.tail)); done))) ?_
        refine m_take (At.mk : At 16) ?_
        (apply TA.one 17; kernel_rfl; exact rfl)
        (apply TL.storeOwn 0 (p1 + 1); exact rfl; exact rfl; exact rfl; exact rfl; exact tb rfl; exact rfl; exact (Nat.zero_add _).symm; exact (by omega))
        refine TL.back (by (focus ((repeat (first | assumption | exact Ent.refl _ | apply Ent.tail)); done))) ?_
        refine TA.done (by kernel_rfl) ?_
        refine TK.imp (Δ := SU.DD b ko n (swp d (p1 + 1) p1) :: R) (fun _ h => by show all (own _ _ _ _ (nums _ (swp d (p1 + 1) p1).toList) :: _) _; rw [← swp_comm, ← SU.swpD]; exact h) ?_
        have hsz2 : (swp d (p1 + 1) p1).size = n := (size_swp _ _ _).trans hsz
        clear hc1 hc2
        refine m_run ?_
        exact IH2 p1 _ _ (by omega) ⟨_, by omega, hsz2, hY, rfl, rfl, congrArg (Value.int .i64) (by rw [i64_in (by omega) (by omega)]; omega), rfl⟩
      · rw [if_neg (by simp [ltInt, hlt])] at hY
        obtain ⟨g1, g2⟩ := hfin hY
        refine TA.isF 40 rfl (decide_eq_false hlt) ?_
        refine m_take (At.mk : At 13) ?_
        refine TA.done (by kernel_rfl) ?_
        rw [hY]
        refine m_run ?_
        exact IH (j - 1) _ _ (by omega) ⟨i + 1, Y, by omega, g1, g2, rfl, congrArg (Value.int .i64) (i64_succ i (by omega)), rfl⟩
    · have hY2 : d = Y := by
        rw [← hY, show q = 0 by omega]
        unfold insInner
        rfl
      obtain ⟨g1, g2⟩ := hfin hY2
      rw [hY2]
      refine m_run ?_
      refine TK.drawS mixed rfl ?_
      refine m_take (At.mk : At 0) ?_; refine m_take (At.mk : At 1) ?_; refine m_take (At.mk : At 2) ?_
      refine TA.isF 30 rfl (decide_eq_false (by omega)) ?_
      refine m_take (At.mk : At 3) ?_; refine m_take (At.mk : At 4) ?_; refine m_take (At.mk : At 5) ?_; refine m_take (At.mk : At 6) ?_; refine m_take (At.mk : At 7) ?_; refine m_take (At.mk : At 8) ?_; refine m_take (At.mk : At 9) ?_; refine m_take (At.mk : At 10) ?_; refine m_take (At.mk : At 11) ?_; refine m_take (At.mk : At 12) ?_; refine m_take (At.mk : At 13) ?_
      refine TA.done (by kernel_rfl) ?_
      refine m_run ?_
      exact IH (j - 1) _ _ (by omega) ⟨i + 1, Y, by omega, g1, g2, rfl, congrArg (Value.int .i64) (i64_succ i (by omega)), rfl⟩
  rw [insOuter, if_neg hi] at hX
  obtain ⟨hXp, hXo, hXz⟩ := hXs
  obtain ⟨L, hL1, hL2, hL3⟩ := back_nat hXp hXo
  have hLn : L.length = n := hL2.length_eq.trans hN
  rw [hX]
  refine TK.imp (Δ := own 31 1 (.slice (some ⟨b, 0, none⟩) n ko) n (u32s L) :: R) (by rw [← hL1]; exact fun _ h => h) ?_
  clear hX hXo hXp hL1 IH
  subst hLn
  refine m_run ?_
  (apply TK.ret1; exact rfl; exact rfl; (exact m_val))
  refine ⟨_, rfl, L, _, ko, R, ⟨?_, fun v => by rw [hL2.mem_iff, hmem]⟩, hol, hsubR, rfl, rfl⟩
  have h1 : L.Pairwise (· ≠ ·) := hL2.nodup_iff.2 hnd
  exact (List.pairwise_and_iff.2 ⟨hL3, h1⟩).imp fun ⟨a, b⟩ => Nat.lt_of_le_of_ne a b
end Go.Proofs.Ythbcfamfaicneaa.E

/- The document on who is reached: Cuts; what may be gone through; numbers compared; walked. -/
namespace Go.Proofs.Ythbcfamfaicneaa.E
open Go Go.RowKit Go.Proofs
attribute [local irreducible] TK TL TQ TA TB Fn PV
theorem crs_one (l : List Cr) : ∀ u ∈ crsC l, u.oneCell' = true := by
  intro u hu
  obtain ⟨c, _, hc⟩ := List.mem_flatMap.1 hu
  simp only [Cr.cells, Rl.cells, Sy.cells, List.mem_append, List.mem_cons, List.not_mem_nil, or_false] at hc
  rcases hc with ((rfl | rfl | rfl | rfl | rfl) | ((rfl | rfl | rfl | rfl | rfl) | rfl)) | (rfl | rfl | rfl | rfl) <;> rfl
theorem crsC_take (l : List Cr) (i : Nat) : (crsC l).take (i * 15) = crsC (l.take i) := by
  induction l generalizing i with
  | nil => simp
  | cons x l ih =>
    cases i with
    | zero => simp
    | succ i =>
      have hx : x.cells.length = 15 := rfl
      rw [show crsC (x :: l) = x.cells ++ crsC l from rfl, List.take_append, hx, List.take_of_length_le (by rw [hx]; omega), show (i + 1) * 15 - 15 = i * 15 by omega, ih]
      rfl
theorem crsC_drop (l : List Cr) (i : Nat) : (crsC l).drop (i * 15) = crsC (l.drop i) := by
  induction l generalizing i with
  | nil => simp
  | cons x l ih =>
    cases i with
    | zero => simp
    | succ i =>
      have hx : x.cells.length = 15 := rfl
      rw [show crsC (x :: l) = x.cells ++ crsC l from rfl, List.drop_append, hx, List.drop_of_length_le (by rw [hx]; omega), show (i + 1) * 15 - 15 = i * 15 by omega, ih]
      rfl
def lessB (l : List Cr) (who p : Nat) (args : Int) (x i : Nat) : Bool := (chainS (l.eraseIdx i) who p args x (-1)).isNone
set_option maxRecDepth 100000 in
set_option maxHeartbeats 8000000 in
theorem rcuts_t (A : Option Addr) (c : Nat) (l : List Cr) (who p : Nat) (args : Int) (x : Nat) (Γ : List HP) (h : Crs A l Γ) (hl : l.length ≤ 50) (hc : l.length ≤ c) :
    FnV Try.prog 22 [.slice A l.length c, .int .u32 (who : Int), .int .u32 (p : Int), .int .i64 args, .int .u32 (x : Int)] Γ fun v Γ' => ∃ (O : List Nat) (B : Option Addr) (k : Nat) (Γ2 : List HP), O = (if (chainS l who p args x (-1)).isSome then (List.range l.length).filter (lessB l who p args x) else []) ∧ Γ.Sublist Γ2 ∧ v = .slice B O.length k ∧ Γ' = own 3 1 (.slice B O.length k) O.length (ints O) :: Γ2 := by
  refine Fn.enter Try.func22 rfl rfl rfl fun E => ?_
  refine m_run ?_
  (apply TL.callV; exact rfl; exact callB_of (by kernel_rfl); exact rfl; exact fun _ h => h)
  exact rchain_t A c l who p args x _ h hl
  rintro _ Γ3 ⟨f, rfl, hsub, hok, hf⟩
  generalize wayV f = W
  have his : (chainS l who p args x (-1)).isSome = f.isSome := by rw [← hf]; cases f <;> rfl
  rw [his]
  clear hok hf his
  refine m_run ?_
  refine TK.free (H := own 3 1 (.slice none 0 0) 0 []) (fun m hm => own_nil _ _ hm) ?_
  cases f with
  | none =>
    refine TK.loop ?_
    by_cases h0 : 0 < l.length
    · refine m_run ?_
      (apply TK.ret1; exact rfl; exact rfl; (exact m_val))
      exact ⟨_, rfl, [], none, 0, Γ3, rfl, hsub, rfl, rfl⟩
    · refine m_run ?_
      (apply TK.ret1; exact rfl; exact rfl; (exact m_val))
      exact ⟨_, rfl, [], none, 0, Γ3, rfl, hsub, rfl, rfl⟩
  | some y =>
  apply TK.iter (fun j ρ' Γ' => ∃ (i : Nat) (O : List Nat) (B2 : Option Addr) (k2 : Nat) (Γ4 : List HP), i + j = l.length ∧ O = (List.range i).filter (lessB l who p args x) ∧ O.length ≤ i ∧ Γ3.Sublist Γ4 ∧ lk ρ' 0 = .slice A l.length c ∧ lk ρ' 1 = .int .u32 (who : Int) ∧ lk ρ' 2 = .int .u32 (p : Int) ∧ lk ρ' 3 = .int .i64 args ∧ lk ρ' 4 = .int .u32 (x : Int) ∧ lk ρ' 12 = .bool true ∧ lk ρ' 13 = .slice B2 O.length k2 ∧ lk ρ' 14 = .int .i64 (i : Int) ∧ Γ' = own 3 1 (.slice B2 O.length k2) O.length (ints O) :: Γ4) l.length
  · exact ⟨0, [], none, 0, Γ3, Nat.zero_add _, rfl, Nat.le_refl _, .refl _, rfl, rfl, rfl, rfl, rfl, rfl, rfl, rfl, rfl⟩
  rintro j IH ρ' _ ⟨i, O, B2, k2, Γ4, hij, hO, hOl, hs4, e0, e1, e2, e3, e4, e12, e13, e14, rfl⟩
  refine TK.know8 e0 e1 e2 e3 e4 e12 e13 e14 ?_
  by_cases hi : i < l.length
  · have h4 : Crs A l Γ4 := Crs.sub (hsub.trans hs4) h
    have hA1 : has Γ4 (srcAt 15 (if c = 0 then A else A.map fun a => a.add (0 * 15)) i (crsC (l.take i))) := has_imp h4.src fun m hm => by
      have := src_part (c := c) hm (i := 0) (j := i) (Nat.zero_le _) (by omega) (by omega)
      simp only [Nat.zero_mul, List.drop_zero, Nat.sub_zero] at this ⊢
      rw [crsC_take] at this
      exact this
    have hA2 : has Γ4 (srcAt 15 (if c = i + 1 then A else A.map fun a => a.add ((i + 1) * 15)) (l.length - (i + 1)) (crsC (l.drop (i + 1)))) := has_imp h4.src fun m hm => by
      have := src_part (c := c) hm (i := i + 1) (j := l.length) (by omega) (Nat.le_refl _) hc
      rw [crsC_drop, List.take_of_length_le (by rw [crsC_len, List.length_drop]; exact Nat.le_refl _)] at this
      exact this
    refine m_run ?_
    refine TK.drawE mixed rfl (own 3 1 (.slice B2 O.length k2) O.length (ints O) :: Γ4) ?_
    refine m_take (At.mk : At 1) ?_; refine m_take (At.mk : At 2) ?_
    (apply TA.takeA (At.mk : At 3); exact rfl; exact rfl; kernel_rfl; ((focus ((repeat (first | assumption | exact Ent.refl _ | apply Ent.tail)); done))); (apply PV.sliceS (i := 0) (j := i); exact rfl; exact tb rfl; exact rfl; exact tb rfl; exact .none; exact .some rfl; exact Nat.zero_le _; exact (by omega)))
    refine TA.know (t := 39) (v := .slice (if c = 0 then A else A.map fun a => a.add (0 * 15)) i c) rfl ?_
    refine m_take (At.mk : At 5) ?_; refine m_take (At.mk : At 6) ?_; refine m_take (At.mk : At 7) ?_
    refine TA.know (t := 43) (v := .int .i64 ((i + 1 : Nat) : Int)) (congrArg (Value.int .i64) (i64_succ i (by omega))) ?_
    (apply TA.takeA (At.mk : At 8); exact rfl; exact rfl; kernel_rfl; ((focus ((repeat (first | assumption | exact Ent.refl _ | apply Ent.tail)); done))); (apply PV.sliceS (i := i + 1) (j := l.length); exact rfl; exact tb rfl; exact rfl; exact tb rfl; exact .some rfl; exact .none; exact (by omega); exact hc))
    refine TA.know (t := 44) (v := .slice (if c = i + 1 then A else A.map fun a => a.add ((i + 1) * 15)) (l.length - (i + 1)) (c - (i + 1))) rfl ?_
    (apply TA.one 0; kernel_rfl; exact rfl)
    (apply TL.buildSlice (l := []); exact rfl; exact tb rfl; exact rfl; exact tb rfl; exact rfl; exact rfl; exact rfl; exact rfl; exact rfl)
    intro b36
    refine TL.back (by (focus ((repeat (first | assumption | exact Ent.refl _ | apply Ent.tail)); done))) ?_
    (apply TA.one 4; kernel_rfl; exact rfl)
    (apply TL.append 0 (n := 0) (m := i) (cs := []) (news := crsC (l.take i)); exact rfl; exact rfl; exact tb rfl; exact rfl; exact tb rfl; exact rfl; exact rfl; exact rfl)
    · exact fun _ h => own_row (n := 0) rfl (by decide) h
    · exact rfl
    · exact has_tls (has_tls hA1)
    · exact crs_one _
    · show (0 + i) * 144 ≤ _; omega
    · show 0 + i ≤ maxLen; unfold maxLen; omega
    · exact fun _ => (rfl : _ = _ :: _)
    intro B5 k5 hk5
    simp only [Nat.zero_add, List.nil_append] at hk5 ⊢
    refine TL.back (by (focus ((repeat (first | assumption | exact Ent.refl _ | apply Ent.tail)); done))) ?_
    (apply TA.one 9; kernel_rfl; exact rfl)
    (apply TL.append 0 (n := i) (m := l.length - (i + 1)) (cs := crsC (l.take i)) (news := crsC (l.drop (i + 1))); exact rfl; exact rfl; exact tb rfl; exact rfl; exact tb rfl; exact rfl; exact rfl; exact rfl)
    · exact fun _ h => h
    · exact rfl
    · exact has_tls (has_tls hA2)
    · exact crs_one _
    · show (i + (l.length - (i + 1))) * 144 ≤ _; omega
    · show i + (l.length - (i + 1)) ≤ maxLen; unfold maxLen; omega
    · exact fun _ => (rfl : _ = _ :: _)
    intro B6 k6 hk6
    have he : i + (l.length - (i + 1)) = (l.eraseIdx i).length := by rw [List.length_eraseIdx, if_pos hi]; omega
    have hcs : crsC (l.take i) ++ crsC (l.drop (i + 1)) = crsC (l.eraseIdx i) := by rw [List.eraseIdx_eq_take_drop_succ]; simp
    rw [he, hcs]
    refine TL.back (by (focus ((repeat (first | assumption | exact Ent.refl _ | apply Ent.tail)); done))) ?_
    refine m_take (At.mk : At 10) ?_
    refine TA.done (by kernel_rfl) ?_
    have hel : (l.eraseIdx i).length ≤ 50 := by rw [← he]; omega
    have h6 : Crs B6 (l.eraseIdx i) (own 48 15 (.slice B6 (l.eraseIdx i).length k6) (l.eraseIdx i).length (crsC (l.eraseIdx i)) :: own 3 1 (.slice B2 O.length k2) O.length (ints O) :: Γ4) := ⟨has_at (up_src _ _ _ _) 0 rfl fun _ h => own_src h, fun z hz => Cr.ok_tl (Cr.ok_tl (h4.ok z (List.mem_of_mem_eraseIdx hz))), fun z hz => h4.few z (List.mem_of_mem_eraseIdx hz), by omega⟩
    refine m_run ?_
    (apply TL.callV; exact rfl; exact callB_of (by kernel_rfl); exact rfl; exact fun _ h => h)
    exact rchain_t B6 k6 (l.eraseIdx i) who p args x _ h6 hel
    rintro _ Γ5 ⟨f2, rfl, hsub5, _, hf5⟩
    obtain ⟨R, hR⟩ := sub_perm hsub5
    refine TL.imp (Δ := own 3 1 (.slice B2 O.length k2) O.length (ints O) :: own 48 15 (.slice B6 (l.eraseIdx i).length k6) (l.eraseIdx i).length (crsC (l.eraseIdx i)) :: (Γ4 ++ R)) (fun m hm => all_perm (.swap _ _ _) (all_perm hR hm)) ?_
    have hs5 : Γ3.Sublist (own 48 15 (.slice B6 (l.eraseIdx i).length k6) (l.eraseIdx i).length (crsC (l.eraseIdx i)) :: (Γ4 ++ R)) := .cons _ (hs4.trans (List.sublist_append_left _ _))
    generalize own 48 15 (.slice B6 (l.eraseIdx i).length k6) (l.eraseIdx i).length (crsC (l.eraseIdx i)) :: (Γ4 ++ R) = Γ6 at *
    have hone := wayV_one f2
    generalize wayV f2 = W2 at *
    have hisn : lessB l who p args x i = !f2.isSome := by unfold lessB; rw [← hf5]; cases f2 <;> rfl
    have hsn : (List.range (i + 1)).filter (lessB l who p args x) = O ++ (if f2.isSome then [] else [i]) := by
      rw [List.range_succ, List.filter_append, ← hO]
      congr 1
      simp only [List.filter_cons, List.filter_nil, hisn]
      cases f2 <;> rfl
    cases f2 with
    | some y =>
      refine m_run ?_
      exact IH (j - 1) _ _ (by omega) ⟨i + 1, O, B2, k2, Γ6, by omega, by rw [hsn]; simp, by omega, hs5, rfl, rfl, rfl, rfl, rfl, rfl, rfl, congrArg (Value.int .i64) (i64_succ i (by omega)), rfl⟩
    | none =>
      refine m_run ?_
      (apply TL.buildSlice (l := ints [i]); exact rfl; exact tb rfl; exact rfl; exact tb rfl; exact rfl; exact rfl; exact rfl; exact rfl; exact rfl)
      intro b48
      refine m_run ?_
      (apply TL.append 1; exact rfl; exact rfl; exact tb rfl; exact rfl; exact tb rfl; exact rfl; exact rfl; exact rfl)
      · exact fun _ h => h
      · exact rfl
      · exact has_src_row 0 rfl rfl
      · exact ints_one [i]
      · show (O.length + 1) * 8 ≤ _; omega
      · show O.length + 1 ≤ maxLen; unfold maxLen; omega
      · exact fun _ => (rfl : _ = _ :: _ :: _)
      intro B3 k3 hk3
      rw [show ints O ++ ints [i] = ints (O ++ [i]) by simp, show O.length + 1 = (O ++ [i]).length by simp]
      refine m_run ?_
      refine TK.drop ?_
      exact IH (j - 1) _ _ (by omega) ⟨i + 1, O ++ [i], B3, k3, Γ6, by omega, by rw [hsn]; simp, by simp; omega, hs5, rfl, rfl, rfl, rfl, rfl, rfl, rfl, congrArg (Value.int .i64) (i64_succ i (by omega)), rfl⟩
  obtain rfl : i = l.length := by omega
  refine m_run ?_
  (apply TK.ret1; exact rfl; exact rfl; (exact m_val))
  exact ⟨_, rfl, O, B2, k2, Γ4, by rw [if_pos (show (some y).isSome = true from rfl)]; exact hO, hsub.trans hs4, rfl, rfl⟩
set_option maxRecDepth 100000 in
theorem numbers_t (A B : Option Addr) (c d : Nat) (a b : List Nat) (Γ : List HP) (ha : has Γ (srcAt 1 A a.length (u32s a))) (hb : has Γ (srcAt 1 B b.length (u32s b))) (hn : a.length ≤ 1000000) (hn2 : b.length ≤ 1000000) :
    FnV Try.prog 17 [.slice A a.length c, .slice B b.length d] Γ fun v Γ' => v = .bool (decide (a = b)) ∧ Γ' = Γ := by
  refine Fn.enter Try.func17 rfl rfl rfl fun E => ?_
  by_cases hl : a.length = b.length
  rotate_left
  · have hl' : ((a.length : Int) != (b.length : Int)) = true := bne_iff_ne.2 (by omega)
    refine m_run ?_
    (apply TK.ret1; exact rfl; exact rfl; (exact m_val))
    exact ⟨_, rfl, by rw [decide_eq_false (fun e => hl (congrArg List.length e))], rfl⟩
  refine m_run ?_
  apply TK.iter (fun j ρ' Γ' => ∃ i : Nat, i + j = a.length ∧ a.take i = b.take i ∧ lk ρ' 0 = .slice A a.length c ∧ lk ρ' 1 = .slice B b.length d ∧ lk ρ' 5 = .int .i64 (i : Int) ∧ Γ' = Γ) a.length
  · exact ⟨0, Nat.zero_add _, rfl, rfl, rfl, rfl, rfl⟩
  rintro j IH ρ' Γ ⟨i, hij, heq, e0, e1, e5, rfl⟩
  refine TK.know3 e0 e1 e5 ?_
  by_cases hi : i < a.length
  · obtain ⟨x, hx⟩ : ∃ x, a[i]? = some x := ⟨a[i], List.getElem?_eq_getElem hi⟩
    obtain ⟨y, hy⟩ : ∃ y, b[i]? = some y := ⟨b[i]'(by omega), List.getElem?_eq_getElem _⟩
    refine TK.mem fun m0 hm0 => ?_
    obtain ⟨g, u, rfl⟩ := src_some (ha m0 hm0) (by rw [u32s_len]; omega)
    obtain ⟨g2, u2, rfl⟩ := src_some (hb m0 hm0) (by rw [u32s_len]; omega)
    clear hm0 m0
    have hcx := has_u32 ha hx
    have hcy := has_u32 hb hy
    refine m_run ?_
    refine TK.drawS mixed rfl ?_
    refine m_take (At.mk : At 0) ?_; refine m_take (At.mk : At 1) ?_; refine m_take (At.mk : At 2) ?_; refine m_take (At.mk : At 3) ?_; refine m_take (At.mk : At 4) ?_; refine m_take (At.mk : At 5) ?_; refine m_take (At.mk : At 6) ?_; refine m_take (At.mk : At 7) ?_; refine m_take (At.mk : At 8) ?_
    refine TA.done (by kernel_rfl) ?_
    by_cases hxy : x = y
    · subst hxy
      refine m_run ?_
      refine IH (j - 1) _ _ (by omega) ⟨i + 1, by omega, ?_, rfl, rfl, congrArg (Value.int .i64) (i64_succ i (by omega)), rfl⟩
      rw [List.take_add_one, List.take_add_one, hx, hy, heq]
    · have hxy' : ((x : Int) != (y : Int)) = true := bne_iff_ne.2 (by omega)
      refine m_run ?_
      (apply TK.ret1; exact rfl; exact rfl; (exact m_val))
      refine ⟨_, rfl, ?_, rfl⟩
      rw [decide_eq_false (fun e => hxy (by rw [e, hy] at hx; exact (Option.some.inj hx).symm))]
  obtain rfl : i = a.length := by omega
  rw [List.take_length, List.take_of_length_le (by omega)] at heq
  refine m_run ?_
  (apply TK.ret1; exact rfl; exact rfl; (exact m_val))
  exact ⟨_, rfl, by rw [decide_eq_true heq], rfl⟩
set_option maxRecDepth 100000 in
theorem same_t (A B : Option Addr) (c d : Nat) (a b : List Nat) (Γ : List HP) (ha : has Γ (srcAt 1 A a.length (ints a))) (hb : has Γ (srcAt 1 B b.length (ints b))) (hn : a.length ≤ 1000000) (hn2 : b.length ≤ 1000000) :
    FnV Try.prog 20 [.slice A a.length c, .slice B b.length d] Γ fun v Γ' => v = .bool (decide (a = b)) ∧ Γ' = Γ := by
  refine Fn.enter Try.func20 rfl rfl rfl fun E => ?_
  by_cases hl : a.length = b.length
  rotate_left
  · have hl' : ((a.length : Int) != (b.length : Int)) = true := bne_iff_ne.2 (by omega)
    refine m_run ?_
    (apply TK.ret1; exact rfl; exact rfl; (exact m_val))
    exact ⟨_, rfl, by rw [decide_eq_false (fun e => hl (congrArg List.length e))], rfl⟩
  refine m_run ?_
  apply TK.iter (fun j ρ' Γ' => ∃ i : Nat, i + j = a.length ∧ a.take i = b.take i ∧ lk ρ' 0 = .slice A a.length c ∧ lk ρ' 1 = .slice B b.length d ∧ lk ρ' 5 = .int .i64 (i : Int) ∧ Γ' = Γ) a.length
  · exact ⟨0, Nat.zero_add _, rfl, rfl, rfl, rfl, rfl⟩
  rintro j IH ρ' Γ ⟨i, hij, heq, e0, e1, e5, rfl⟩
  refine TK.know3 e0 e1 e5 ?_
  by_cases hi : i < a.length
  · obtain ⟨x, hx⟩ : ∃ x, a[i]? = some x := ⟨a[i], List.getElem?_eq_getElem hi⟩
    obtain ⟨y, hy⟩ : ∃ y, b[i]? = some y := ⟨b[i]'(by omega), List.getElem?_eq_getElem _⟩
    refine TK.mem fun m0 hm0 => ?_
    obtain ⟨g, u, rfl⟩ := src_some (ha m0 hm0) (by rw [ints_len]; omega)
    obtain ⟨g2, u2, rfl⟩ := src_some (hb m0 hm0) (by rw [ints_len]; omega)
    clear hm0 m0
    have hcx := has_ints ha hx
    have hcy := has_ints hb hy
    refine m_run ?_
    refine TK.drawS mixed rfl ?_
    refine m_take (At.mk : At 0) ?_; refine m_take (At.mk : At 1) ?_; refine m_take (At.mk : At 2) ?_; refine m_take (At.mk : At 3) ?_; refine m_take (At.mk : At 4) ?_; refine m_take (At.mk : At 5) ?_; refine m_take (At.mk : At 6) ?_; refine m_take (At.mk : At 7) ?_; refine m_take (At.mk : At 8) ?_
    refine TA.done (by kernel_rfl) ?_
    by_cases hxy : x = y
    · subst hxy
      refine m_run ?_
      refine IH (j - 1) _ _ (by omega) ⟨i + 1, by omega, ?_, rfl, rfl, congrArg (Value.int .i64) (i64_succ i (by omega)), rfl⟩
      rw [List.take_add_one, List.take_add_one, hx, hy, heq]
    · have hxy' : ((x : Int) != (y : Int)) = true := bne_iff_ne.2 (by omega)
      refine m_run ?_
      (apply TK.ret1; exact rfl; exact rfl; (exact m_val))
      refine ⟨_, rfl, ?_, rfl⟩
      rw [decide_eq_false (fun e => hxy (by rw [e, hy] at hx; exact (Option.some.inj hx).symm))]
  obtain rfl : i = a.length := by omega
  rw [List.take_length, List.take_of_length_le (by omega)] at heq
  refine m_run ?_
  (apply TK.ret1; exact rfl; exact rfl; (exact m_val))
  exact ⟨_, rfl, by rw [decide_eq_true heq], rfl⟩
set_option maxRecDepth 100000 in
set_option maxHeartbeats 4000000 in
theorem few_t (c : Cr) (Γ : List HP) (h : c.ok Γ) : FnV Try.prog 25 [.agg c.cells.toArray] Γ fun v Γ' => (∃ b : Bool, v = .bool b ∧ (b = true ↔ c.few)) ∧ Γ' = Γ := by
  refine Fn.enter Try.func25 rfl rfl rfl fun E => ?_
  obtain ⟨iss, ser, frm, til, kind, ⟨⟨hs0, hw, ⟨hp, hA, hc, hl⟩⟩, RA, Rc, L⟩, p, args, to, dep⟩ := c
  have hLo : has Γ (srcAt 6 RA L.length (cdsC L)) := h.2.1
  refine m_run ?_
  (apply TL.box; exact rfl; exact rfl; (exact m_lst))
  intro b1
  refine TL.imp (Δ := row b1 [.int .u32 (iss : Int), .int .u64 (ser : Int), .int .u64 (frm : Int), .int .u64 (til : Int), .int .u8 (kind : Int), .bool hs0, .bool hw.v, .int .u32 (hw.n : Int), .int .u32 (hp : Int), .slice hA hl.length hc, .slice RA L.length Rc, .int .u32 (p : Int), .int .i64 args, .int .u32 (to : Int), .int .i64 dep] 48 :: Γ) (fun _ h => h) ?_
  by_cases h1 : L.length ≤ 30
  rotate_left
  · refine m_run ?_
    (apply TK.retS1; exact rfl; exact rfl; (exact m_val))
    exact ⟨_, rfl, ⟨false, rfl, by simp [Cr.few]; omega⟩, rfl⟩
    (repeat (first | exact List.Sublist.refl _ | apply List.Sublist.cons_cons | apply List.Sublist.cons))
  by_cases h2 : hl.length ≤ 30
  rotate_left
  · refine m_run ?_
    (apply TK.retS1; exact rfl; exact rfl; (exact m_val))
    exact ⟨_, rfl, ⟨false, rfl, by simp [Cr.few]; omega⟩, rfl⟩
    (repeat (first | exact List.Sublist.refl _ | apply List.Sublist.cons_cons | apply List.Sublist.cons))
  refine m_run ?_
  apply TK.iter (fun j ρ' Γ' => ∃ i : Nat, i + j = L.length ∧ (∀ x ∈ L.take i, x.y.a.l.length ≤ 30) ∧ lk ρ' 1 = .pointer (some ⟨b1, 0, none⟩) ∧ lk ρ' 3 = .int .i64 (i : Int) ∧ Γ' = row b1 [.int .u32 (iss : Int), .int .u64 (ser : Int), .int .u64 (frm : Int), .int .u64 (til : Int), .int .u8 (kind : Int), .bool hs0, .bool hw.v, .int .u32 (hw.n : Int), .int .u32 (hp : Int), .slice hA hl.length hc, .slice RA L.length Rc, .int .u32 (p : Int), .int .i64 args, .int .u32 (to : Int), .int .i64 dep] 48 :: Γ) L.length
  · exact ⟨0, Nat.zero_add _, by simp, rfl, rfl, rfl⟩
  rintro j IH ρ' _ ⟨i, hij, hall, e1, e3, rfl⟩
  refine TK.know2 e1 e3 ?_
  by_cases hi : i < L.length
  · obtain ⟨⟨no, ⟨said, who, a⟩⟩, hx⟩ : ∃ x, L[i]? = some x := ⟨L[i], List.getElem?_eq_getElem hi⟩
    have hxm := List.mem_of_getElem? hx
    refine TK.mem fun m0 hm0 => ?_
    obtain ⟨g, u, rfl⟩ := src_some ((has_tls hLo : has (_ :: Γ) _) m0 hm0) (by rw [cdsC_len]; omega)
    clear hm0 m0
    have hel : has Γ (fun m => cellsAt m g (u + i * 6) [.bool no, .bool said, .bool who.v, .int .u32 (who.n : Int), .int .u32 (a.p : Int), .slice a.A a.l.length a.c]) := has_el (sz := 6) (f := Cd.cells) (fun _ => rfl) (by decide) hLo hx
    have hsl : has Γ (fun m => cellAt m g (u + i * 6 + 5) (.slice a.A a.l.length a.c)) := has_imp hel fun m h => h 5 _ rfl
    clear hel
    by_cases ha : a.l.length ≤ 30
    · refine m_run ?_
      refine IH (j - 1) _ _ (by omega) ⟨i + 1, by omega, fun z hz => ?_, rfl, congrArg (Value.int .i64) (i64_succ i (by omega)), rfl⟩
      rw [List.take_add_one, hx, List.mem_append] at hz
      rcases hz with hz | hz
      · exact hall z hz
      · simp at hz; rw [hz]; exact ha
    · refine m_run ?_
      (apply TK.retS1; exact rfl; exact rfl; (exact m_val))
      exact ⟨_, rfl, ⟨false, rfl, by
        constructor
        · intro h; cases h
        · rintro ⟨_, _, h3⟩; exact absurd (h3 _ hxm) ha⟩, rfl⟩
      (repeat (first | exact List.Sublist.refl _ | apply List.Sublist.cons_cons | apply List.Sublist.cons))
  obtain rfl : i = L.length := by omega
  rw [List.take_length] at hall
  refine m_run ?_
  (apply TK.retS1; exact rfl; exact rfl; (exact m_val))
  exact ⟨_, rfl, ⟨true, rfl, by simp only [true_iff]; exact ⟨h1, h2, hall⟩⟩, rfl⟩
  (repeat (first | exact List.Sublist.refl _ | apply List.Sublist.cons_cons | apply List.Sublist.cons))
set_option maxRecDepth 100000 in
set_option maxHeartbeats 4000000 in
theorem fewCreds_t (A : Option Addr) (c : Nat) (l : List Cr) (Γ : List HP) (hs : has Γ (srcAt 15 A l.length (crsC l))) (ho : ∀ x ∈ l, x.ok Γ) : FnV Try.prog 7 [.slice A l.length c] Γ fun v Γ' => (∃ b : Bool, v = .bool b ∧ (b = true ↔ l.length ≤ 40 ∧ ∀ x ∈ l, x.few)) ∧ Γ' = Γ := by
  refine Fn.enter Try.func7 rfl rfl rfl fun E => ?_
  by_cases h1 : l.length ≤ 40
  rotate_left
  · refine m_run ?_
    (apply TK.ret1; exact rfl; exact rfl; (exact m_val))
    exact ⟨_, rfl, ⟨false, rfl, by simp; omega⟩, rfl⟩
  refine m_run ?_
  apply TK.iter (fun j ρ' Γ' => ∃ i : Nat, i + j = l.length ∧ (∀ x ∈ l.take i, x.few) ∧ lk ρ' 0 = .slice A l.length c ∧ lk ρ' 3 = .int .i64 (i : Int) ∧ Γ' = Γ) l.length
  · exact ⟨0, Nat.zero_add _, by simp, rfl, rfl, rfl⟩
  rintro j IH ρ' Γ ⟨i, hij, hall, e0, e3, rfl⟩
  refine TK.know2 e0 e3 ?_
  by_cases hi : i < l.length
  · obtain ⟨x, hx⟩ : ∃ x, l[i]? = some x := ⟨l[i], List.getElem?_eq_getElem hi⟩
    have hxm := List.mem_of_getElem? hx
    refine TK.mem fun m0 hm0 => ?_
    obtain ⟨g, u, rfl⟩ := src_some (hs m0 hm0) (by rw [crsC_len]; omega)
    clear hm0 m0
    have hel : has Γ (fun m => cellsAt m g (u + i * 15) x.cells) := has_el (sz := 15) (f := Cr.cells) (fun _ => rfl) (by decide) hs hx
    refine m_run ?_
    (apply TL.callV; exact rfl; exact callB_of (by kernel_rfl); exact rfl; exact fun _ h => h)
    exact few_t x _ (ho x hxm)
    rintro _ Γ ⟨⟨b, rfl, hb2⟩, rfl⟩
    cases b with
    | false =>
      refine m_run ?_
      (apply TK.ret1; exact rfl; exact rfl; (exact m_val))
      exact ⟨_, rfl, ⟨false, rfl, by
        constructor
        · intro h; cases h
        · rintro ⟨_, h3⟩; exact absurd (hb2.2 (h3 _ hxm)) (by decide)⟩, rfl⟩
    | true =>
      refine m_run ?_
      refine IH (j - 1) _ _ (by omega) ⟨i + 1, by omega, fun z hz => ?_, rfl, congrArg (Value.int .i64) (i64_succ i (by omega)), rfl⟩
      rw [List.take_add_one, hx, List.mem_append] at hz
      rcases hz with hz | hz
      · exact hall z hz
      · simp at hz; rw [hz]; exact hb2.1 rfl
  obtain rfl : i = l.length := by omega
  rw [List.take_length] at hall
  refine m_run ?_
  (apply TK.ret1; exact rfl; exact rfl; (exact m_val))
  exact ⟨_, rfl, ⟨true, rfl, by simp only [true_iff]; exact ⟨h1, hall⟩⟩, rfl⟩
end Go.Proofs.Ythbcfamfaicneaa.E

/- Cuts, plainly; how credentials are read; the example; ReachPlays walked -/
namespace Go.Proofs.Ythbcfamfaicneaa.E
open Go Go.RowKit Go.Proofs
section
/- Cuts, plainly: those of the way that cannot be left out are all that cannot. -/
theorem linksOf_up (l : List Cr) (p : Nat) (args : Int) : (linksOf l p args).Pairwise (· < ·) := by
  unfold linksOf
  refine List.Pairwise.sublist (List.filter_sublist.map _) ?_
  have h : l.zipIdx.map (·.2) = List.range' 0 l.length := List.zipIdx_map_snd 0 l
  rw [h]
  exact List.pairwise_lt_range'
theorem unskip_nat (K : List Nat) (v : Nat) : unskip K (v : Int) = K.filter (· ≠ v) := by
  unfold unskip
  refine List.filter_congr fun i _ => ?_
  by_cases h : i = v
  · simp [h]
  · have : (i : Int) ≠ (v : Int) := by omega
    simp [h, this]
def rnm (v i : Nat) : Nat := if i < v then i else i + 1
theorem get_erase (l : List Cr) (v i : Nat) : (l.eraseIdx v)[i]? = l[rnm v i]? := by
  rw [List.getElem?_eraseIdx]
  unfold rnm
  split <;> rfl
theorem links_erase (l : List Cr) (p : Nat) (args : Int) (v : Nat) : (linksOf (l.eraseIdx v) p args).map (rnm v) = (linksOf l p args).filter (· ≠ v) := by
  refine Rch.sorted_eq ?_ ((linksOf_up l p args).sublist List.filter_sublist) fun j => ?_
  · rw [List.pairwise_map]
    refine (linksOf_up (l.eraseIdx v) p args).imp fun h => ?_
    unfold rnm
    split <;> split <;> omega
  · rw [List.mem_map, List.mem_filter, linksOf_mem]
    constructor
    · rintro ⟨i, hi, rfl⟩
      obtain ⟨x, h1, h2⟩ := linksOf_mem.1 hi
      rw [get_erase] at h1
      refine ⟨⟨x, h1, h2⟩, ?_⟩
      unfold rnm
      split <;> simp <;> omega
    · rintro ⟨⟨x, h1, h2⟩, hne⟩
      have hne' : j ≠ v := by simpa using hne
      refine ⟨if j < v then j else j - 1, linksOf_mem.2 ⟨x, ?_, h2⟩, ?_⟩
      · rw [get_erase, ← h1]
        congr 1
        unfold rnm
        by_cases hj : j < v
        · simp [hj]
        · simp only [hj, if_false]; split <;> omega
      · unfold rnm
        by_cases hj : j < v
        · simp [hj]
        · simp only [hj, if_false]; split <;> omega
theorem chain_erase (l : List Cr) (who p : Nat) (args : Int) (x v : Nat) : (chainS (l.eraseIdx v) who p args x (-1)).isNone = (chainS l who p args x (v : Int)).isNone := by
  unfold chainS
  split
  · rw [unskip_no, unskip_nat]
    have h := Rch.find_sp (fun t => decide (t.1 = x)) (Rch.renum_all (K := (linksOf l p args).filter (· ≠ v)) (nx := nxL l) (K' := linksOf (l.eraseIdx v) p args) (nx' := nxL (l.eraseIdx v)) (rnm v) (links_erase l p args v) (fun s i => by unfold nxL; rw [get_erase]) (who, 3) 4)
    rw [Option.isNone_map, Option.isNone_map]
    have e : ∀ o : Option Rch.Stp, o.isNone = !o.isSome := fun o => by cases o <;> rfl
    rw [e, e]
    exact congrArg _ h
  · rfl
theorem cuts_eq {l : List Cr} {who p : Nat} {args : Int} {x : Nat} {O : List Nat} (hp : O.Perm (cutsL l who p args x)) (hs : O.Pairwise (· ≤ ·)) : O = if (chainS l who p args x (-1)).isSome then (List.range l.length).filter (lessB l who p args x) else [] := by
  unfold cutsL at hp
  cases hc : chainS l who p args x (-1) with
  | none =>
    rw [hc] at hp
    exact List.Perm.eq_nil hp
  | some w =>
    rw [hc] at hp
    rw [if_pos (show (some w).isSome = true from rfl)]
    simp only [Option.getD_some] at hp
    have hc0 := hc
    unfold chainS at hc
    split at hc
    · rename_i htk
      rw [unskip_no] at hc
      obtain ⟨⟨t, w'⟩, hf, rfl⟩ := Option.map_eq_some_iff.1 hc
      have hnd : w'.Nodup := Rch.least_nodup (nxL_law l) hf
      obtain ⟨hrun, _⟩ := Rch.find_first _ _ _ hf
      have hwk := Rch.way_mem hrun
      have hOn : O.Nodup := hp.nodup_iff.2 (hnd.sublist List.filter_sublist)
      refine Rch.sorted_eq ((List.pairwise_and_iff.2 ⟨hs, hOn⟩).imp fun ⟨a, b⟩ => Nat.lt_of_le_of_ne a b) ((List.pairwise_lt_range).sublist List.filter_sublist) fun v => ?_
      rw [hp.mem_iff, List.mem_filter, List.mem_filter, List.mem_range]
      unfold lessB
      rw [chain_erase]
      constructor
      · rintro ⟨h1, h2⟩
        obtain ⟨c, h3, _⟩ := linksOf_mem.1 (hwk v h1)
        exact ⟨(List.getElem?_eq_some_iff.1 h3).1, h2⟩
      · rintro ⟨_, h2⟩
        refine ⟨Classical.byContradiction fun hno => ?_, h2⟩
        have h4 := Rch.reach_less hf hno
        unfold chainS at h2
        rw [if_pos htk, unskip_nat, Option.isNone_map] at h2
        cases hq : (Rch.allC ((linksOf l p args).filter (· ≠ v)) (nxL l) (who, 3) 4).find? fun s => decide (s.1.1 = x) with
        | none => rw [hq] at h4; cases h4
        | some q => rw [hq] at h2; cases h2
    · cases hc
theorem of_one {l : List Cr} {who p : Nat} {args : Int} {O P : List Nat} (h : OfSpec l who p args O) (h2 : OfSpec l who p args P) : O = P := Rch.sorted_eq h.1 h2.1 fun v => by rw [h.2, h2.2]
end
section
/- How credentials are read. -/
attribute [local irreducible] TK TL TQ TA Fn PV
/-! ### how they are read -/
def rU32 : Rd Nat := rNat .u32 4294967295
theorem reads_u32 : Reads Try.prog 31 rU32 := reads_nat (tb rfl : TabOk Try.prog 31 _) rfl rfl rfl rfl
def rTm : Rd Tm := ⟨2, tmC, fun t _ => t.n ≤ 4294967295⟩
theorem reads_tm : Reads Try.prog 38 rTm :=
  have ht : TabOk Try.prog 38 _ := tb rfl
  ⟨by rw [ht.cellsOf]; rfl, fun _ => rfl, fun _ _ _ _ h => h, fun enc w fuel cs x h => by
    obtain ⟨v, h1, _⟩ := read_field ht rfl h (R := rBool) 0 _ rfl (reads_bool (tb rfl) rfl rfl)
    obtain ⟨n, h3, h4⟩ := read_field ht rfl h (R := rU32) 1 _ rfl reads_u32
    exact ⟨⟨v, n⟩, cut2 h1 h3 (trod_field ht rfl h).1 rfl, h4⟩⟩
theorem reads_tms : Reads Try.prog 39 (rSl rTm) := reads_sl reads_tm (tb rfl) rfl rfl
def atmAt (a : Atm) (m : Mem) : Prop := a.p ≤ 4294967295 ∧ a.l.length ≤ a.c ∧ srcAt 2 a.A a.l.length (tmsC a.l) m ∧ ∀ t ∈ a.l, t.n ≤ 4294967295
def rAtm : Rd Atm := ⟨2, Atm.cells, atmAt⟩
theorem reads_atm : Reads Try.prog 41 rAtm :=
  have ht : TabOk Try.prog 41 _ := tb rfl
  ⟨by rw [ht.cellsOf]; rfl, fun _ => rfl, fun a x y hxy h => ⟨h.1, h.2.1, up_src _ _ _ _ x y hxy h.2.2.1, h.2.2.2⟩, fun enc w fuel cs x h => by
    obtain ⟨p, h1, h2⟩ := read_field ht rfl h (R := rU32) 0 _ rfl reads_u32
    obtain ⟨s, h3, h4⟩ := read_field ht rfl h (R := rSl rTm) 1 _ rfl reads_tms
    exact ⟨⟨p, s.A, s.c, s.l⟩, cut2 h1 h3 (trod_field ht rfl h).1 rfl, h2, h4.1, h4.2.2.1, h4.2.2.2⟩⟩
theorem atm_exact {a : Atm} {W : World} (h : atmAt a (memOf W)) : a.ok [exact_ W] := ⟨has_exact h.2.2.1, h.2.1⟩
def syAt (y : Sy) (m : Mem) : Prop := y.w.n ≤ 4294967295 ∧ atmAt y.a m
def rSy : Rd Sy := ⟨5, Sy.cells, syAt⟩
theorem reads_sy : Reads Try.prog 43 rSy :=
  have ht : TabOk Try.prog 43 _ := tb rfl
  ⟨by rw [ht.cellsOf]; rfl, fun _ => rfl, fun a x y hxy h => ⟨h.1, reads_atm.up _ x y hxy h.2⟩, fun enc w fuel cs x h => by
    obtain ⟨v, h1, _⟩ := read_field ht rfl h (R := rBool) 0 _ rfl (reads_bool (tb rfl) rfl rfl)
    obtain ⟨t, h3, h4⟩ := read_field ht rfl h (R := rTm) 1 _ rfl reads_tm
    obtain ⟨a, h5, h6⟩ := read_field ht rfl h (R := rAtm) 2 _ rfl reads_atm
    exact ⟨⟨v, t, a⟩, cut3 h1 h3 h5 (trod_field ht rfl h).1 rfl, h4, h6⟩⟩
def rCd : Rd Cd := ⟨6, Cd.cells, fun x m => syAt x.y m⟩
theorem reads_cd : Reads Try.prog 97 rCd :=
  have ht : TabOk Try.prog 97 _ := tb rfl
  ⟨by rw [ht.cellsOf]; rfl, fun _ => rfl, fun a x y hxy h => reads_sy.up _ x y hxy h, fun enc w fuel cs x h => by
    obtain ⟨v, h1, _⟩ := read_field ht rfl h (R := rBool) 0 _ rfl (reads_bool (tb rfl) rfl rfl)
    obtain ⟨a, h3, h4⟩ := read_field ht rfl h (R := rSy) 1 _ rfl reads_sy
    exact ⟨⟨v, a⟩, cut2 h1 h3 (trod_field ht rfl h).1 rfl, h4⟩⟩
theorem reads_cds : Reads Try.prog 44 (rSl rCd) := reads_sl reads_cd (tb rfl) rfl rfl
def rlAt (c : Rl) (m : Mem) : Prop := syAt c.h m ∧ c.l.length ≤ c.c ∧ srcAt 6 c.A c.l.length (cdsC c.l) m ∧ ∀ x ∈ c.l, syAt x.y m
def rRl : Rd Rl := ⟨6, Rl.cells, rlAt⟩
theorem reads_rl : Reads Try.prog 46 rRl :=
  have ht : TabOk Try.prog 46 _ := tb rfl
  ⟨by rw [ht.cellsOf]; rfl, fun _ => rfl, fun a x y hxy h => ⟨reads_sy.up _ x y hxy h.1, h.2.1, up_src _ _ _ _ x y hxy h.2.2.1, fun z hz => reads_sy.up _ x y hxy (h.2.2.2 z hz)⟩, fun enc w fuel cs x h => by
    obtain ⟨a, h1, h2⟩ := read_field ht rfl h (R := rSy) 0 _ rfl reads_sy
    obtain ⟨s, h3, h4⟩ := read_field ht rfl h (R := rSl rCd) 1 _ rfl reads_cds
    exact ⟨⟨a, s.A, s.c, s.l⟩, cut2 h1 h3 (trod_field ht rfl h).1 rfl, h2, h4.1, h4.2.2.1, h4.2.2.2⟩⟩
theorem rl_exact {c : Rl} {W : World} (h : rlAt c (memOf W)) : c.ok [exact_ W] := ⟨atm_exact h.1.2, has_exact h.2.2.1, h.2.1, fun x hx => atm_exact (h.2.2.2 x hx).2⟩
theorem take_app {cs a b : List Value} {i j : Nat} (h1 : cs.take i = a) (h2 : (cs.drop i).take j = b) : cs.take (i + j) = a ++ b := by rw [List.take_add, h1, h2]
theorem take_all {cs a : List Value} {i n : Nat} (h : cs.take i = a) (hl : cs.length = n) (hn : n = i) : cs = a := by
  rw [← h, List.take_of_length_le (by omega)]
def crAt (c : Cr) (m : Mem) : Prop := rlAt c.r m
def rCr : Rd Cr := ⟨15, Cr.cells, crAt⟩
theorem reads_cr : Reads Try.prog 48 rCr :=
  have ht : TabOk Try.prog 48 _ := tb rfl
  ⟨by rw [ht.cellsOf]; rfl, fun _ => rfl, fun a x y hxy h => reads_rl.up _ x y hxy h, fun enc w fuel cs x h => by
    obtain ⟨a0, h0, _⟩ := read_field ht rfl h (R := rU32) 0 _ rfl reads_u32
    obtain ⟨a1, h1, _⟩ := read_field ht rfl h (R := rNat .u64 18446744073709551615) 1 _ rfl (reads_nat (tb rfl : TabOk Try.prog 36 _) rfl rfl rfl rfl)
    obtain ⟨a2, h2, _⟩ := read_field ht rfl h (R := rNat .u64 18446744073709551615) 2 _ rfl (reads_nat (tb rfl : TabOk Try.prog 36 _) rfl rfl rfl rfl)
    obtain ⟨a3, h3, _⟩ := read_field ht rfl h (R := rNat .u64 18446744073709551615) 3 _ rfl (reads_nat (tb rfl : TabOk Try.prog 36 _) rfl rfl rfl rfl)
    obtain ⟨a4, h4, _⟩ := read_field ht rfl h (R := rNat .u8 255) 4 _ rfl (reads_nat (tb rfl : TabOk Try.prog 5 _) rfl rfl rfl rfl)
    obtain ⟨a5, h5, hr⟩ := read_field ht rfl h (R := rRl) 5 _ rfl reads_rl
    obtain ⟨a6, h6, _⟩ := read_field ht rfl h (R := rU32) 6 _ rfl reads_u32
    obtain ⟨a7, h7, _⟩ := read_field ht rfl h (R := rInt .i64) 7 _ rfl (reads_int (tb rfl : TabOk Try.prog 3 _) rfl rfl)
    obtain ⟨a8, h8, _⟩ := read_field ht rfl h (R := rU32) 8 _ rfl reads_u32
    obtain ⟨a9, h9, _⟩ := read_field ht rfl h (R := rInt .i64) 9 _ rfl (reads_int (tb rfl : TabOk Try.prog 3 _) rfl rfl)
    refine ⟨⟨a0, a1, a2, a3, a4, a5, a6, a7, a8, a9⟩, ?_, hr⟩
    have k0 : cs.take 1 = [.int .u32 (a0 : Int)] := h0
    have g1 : (cs.drop 1).take 1 = [.int .u64 (a1 : Int)] := h1
    have k1 : cs.take 2 = [.int .u32 (a0 : Int)] ++ [.int .u64 (a1 : Int)] := take_app k0 g1
    have g2 : (cs.drop 2).take 1 = [.int .u64 (a2 : Int)] := h2
    have k2 : cs.take 3 = ([.int .u32 (a0 : Int)] ++ [.int .u64 (a1 : Int)]) ++ [.int .u64 (a2 : Int)] := take_app k1 g2
    have g3 : (cs.drop 3).take 1 = [.int .u64 (a3 : Int)] := h3
    have k3 : cs.take 4 = (([.int .u32 (a0 : Int)] ++ [.int .u64 (a1 : Int)]) ++ [.int .u64 (a2 : Int)]) ++ [.int .u64 (a3 : Int)] := take_app k2 g3
    have g4 : (cs.drop 4).take 1 = [.int .u8 (a4 : Int)] := h4
    have k4 : cs.take 5 = ((([.int .u32 (a0 : Int)] ++ [.int .u64 (a1 : Int)]) ++ [.int .u64 (a2 : Int)]) ++ [.int .u64 (a3 : Int)]) ++ [.int .u8 (a4 : Int)] := take_app k3 g4
    have g5 : (cs.drop 5).take 6 = a5.cells := h5
    have k5 : cs.take 11 = (((([.int .u32 (a0 : Int)] ++ [.int .u64 (a1 : Int)]) ++ [.int .u64 (a2 : Int)]) ++ [.int .u64 (a3 : Int)]) ++ [.int .u8 (a4 : Int)]) ++ a5.cells := take_app k4 g5
    have g6 : (cs.drop 11).take 1 = [.int .u32 (a6 : Int)] := h6
    have k6 : cs.take 12 = ((((([.int .u32 (a0 : Int)] ++ [.int .u64 (a1 : Int)]) ++ [.int .u64 (a2 : Int)]) ++ [.int .u64 (a3 : Int)]) ++ [.int .u8 (a4 : Int)]) ++ a5.cells) ++ [.int .u32 (a6 : Int)] := take_app k5 g6
    have g7 : (cs.drop 12).take 1 = [.int .i64 a7] := h7
    have k7 : cs.take 13 = (((((([.int .u32 (a0 : Int)] ++ [.int .u64 (a1 : Int)]) ++ [.int .u64 (a2 : Int)]) ++ [.int .u64 (a3 : Int)]) ++ [.int .u8 (a4 : Int)]) ++ a5.cells) ++ [.int .u32 (a6 : Int)]) ++ [.int .i64 a7] := take_app k6 g7
    have g8 : (cs.drop 13).take 1 = [.int .u32 (a8 : Int)] := h8
    have k8 : cs.take 14 = ((((((([.int .u32 (a0 : Int)] ++ [.int .u64 (a1 : Int)]) ++ [.int .u64 (a2 : Int)]) ++ [.int .u64 (a3 : Int)]) ++ [.int .u8 (a4 : Int)]) ++ a5.cells) ++ [.int .u32 (a6 : Int)]) ++ [.int .i64 a7]) ++ [.int .u32 (a8 : Int)] := take_app k7 g8
    have g9 : (cs.drop 14).take 1 = [.int .i64 a9] := h9
    have k9 : cs.take 15 = (((((((([.int .u32 (a0 : Int)] ++ [.int .u64 (a1 : Int)]) ++ [.int .u64 (a2 : Int)]) ++ [.int .u64 (a3 : Int)]) ++ [.int .u8 (a4 : Int)]) ++ a5.cells) ++ [.int .u32 (a6 : Int)]) ++ [.int .i64 a7]) ++ [.int .u32 (a8 : Int)]) ++ [.int .i64 a9] := take_app k8 g9
    have hl : cs.length = 15 := (trod_field ht rfl h).1
    rw [List.take_of_length_le (by omega)] at k9
    rw [k9]
    simp [rCr, Cr.cells]⟩
theorem reads_crs : Reads Try.prog 22 (rSl rCr) := reads_sl reads_cr (tb rfl) rfl rfl
theorem cr_exact {c : Cr} {W : World} (h : crAt c (memOf W)) : c.ok [exact_ W] := rl_exact h
end
section
/- The chapter's example of who is reached: walked. -/
attribute [local irreducible] TK TL TQ TA TB Fn PV
/-- A link. -/
def giveC (a b p : Nat) (d : Int) : Cr := ⟨a, 0, 0, 9, 2, ⟨⟨false, ⟨false, 0⟩, ⟨0, none, 0, []⟩⟩, none, 0, []⟩, p, 1, b, d⟩
theorem giveC_ok (a b p : Nat) (d : Int) (Γ : List HP) : (giveC a b p d).ok Γ := ⟨⟨has_srcnil _ _, Nat.le_refl _⟩, has_srcnil _ _, Nat.le_refl _, fun x hx => by cases hx⟩
theorem giveC_few (a b p : Nat) (d : Int) : (giveC a b p d).few := ⟨by show 0 ≤ 30; decide, by show 0 ≤ 30; decide, fun x hx => by cases hx⟩
theorem mkGive_t (a b p : Nat) (d : Int) (Γ : List HP) : FnV Try.prog 23 [.int .u32 (a : Int), .int .u32 (b : Int), .int .u32 (p : Int), .int .i64 d] Γ fun v Γ' => v = .agg (giveC a b p d).cells.toArray ∧ Γ' = Γ := by
  refine Fn.enter Try.func23 rfl rfl rfl fun E => ?_
  refine m_run ?_
  (apply TL.alloc; exact rfl; exact tb rfl; exact (rfl : _ = [_, _, _, _, _, _, _, _, _, _, _, _, _, _, _]))
  intro b2
  refine m_run ?_
  (apply TL.pv; exact rfl; (apply PV.build tabs; exact rfl; exact rfl; exact rfl; exact rfl; exact rfl; exact (rfl : _ = (giveC a b p d).cells)))
  (apply TL.storeAggR 0; exact rfl; exact rfl; exact rfl; exact rfl; exact tb rfl; exact rfl; exact rfl; exact (rfl : _ = (giveC a b p d).cells); exact (rfl : _ = _ :: _))
  refine m_run ?_
  (apply TK.retRow (i := 0); exact rfl; exact rfl; exact rfl; exact rfl; exact tb rfl; exact rfl; exact (rfl : _ = (giveC a b p d).cells); exact rfl)
  · exact ⟨_, rfl, rfl, rfl⟩
  · (repeat (first | exact List.Sublist.refl _ | apply List.Sublist.cons_cons | apply List.Sublist.cons))
def exL : List Cr := [giveC 5 6 7 0, giveC 6 8 7 3]
theorem exL_all (who : Nat) (R : List Rch.Stp) (h : Rch.allC (linksOf exL 7 1) (nxL exL) (who, 3) 4 = R) {O P : List Nat} (ho : OfSpec exL who 7 1 O) (hp : P.Pairwise (· < ·)) (hm : ∀ v, v ∈ P ↔ ∃ s ∈ R, s.1.1 = v) : O = P := by
  refine of_one ho ⟨hp, fun v => ?_⟩
  rw [h, hm]
  exact ⟨fun k => ⟨by kernel_rfl, k⟩, fun k => k.2⟩
theorem ex_a {O : List Nat} (h : OfSpec exL 5 7 1 O) : O = [5, 6] := exL_all 5 [((5, 3), []), ((6, 0), [0])] (by kernel_rfl) h (by decide) (fun v => by simp [eq_comm])
theorem ex_b {O : List Nat} (h : OfSpec exL 6 7 1 O) : O = [6, 8] := exL_all 6 [((6, 3), []), ((8, 2), [1])] (by kernel_rfl) h (by decide) (fun v => by simp [eq_comm])
theorem ex_c : chainS exL 6 7 1 8 (-1) = some [1] := by kernel_rfl
theorem ex_d : chainS exL 5 7 1 8 (-1) = none := by kernel_rfl
theorem ex_e : cutsL exL 5 7 1 6 = [0] := by kernel_rfl
attribute [local irreducible] exL chainS cutsL OfSpec
set_option maxRecDepth 100000 in
set_option maxHeartbeats 8000000 in
theorem works_t (Γ0 : List HP) : FnV Try.prog 14 [] Γ0 fun v Γ' => v = .bool true ∧ Γ0.Sublist Γ' := by
  refine Fn.enter Try.func14 rfl rfl rfl fun E => ?_
  refine m_run ?_
  (apply TL.callV; exact rfl; exact callB_of (by kernel_rfl); exact rfl; exact fun _ h => h)
  exact mkGive_t 5 6 7 0 _
  rintro _ Γ0 ⟨rfl, rfl⟩
  refine m_run ?_
  (apply TL.callV; exact rfl; exact callB_of (by kernel_rfl); exact rfl; exact fun _ h => h)
  exact mkGive_t 6 8 7 3 _
  rintro _ Γ0 ⟨rfl, rfl⟩
  (apply TL.buildSlice (l := crsC [giveC 5 6 7 0, giveC 6 8 7 3]); exact rfl; exact tb rfl; exact rfl; exact tb rfl; exact rfl; exact rfl; exact rfl; exact rfl; exact rfl)
  intro b11
  have hC : Crs (some ⟨b11, 0, none⟩) exL (row b11 (crsC [giveC 5 6 7 0, giveC 6 8 7 3]) 48 :: Γ0) := by
    unfold exL
    refine ⟨has_src_row 0 rfl rfl, fun x hx => ?_, fun x hx => ?_, by show 2 ≤ 100000; decide⟩
    · simp only [List.mem_cons, List.not_mem_nil, or_false] at hx
      rcases hx with rfl | rfl <;> exact giveC_ok _ _ _ _ _
    · simp only [List.mem_cons, List.not_mem_nil, or_false] at hx
      rcases hx with rfl | rfl <;> exact giveC_few _ _ _ _
  have h2 : exL.length = 2 := by unfold exL; rfl
  have hl : exL.length ≤ 50 := by omega
  have hS0 : Γ0.Sublist (row b11 (crsC [giveC 5 6 7 0, giveC 6 8 7 3]) 48 :: Γ0) := .cons _ (.refl _)
  generalize hG : row b11 (crsC [giveC 5 6 7 0, giveC 6 8 7 3]) 48 :: Γ0 = Γ1 at hC hS0
  clear hG
  refine m_run ?_
  (apply TL.callV; exact rfl; exact callB_of (by kernel_rfl); exact rfl; exact fun _ h => h)
  rw [← h2]
  exact ofR_t _ exL.length exL 5 7 1 _ hC hl
  rintro _ _ ⟨O, B1, k1, Γ2, hO, _, hs2, rfl, rfl⟩
  obtain rfl := ex_a hO
  refine m_run ?_
  (apply TL.callV; exact rfl; exact callB_of (by kernel_rfl); exact rfl; exact fun _ h => h)
  rw [← h2]
  exact ofR_t _ exL.length exL 6 7 1 _ (hC.sub (.cons _ hs2)) hl
  rintro _ _ ⟨O2, B2, k2, Γ3, hO2, _, hs3, rfl, rfl⟩
  obtain rfl := ex_b hO2
  refine m_run ?_
  (apply TL.callV; exact rfl; exact callB_of (by kernel_rfl); exact rfl; exact fun _ h => h)
  rw [← h2]
  exact chainR_t _ exL.length exL 6 7 1 8 _ (hC.sub ((List.Sublist.cons _ hs2).trans (.cons _ hs3))) hl
  rintro _ Γ4 ⟨f, rfl, hs4, hfo, hf⟩
  rw [ex_c] at hf
  obtain ⟨y, rfl, hy⟩ := Option.map_eq_some_iff.1 hf
  obtain ⟨yp, yl, yA, yc, yw⟩ := y
  dsimp only at hy
  subst hy
  have hyo := (hfo _ rfl).1
  refine m_run ?_
  (apply TL.callV; exact rfl; exact callB_of (by kernel_rfl); exact rfl; exact fun _ h => h)
  rw [← h2]
  exact chainR_t _ exL.length exL 5 7 1 8 _ (hC.sub (((List.Sublist.cons _ hs2).trans (.cons _ hs3)).trans hs4)) hl
  rintro _ Γ5 ⟨f, rfl, hs5, _, hf⟩
  rw [ex_d] at hf
  obtain rfl := Option.map_eq_none_iff.1 hf
  refine m_run ?_
  (apply TL.callV; exact rfl; exact callB_of (by kernel_rfl); exact rfl; exact fun _ h => h)
  rw [← h2]
  exact cutsR_t _ exL.length exL 5 7 1 6 _ (hC.sub ((((List.Sublist.cons _ hs2).trans (.cons _ hs3)).trans hs4).trans hs5)) hl
  rintro _ _ ⟨O3, B3, k3, Γ6, hO3, _, hs6, rfl, rfl⟩
  rw [ex_e] at hO3
  obtain rfl := List.perm_singleton.1 hO3
  have u1 : has Γ6 (srcAt 1 B1 [5, 6].length (u32s [5, 6])) := has_sublist (up_src _ _ _ _) (((List.Sublist.cons _ hs3).trans hs4).trans (hs5.trans hs6)) (has_at (up_src _ _ _ _) 0 rfl fun _ h => own_src h)
  have u2 : has Γ6 (srcAt 1 B2 [6, 8].length (u32s [6, 8])) := has_sublist (up_src _ _ _ _) (hs4.trans (hs5.trans hs6)) (has_at (up_src _ _ _ _) 0 rfl fun _ h => own_src h)
  have u3 : has Γ6 (srcAt 1 yA [1].length (ints [1])) := has_sublist (up_src _ _ _ _) (hs5.trans hs6) hyo
  have u4 : has (own 3 1 (.slice B3 1 k3) 1 (ints [0]) :: Γ6) (srcAt 1 B3 [0].length (ints [0])) := has_at (up_src _ _ _ _) 0 rfl fun _ h => own_src h
  have hS6 : Γ0.Sublist Γ6 := (((hS0.trans ((List.Sublist.cons _ hs2).trans (.cons _ hs3))).trans hs4).trans hs5).trans hs6
  refine m_run ?_
  (apply TL.buildSlice (l := u32s [5, 6]); exact rfl; exact tb rfl; exact rfl; exact tb rfl; exact rfl; exact rfl; exact rfl; exact rfl; exact rfl)
  intro b29
  (apply TL.callV; exact rfl; exact callB_of (by kernel_rfl); exact rfl; exact fun _ h => h)
  exact numbers_t B1 _ k1 2 [5, 6] [5, 6] _ (has_tls (has_tls u1)) (has_src_row 0 rfl rfl) (by decide) (by decide)
  rintro _ _ ⟨rfl, rfl⟩
  refine m_run ?_
  (apply TL.buildSlice (l := u32s [6, 8]); exact rfl; exact tb rfl; exact rfl; exact tb rfl; exact rfl; exact rfl; exact rfl; exact rfl; exact rfl)
  intro b33
  refine m_run ?_
  (apply TL.callV; exact rfl; exact callB_of (by kernel_rfl); exact rfl; exact fun _ h => h)
  exact numbers_t B2 _ k2 2 [6, 8] [6, 8] _ (has_tls (has_tls (has_tls u2))) (has_src_row 0 rfl rfl) (by decide) (by decide)
  rintro _ _ ⟨rfl, rfl⟩
  refine m_run ?_
  (apply TL.buildSlice (l := ints [1]); exact rfl; exact tb rfl; exact rfl; exact tb rfl; exact rfl; exact rfl; exact rfl; exact rfl; exact rfl)
  intro b41
  refine m_run ?_
  (apply TL.callV; exact rfl; exact callB_of (by kernel_rfl); exact rfl; exact fun _ h => h)
  exact same_t yA _ yc 1 [1] [1] _ (has_tls (has_tls (has_tls (has_tls u3)))) (has_src_row 0 rfl rfl) (by decide) (by decide)
  rintro _ _ ⟨rfl, rfl⟩
  refine m_run ?_
  (apply TL.buildSlice (l := ints [0]); exact rfl; exact tb rfl; exact rfl; exact tb rfl; exact rfl; exact rfl; exact rfl; exact rfl; exact rfl)
  intro b50
  refine m_run ?_
  (apply TL.callV; exact rfl; exact callB_of (by kernel_rfl); exact rfl; exact fun _ h => h)
  exact same_t B3 _ k3 1 [0] [0] _ (has_tls (has_tls (has_tls (has_tls u4)))) (has_src_row 0 rfl rfl) (by decide) (by decide)
  rintro _ _ ⟨rfl, rfl⟩
  refine m_run ?_
  (apply TK.ret1; exact rfl; exact rfl; (exact m_val))
  exact ⟨_, rfl, rfl, .cons _ (.cons _ (.cons _ (.cons _ (.cons _ hS6))))⟩
end
section
/- Whom anybody reaches, as the document tells it: walked. -/
attribute [local irreducible] TK TL TQ TA TB Fn PV
theorem way_src {f : Option Wy} {Γ : List HP} (h : ∀ s, f = some s → s.ok Γ) : ∃ A c, wayV f = .slice A ((f.map (·.w)).getD []).length c ∧ has Γ (srcAt 1 A ((f.map (·.w)).getD []).length (ints ((f.map (·.w)).getD []))) := by
  cases f with
  | none => exact ⟨none, 0, rfl, has_srcnil _ _⟩
  | some s => exact ⟨s.A, s.c, rfl, (h s rfl).1⟩
set_option maxRecDepth 100000 in
set_option maxHeartbeats 8000000 in
theorem reachPlays_t (A : Option Addr) (c : Nat) (l : List Cr) (who p : Nat) (args : Int) (x : Nat) (Γ0 : List HP) (hs0 : has Γ0 (srcAt 15 A l.length (crsC l))) (ho0 : ∀ x ∈ l, x.ok Γ0) (hlc : l.length ≤ c) :
    FnV Try.prog 5 [.slice A l.length c, .int .u32 (who : Int), .int .u32 (p : Int), .int .i64 args, .int .u32 (x : Int)] Γ0 fun v Γ' => v = .bool true ∧ Γ' = Γ0 := by
  refine Fn.enter Try.func5 rfl rfl rfl fun E => ?_
  refine m_run ?_
  by_cases h12 : l.length ≤ 12
  rotate_left
  · refine m_run ?_
    (apply TL.callV; exact rfl; exact callB_of (by kernel_rfl); exact rfl; exact fun _ h => h)
    exact works_t _
    rintro _ Γ1 ⟨rfl, hs1⟩
    refine m_run ?_
    (apply TK.retS1; exact rfl; exact rfl; (exact m_val))
    exact ⟨_, rfl, rfl, rfl⟩
    exact hs1
  refine m_run ?_
  (apply TL.callV; exact rfl; exact callB_of (by kernel_rfl); exact rfl; exact fun _ h => h)
  exact fewCreds_t A c l _ hs0 ho0
  rintro _ Γ0 ⟨⟨b, rfl, hb⟩, rfl⟩
  cases b with
  | false =>
    refine m_run ?_
    (apply TL.callV; exact rfl; exact callB_of (by kernel_rfl); exact rfl; exact fun _ h => h)
    exact works_t _
    rintro _ Γ1 ⟨rfl, hs1⟩
    refine m_run ?_
    (apply TK.retS1; exact rfl; exact rfl; (exact m_val))
    exact ⟨_, rfl, rfl, rfl⟩
    exact hs1
  | true =>
  obtain ⟨hl40, hfew⟩ := hb.1 rfl
  have hC : Crs A l Γ0 := ⟨hs0, ho0, hfew, by omega⟩
  refine m_run ?_
  (apply TL.buildSlice (l := []); exact rfl; exact tb rfl; exact rfl; exact tb rfl; exact rfl; exact rfl; exact rfl; exact rfl; exact rfl)
  intro b25
  refine m_run ?_
  (apply TL.append 0 (n := 0) (m := l.length) (cs := []) (news := crsC l); exact rfl; exact rfl; exact tb rfl; exact rfl; exact tb rfl; exact rfl; exact rfl; exact rfl)
  · exact fun _ h => own_row (n := 0) rfl (by decide) h
  · exact rfl
  · exact has_tls hs0
  · exact crs_one _
  · show (0 + l.length) * 144 ≤ _; omega
  · show 0 + l.length ≤ maxLen; unfold maxLen; omega
  · exact fun _ => (rfl : _ = _ :: _)
  intro B5 k5 hk5
  simp only [Nat.zero_add, List.nil_append] at hk5 ⊢
  have hS1 : Γ0.Sublist (own 48 15 (.slice B5 l.length k5) l.length (crsC l) :: Γ0) := .cons _ (.refl _)
  have hC1 : Crs B5 l (own 48 15 (.slice B5 l.length k5) l.length (crsC l) :: Γ0) := ⟨has_at (up_src _ _ _ _) 0 rfl fun _ h => own_src h, fun x hx => Cr.ok_tl (ho0 x hx), hfew, by omega⟩
  generalize hG : own 48 15 (.slice B5 l.length k5) l.length (crsC l) :: Γ0 = Γ1 at hS1 hC1
  have hl5 : l.length ≤ 50 := by omega
  refine m_run ?_
  (apply TL.callV; exact rfl; exact callB_of (by kernel_rfl); exact rfl; exact fun _ h => h)
  exact chainR_t B5 k5 l who p args x _ hC1 hl5
  rintro _ Γ2 ⟨f1, rfl, hS2, hf1, hw1⟩
  refine m_run ?_
  (apply TL.callV; exact rfl; exact callB_of (by kernel_rfl); exact rfl; exact fun _ h => h)
  exact rchain_t A c l who p args x _ (hC.sub (hS1.trans hS2)) hl5
  rintro _ Γ3 ⟨f2, rfl, hS3, hf2, hw2⟩
  refine m_run ?_
  (apply TL.callV; exact rfl; exact callB_of (by kernel_rfl); exact rfl; exact fun _ h => h)
  exact ofR_t B5 k5 l who p args _ (hC1.sub (hS2.trans hS3)) hl5
  rintro _ _ ⟨O1, B6, k6, Γ4, hO1, hn1, hS4, rfl, rfl⟩
  refine m_run ?_
  (apply TL.callV; exact rfl; exact callB_of (by kernel_rfl); exact rfl; exact fun _ h => h)
  exact rof_t A c l who p args _ (hC.sub ((hS1.trans (hS2.trans (hS3.trans hS4))).trans (.cons _ (.refl _)))) hl5
  rintro _ _ ⟨O2, B7, k7, Γ5, hO2, hn2, hS5, rfl, rfl⟩
  obtain rfl := of_one hO1 hO2
  refine m_run ?_
  (apply TL.callV; exact rfl; exact callB_of (by kernel_rfl); exact rfl; exact fun _ h => h)
  exact numbers_t B6 B7 k6 k7 O1 O1 _ (has_tls (has_sublist (up_src _ _ _ _) hS5 (has_at (up_src _ _ _ _) 0 rfl fun _ h => own_src h))) (has_at (up_src _ _ _ _) 0 rfl fun _ h => own_src h) (by omega) (by omega)
  rintro _ _ ⟨rfl, rfl⟩
  rw [decide_eq_true (rfl : O1 = O1)]
  have hfi : (f1.isSome == f2.isSome) = true := by
    have h := hw1.trans hw2.symm
    cases f1 <;> cases f2 <;> first | rfl | cases h
  have hS35 : Γ3.Sublist (own 31 1 (.slice B7 O1.length k7) O1.length (u32s O1) :: Γ5) := (hS4.trans (.cons _ (.refl _))).trans (hS5.trans (.cons _ (.refl _)))
  have hlen : ((chainS l who p args x (-1)).getD []).length ≤ 1000000 := Nat.le_trans chainS_len (by decide)
  obtain ⟨P1, c1, e1, s1⟩ := way_src (Γ := Γ3) (f := f1) fun s hs => ⟨has_sublist (up_src _ _ _ _) hS3 (hf1 s hs).1, (hf1 s hs).2⟩
  obtain ⟨P2, c2, e2, s2⟩ := way_src (Γ := Γ3) (f := f2) hf2
  rw [hw1] at e1 s1
  rw [hw2] at e2 s2
  rw [e1, e2]
  refine m_run ?_
  refine TL.know (t := 60) (v := .bool true) (congrArg Value.bool hfi) ?_
  refine m_run ?_
  (apply TL.callV; exact rfl; exact callB_of (by kernel_rfl); exact rfl; exact fun _ h => h)
  exact same_t P1 P2 c1 c2 _ _ _ (has_sublist (up_src _ _ _ _) hS35 s1) (has_sublist (up_src _ _ _ _) hS35 s2) hlen hlen
  rintro _ _ ⟨rfl, rfl⟩
  rw [decide_eq_true (rfl : (chainS l who p args x (-1)).getD [] = _)]
  refine m_run ?_
  (apply TL.callV; exact rfl; exact callB_of (by kernel_rfl); exact rfl; exact fun _ h => h)
  exact cutsR_t B5 k5 l who p args x _ (hC1.sub ((hS2.trans hS3).trans hS35)) hl5
  rintro _ _ ⟨O3, B8, k8, Γ6, hp3, hs3, hS6, rfl, rfl⟩
  refine m_run ?_
  (apply TL.callV; exact rfl; exact callB_of (by kernel_rfl); exact rfl; exact fun _ h => h)
  exact rcuts_t A c l who p args x _ (hC.sub ((hS1.trans ((hS2.trans hS3).trans hS35)).trans (hS6.trans (.cons _ (.refl _))))) hl5 hlc
  rintro _ _ ⟨O4, B9, k9, Γ7, hO4, hS7, rfl, rfl⟩
  have hO := cuts_eq hp3 hs3
  rw [← hO] at hO4
  subst hO4
  have hln : O4.length ≤ 1000000 := by
    rw [hp3.length_eq]
    unfold cutsL
    exact Nat.le_trans (List.length_filter_le _ _) hlen
  refine m_run ?_
  (apply TL.callV; exact rfl; exact callB_of (by kernel_rfl); exact rfl; exact fun _ h => h)
  exact same_t B8 B9 k8 k9 _ _ _ (has_tls (has_sublist (up_src _ _ _ _) hS7 (has_at (up_src _ _ _ _) 0 rfl fun _ h => own_src h))) (has_at (up_src _ _ _ _) 0 rfl fun _ h => own_src h) hln hln
  rintro _ _ ⟨rfl, rfl⟩
  rw [decide_eq_true (rfl : O4 = _)]
  refine m_run ?_
  (apply TL.callV; exact rfl; exact callB_of (by kernel_rfl); exact rfl; exact fun _ h => h)
  exact works_t _
  rintro _ Γ8 ⟨rfl, hS8⟩
  refine m_run ?_
  (apply TK.retS1; exact rfl; exact rfl; (exact m_val))
  exact ⟨_, rfl, rfl, rfl⟩
  exact (((hS1.trans ((hS2.trans hS3).trans hS35)).trans (hS6.trans (.cons _ (.refl _)))).trans (hS7.trans (.cons _ (.refl _)))).trans hS8
end
end Go.Proofs.Ythbcfamfaicneaa.E
