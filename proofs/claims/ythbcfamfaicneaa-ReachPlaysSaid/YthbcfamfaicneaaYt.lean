/- The document on who is reached: Of, sorted in place, walked. -/
import Derived.Test.YthbcfamfaicneaaYr
namespace Go.Proofs.Ythbcfamfaicneaa.E
open Go Go.RowKit Go.Proofs Go.Sort
attribute [local irreducible] TK TL TQ TA TB Fn PV Sort.insInner
theorem swp_comm (d : Array Int) (p : Nat) : swp d p (p + 1) = swp d (p + 1) p := by
  unfold swp
  exact Array.setIfInBounds_comm _ _ (by omega)
theorem back_nat {D' : List Int} {out : List Nat} (hp : D'.Perm (out.map fun n : Nat => (n : Int))) (hs : D'.Pairwise (· ≤ ·)) : ∃ L : List Nat, nums .u32 D' = u32s L ∧ L.Perm out ∧ L.Pairwise (· ≤ ·) := by
  have hn : ∀ x ∈ D', 0 ≤ x := fun x hx => by
    obtain ⟨n, _, rfl⟩ := List.mem_map.1 (hp.mem_iff.1 hx)
    omega
  have hback : (D'.map Int.toNat).map (fun n : Nat => (n : Int)) = D' := by
    rw [List.map_map]
    exact (List.map_congr_left fun x hx => Int.toNat_of_nonneg (hn x hx)).trans (List.map_id _)
  refine ⟨D'.map Int.toNat, by rw [← SU.nums_u32s, hback], ?_, ?_⟩
  · have := hp.map Int.toNat
    rw [List.map_map] at this
    exact this.trans (.of_eq ((List.map_congr_left fun x _ => rfl).trans (List.map_id _)))
  · rw [List.pairwise_map]
    exact hs.imp fun h => Int.toNat_le_toNat h
set_option maxRecDepth 100000 in
set_option maxHeartbeats 8000000 in
theorem rof_t (A : Option Addr) (c : Nat) (l : List Cr) (who p : Nat) (args : Int) (Γ : List HP) (h : Crs A l Γ) (hl : l.length ≤ 50) :
    FnV Try.prog 19 [.slice A l.length c, .int .u32 (who : Int), .int .u32 (p : Int), .int .i64 args] Γ fun v Γ' => ∃ (O : List Nat) (B : Option Addr) (k : Nat) (Γ2 : List HP), OfSpec l who p args O ∧ O.length ≤ 200000 ∧ Γ.Sublist Γ2 ∧ v = .slice B O.length k ∧ Γ' = own 31 1 (.slice B O.length k) O.length (u32s O) :: Γ2 := by
  refine Fn.enter Try.func19 rfl rfl rfl fun E => ?_
  refine m_run ?_
  (apply TL.callV; exact rfl; exact callB_of (by kernel_rfl); exact rfl; exact fun _ h => h)
  exact walked_t A c l who p args who _ h hl
  rintro _ _ ⟨bw, O, ko, out, f, Γ3, rfl, rfl, hsub, hf, hst⟩
  have hKl : (linksOf l p args).length ≤ 50 := Nat.le_trans (linksOf_len l p args) hl
  have hspec : out.Nodup ∧ out.length ≤ 200000 ∧ ∀ v, v ∈ out ↔ (predS p args true 0).2 = true ∧ ∃ s ∈ Rch.allC (linksOf l p args) (nxL l) (who, 3) 4, s.1.1 = v := by
    have h1 := congrArg Prod.fst hst
    simp only at h1
    cases hp : (predS p args true 0).2 with
    | false =>
      rw [hp, if_neg (by decide)] at h1
      simp only at h1
      subst h1
      exact ⟨List.nodup_nil, Nat.zero_le _, by simp⟩
    | true =>
      rw [hp, if_pos rfl] at h1
      obtain ⟨s1, s2, _⟩ := rchP_spec who (Rch.allC (linksOf l p args) (nxL l) (who, 3) 4) ([], none) List.nodup_nil
      have s3 := rchP_len who (Rch.allC (linksOf l p args) (nxL l) (who, 3) 4) ([], none)
      have s4 := Rch.allC_len (linksOf l p args) (nxL l) (who, 3) hKl
      rw [← h1] at s1 s2 s3
      simp only [List.length_nil] at s3
      exact ⟨s1, by omega, fun v => by rw [s2]; simp⟩
  obtain ⟨hnd, hol, hmem⟩ := hspec
  clear hst
  generalize hR : wkRow bw A l.length c p args O out.length ko who f :: Γ3 = R
  have hsubR : Γ.Sublist R := by rw [← hR]; exact .cons _ hsub
  have hcell : has R (fun m => cellAt m bw 3 (.slice O out.length ko)) := by rw [← hR]; exact has_row 0 rfl rfl
  clear hR hf
  refine m_run ?_
  by_cases h0 : out.length = 0
  · refine TK.loop ?_
    refine m_run ?_
    (apply TK.ret1; exact rfl; exact rfl; (exact m_val))
    exact ⟨_, rfl, out, O, ko, R, ⟨by rw [List.eq_nil_of_length_eq_zero h0]; exact List.Pairwise.nil, hmem⟩, hol, hsubR, rfl, rfl⟩
  refine TK.mem fun m0 hm0 => ?_
  obtain ⟨b, rfl⟩ : ∃ b, O = some ⟨b, 0, none⟩ := by
    obtain ⟨m1, m2, _, _, h1, _⟩ := hm0
    obtain ⟨_, ⟨_, h, _⟩ | ⟨g, cap, cur, hv, _⟩⟩ := h1
    · omega
    · injection hv with hv _ _
      exact ⟨g, hv⟩
  clear hm0 m0 hcell
  obtain ⟨d0, hd0⟩ : ∃ d0 : Array Int, d0 = (out.map fun n : Nat => (n : Int)).toArray := ⟨_, rfl⟩
  have hsz0 : d0.size = out.length := by rw [hd0]; simp
  have hl0 : d0.toList = out.map fun n : Nat => (n : Int) := by rw [hd0]
  refine TK.imp (Δ := SU.DD b ko out.length d0 :: R) (fun _ h => by show all (own _ _ _ _ (nums .u32 d0.toList) :: _) _; rw [hl0, SU.nums_u32s]; exact h) ?_
  generalize hX : insOuter ltInt 0 out.length 0 d0 = X
  have hXs : X.toList.Perm (out.map fun n : Nat => (n : Int)) ∧ X.toList.Pairwise (· ≤ ·) ∧ X.size = out.length := by
    have e : X = insertionSort ltInt d0 0 out.length := by
      rw [← hX, insOuter, if_pos (by omega)]
      show insOuter ltInt 0 out.length 1 (insInner ltInt 0 0 d0) = insOuter ltInt 0 out.length 1 d0
      congr 1
      unfold insInner
      rfl
    obtain ⟨q1, q2⟩ := insertionSort_holds swo_ltInt d0 0 out.length (Nat.zero_le _) (by omega)
    rw [← e] at q1 q2
    have hs1 : X.size = d0.size := q1.1
    refine ⟨hl0 ▸ SU.perm_whole (by rw [hsz0]; exact q1), SU.sorted_whole (by rw [hs1, hsz0]; exact q2), by omega⟩
  have hol' : out.length ≤ 200000 := hol
  generalize hN : out.length = n at *
  apply TK.iter (fun j ρ' Γ' => ∃ (i : Nat) (d : Array Int), i + j = n ∧ d.size = n ∧ insOuter ltInt 0 n i d = X ∧ lk ρ' 9 = .slice (some ⟨b, 0, none⟩) n ko ∧ lk ρ' 10 = .int .i64 (i : Int) ∧ Γ' = SU.DD b ko n d :: R) n
  · exact ⟨0, d0, by omega, hsz0, hX, rfl, rfl, rfl⟩
  clear hX hsz0 hl0 hd0
  rintro j IH ρ' _ ⟨i, d, hij, hsz, hX, e9, e10, rfl⟩
  refine TK.know2 e9 e10 ?_
  by_cases hi : i < n
  · rw [insOuter, if_pos hi] at hX
    refine m_run ?_
    generalize hY : insInner ltInt 0 i d = Y at hX
    apply TK.iter (fun j ρ' Γ' => ∃ (d : Array Int), j ≤ i ∧ d.size = n ∧ insInner ltInt 0 j d = Y ∧ lk ρ' 9 = .slice (some ⟨b, 0, none⟩) n ko ∧ lk ρ' 10 = .int .i64 (i : Int) ∧ lk ρ' 11 = .int .i64 (j : Int) ∧ Γ' = SU.DD b ko n d :: R) i
    · exact ⟨d, Nat.le_refl _, hsz, hY, rfl, rfl, rfl, rfl⟩
    clear hY hsz
    rintro q IH2 ρ2 _ ⟨d, hqi, hsz, hY, f9, f10, f11, rfl⟩
    refine TK.know3 f9 f10 f11 ?_
    have hfin : d = Y → Y.size = n ∧ insOuter ltInt 0 n (i + 1) Y = X := fun h => ⟨h ▸ hsz, hX⟩
    by_cases hk : 0 < q
    · obtain ⟨p1, rfl⟩ : ∃ p, q = p + 1 := ⟨q - 1, by omega⟩
      unfold insInner at hY
      have hc1 := SU.cellD (b := b) (c := ko) (Γ := R) hsz (show p1 + 1 < n by omega)
      have hc2 := SU.cellD (b := b) (c := ko) (Γ := R) hsz (show p1 < n by omega)
      refine m_run ?_
      refine TK.drawS mixed rfl ?_
      refine m_take (At.mk : At 0) ?_; refine m_take (At.mk : At 1) ?_; refine m_take (At.mk : At 2) ?_
      refine TA.isT 30 rfl (decide_eq_true (by omega)) ?_
      refine m_take (At.mk : At 3) ?_; refine m_take (At.mk : At 4) ?_; refine m_take (At.mk : At 5) ?_
      refine TA.know (t := 33) (v := .int .i64 ((p1 : Nat) : Int)) (congrArg (Value.int .i64) (by rw [i64_in (by omega) (by omega)]; omega)) ?_
      refine m_take (At.mk : At 6) ?_; refine m_take (At.mk : At 7) ?_; refine m_take (At.mk : At 8) ?_; refine m_take (At.mk : At 9) ?_; refine m_take (At.mk : At 10) ?_; refine m_take (At.mk : At 11) ?_; refine m_take (At.mk : At 12) ?_
      by_cases hlt : d[p1 + 1]! < d[p1]!
      · rw [if_pos (by simp [ltInt, hlt])] at hY
        refine TA.isT 40 rfl (decide_eq_true hlt) ?_
        refine m_take (At.mk : At 13) ?_
        refine TA.done (by kernel_rfl) ?_
        refine m_run ?_
        refine TK.drawB mixed rfl 15 (SU.DD b ko n d :: R) (R) ?_
        refine m_bake (At.mk : At 0) ?_; refine m_bake (At.mk : At 1) ?_; refine m_bake (At.mk : At 2) ?_
        refine TB.know (t := 46) (v := .int .i64 ((p1 : Nat) : Int)) (congrArg (Value.int .i64) (by rw [i64_in (by omega) (by omega)]; omega)) ?_
        refine m_bake (At.mk : At 3) ?_; refine m_bake (At.mk : At 4) ?_; refine m_bake (At.mk : At 5) ?_; refine m_bake (At.mk : At 6) ?_; refine m_bake (At.mk : At 7) ?_; refine m_bake (At.mk : At 8) ?_; refine m_bake (At.mk : At 9) ?_; refine m_bake (At.mk : At 10) ?_; refine m_bake (At.mk : At 11) ?_
        refine TB.know (t := 55) (v := .int .i64 ((p1 : Nat) : Int)) (congrArg (Value.int .i64) (by rw [i64_in (by omega) (by omega)]; omega)) ?_
        refine m_bake (At.mk : At 12) ?_; refine m_bake (At.mk : At 13) ?_; refine m_bake (At.mk : At 14) ?_
        (apply TB.last; kernel_rfl; exact rfl)
        (apply TL.storeOwn 0 (p1); exact rfl; exact rfl; exact rfl; exact rfl; exact tb rfl; exact rfl; exact (Nat.zero_add _).symm; exact (by omega))
        refine TL.back (by (focus ((repeat (first | assumption | exact Ent.refl _ | apply Ent.tail)); done))) ?_
        refine m_take (At.mk : At 16) ?_
        (apply TA.one 17; kernel_rfl; exact rfl)
        (apply TL.storeOwn 0 (p1 + 1); exact rfl; exact rfl; exact rfl; exact rfl; exact tb rfl; exact rfl; exact (Nat.zero_add _).symm; exact (by omega))
        refine TL.back (by (focus ((repeat (first | assumption | exact Ent.refl _ | apply Ent.tail)); done))) ?_
        refine TA.done (by kernel_rfl) ?_
        refine TK.imp (Δ := SU.DD b ko n (swp d (p1 + 1) p1) :: R) (fun _ h => by show all (own _ _ _ _ (nums _ (swp d (p1 + 1) p1).toList) :: _) _; rw [← swp_comm, ← SU.swpD]; exact h) ?_
        have hsz2 : (swp d (p1 + 1) p1).size = n := (size_swp _ _ _).trans hsz
        clear hc1 hc2
        refine m_run ?_
        exact IH2 p1 _ _ (by omega) ⟨_, by omega, hsz2, hY, rfl, rfl, congrArg (Value.int .i64) (by rw [i64_in (by omega) (by omega)]; omega), rfl⟩
      · rw [if_neg (by simp [ltInt, hlt])] at hY
        obtain ⟨g1, g2⟩ := hfin hY
        refine TA.isF 40 rfl (decide_eq_false hlt) ?_
        refine m_take (At.mk : At 13) ?_
        refine TA.done (by kernel_rfl) ?_
        rw [hY]
        refine m_run ?_
        exact IH (j - 1) _ _ (by omega) ⟨i + 1, Y, by omega, g1, g2, rfl, congrArg (Value.int .i64) (i64_succ i (by omega)), rfl⟩
    · have hY2 : d = Y := by
        rw [← hY, show q = 0 by omega]
        unfold insInner
        rfl
      obtain ⟨g1, g2⟩ := hfin hY2
      rw [hY2]
      refine m_run ?_
      refine TK.drawS mixed rfl ?_
      refine m_take (At.mk : At 0) ?_; refine m_take (At.mk : At 1) ?_; refine m_take (At.mk : At 2) ?_
      refine TA.isF 30 rfl (decide_eq_false (by omega)) ?_
      refine m_take (At.mk : At 3) ?_; refine m_take (At.mk : At 4) ?_; refine m_take (At.mk : At 5) ?_; refine m_take (At.mk : At 6) ?_; refine m_take (At.mk : At 7) ?_; refine m_take (At.mk : At 8) ?_; refine m_take (At.mk : At 9) ?_; refine m_take (At.mk : At 10) ?_; refine m_take (At.mk : At 11) ?_; refine m_take (At.mk : At 12) ?_; refine m_take (At.mk : At 13) ?_
      refine TA.done (by kernel_rfl) ?_
      refine m_run ?_
      exact IH (j - 1) _ _ (by omega) ⟨i + 1, Y, by omega, g1, g2, rfl, congrArg (Value.int .i64) (i64_succ i (by omega)), rfl⟩
  rw [insOuter, if_neg hi] at hX
  obtain ⟨hXp, hXo, hXz⟩ := hXs
  obtain ⟨L, hL1, hL2, hL3⟩ := back_nat hXp hXo
  have hLn : L.length = n := hL2.length_eq.trans hN
  rw [hX]
  refine TK.imp (Δ := own 31 1 (.slice (some ⟨b, 0, none⟩) n ko) n (u32s L) :: R) (by rw [← hL1]; exact fun _ h => h) ?_
  clear hX hXo hXp hL1 IH
  subst hLn
  refine m_run ?_
  (apply TK.ret1; exact rfl; exact rfl; (exact m_val))
  refine ⟨_, rfl, L, _, ko, R, ⟨?_, fun v => by rw [hL2.mem_iff, hmem]⟩, hol, hsubR, rfl, rfl⟩
  have h1 : L.Pairwise (· ≠ ·) := hL2.nodup_iff.2 hnd
  exact (List.pairwise_and_iff.2 ⟨hL3, h1⟩).imp fun ⟨a, b⟩ => Nat.lt_of_le_of_ne a b
end Go.Proofs.Ythbcfamfaicneaa.E
