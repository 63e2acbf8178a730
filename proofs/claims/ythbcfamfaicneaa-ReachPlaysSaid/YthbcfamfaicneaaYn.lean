/- Of, as the program tells it, walked. -/
import Derived.Test.YthbcfamfaicneaaYm
import Derived.Test.YthbcfamfaicneaaTwB
import Derived.Test.YthbcfamfaicneaaTiB
namespace Go.Proofs.Ythbcfamfaicneaa.E
open Go Go.RowKit Go.Proofs
attribute [local irreducible] TK TL TQ TA TB Fn PV
namespace Rch
theorem flat_len {α β : Type} (f : α → List β) (k : Nat) : ∀ L : List α, (∀ x ∈ L, (f x).length ≤ k) → (L.flatMap f).length ≤ L.length * k
  | [], _ => by simp
  | x :: L, h => by
    rw [List.flatMap_cons, List.length_append, List.length_cons, Nat.add_mul]
    have h1 := h x (List.mem_cons_self ..)
    have h2 := flat_len f k L fun y hy => h y (List.mem_cons_of_mem _ hy)
    omega
theorem chs_len (K : List Nat) (nx : Sp → Nat → Option Sp) (s0 : Sp) : ∀ n, (chs K nx s0 n).length ≤ K.length ^ n
  | 0 => Nat.le_refl _
  | n + 1 => by
    rw [Nat.pow_succ]
    exact Nat.le_trans (flat_len _ K.length _ fun x _ => List.length_filterMap_le _ _) (Nat.mul_le_mul_right _ (chs_len K nx s0 n))
theorem fresh_len : ∀ (L : List Stp) (S : List Sp), (fresh S L).length ≤ L.length
  | [], _ => Nat.le_refl _
  | s :: L, S => by
    rw [fresh]
    split
    · exact Nat.le_succ_of_le (fresh_len L S)
    · exact Nat.succ_le_succ (fresh_len L _)
theorem allC_len (K : List Nat) (nx : Sp → Nat → Option Sp) (s0 : Sp) (h : K.length ≤ 50) : (allC K nx s0 4).length ≤ 200000 := by
  rw [allC_succ, allC_succ, allC_succ, allC_succ]
  simp only [List.length_append]
  have h1 := chs_len K nx s0
  have p1 := Nat.pow_le_pow_left h 1
  have p2 := Nat.pow_le_pow_left h 2
  have p3 := Nat.pow_le_pow_left h 3
  have c0 := h1 0
  have c1 := h1 1
  have c2 := h1 2
  have c3 := h1 3
  have h0 : (allC K nx s0 0).length = 0 := rfl
  have e0 : K.length ^ 0 = 1 := rfl
  have e1 : 50 ^ 1 = 50 := rfl
  have e2 : 50 ^ 2 = 2500 := rfl
  have e3 : 50 ^ 3 = 125000 := rfl
  omega
end Rch
theorem compL_up : ∀ {D : List Nat}, D.Pairwise (· ≤ ·) → (compL D).Pairwise (· < ·)
  | [], _ => List.Pairwise.nil
  | [x], _ => List.pairwise_singleton _ _
  | x :: y :: l, h => by
    have h1 : compL (x :: y :: l) = if x = y then compL (y :: l) else x :: compL (y :: l) := rfl
    obtain ⟨h2, h3⟩ := List.pairwise_cons.1 h
    have ih := compL_up h3
    rw [h1]
    split
    · exact ih
    · rename_i hne
      refine List.pairwise_cons.2 ⟨fun z hz => ?_, ih⟩
      have hz' := (compL_mem _ _).1 hz
      have hy := h2 y (List.mem_cons_self ..)
      rcases List.mem_cons.1 hz' with rfl | hz'
      · omega
      · have := (List.pairwise_cons.1 h3).1 z hz'
        omega
theorem all_free {H : HP} {Γ : List HP} {m : Mem} (hH : ∀ m, emp m → H m) (h : all Γ m) : all (H :: Γ) m := sep_mono (sep_comm (sep_emp h)) hH (fun _ => id)
/-- Who is reached: told once, in order. -/
def OfSpec (l : List Cr) (who p : Nat) (args : Int) (O : List Nat) : Prop := O.Pairwise (· < ·) ∧ ∀ v, v ∈ O ↔ (predS p args true 0).2 = true ∧ ∃ s ∈ Rch.allC (linksOf l p args) (nxL l) (who, 3) 4, s.1.1 = v
theorem unskip_no (K : List Nat) : unskip K (-1) = K := by
  unfold unskip
  exact List.filter_eq_self.2 fun i _ => by simp
def TOf (b : Nat) (L : List Wy) : HP := fun m => ∃ p : Option Addr × Nat, sep (own 31 1 (.slice p.1 (L.map Wy.pos).length p.2) (L.map Wy.pos).length (u32s (L.map Wy.pos))) (row b [.slice p.1 (L.map Wy.pos).length p.2] 32) m
set_option maxRecDepth 100000 in
theorem ofc_t (b : Nat) (L : List Wy) (s : Wy) (Γ : List HP) (hl : L.length ≤ 10000000000) :
    FnV Try.prog 38 [.agg (spotL (s.pos, s.left)).toArray, .slice s.A s.w.length s.c, .pointer (some ⟨b, 0, none⟩)] (TOf b L :: Γ) fun v Γ' => v = .tuple #[] ∧ Γ' = TOf b (L ++ [s]) :: Γ := by
  show Fn _ _ _ _ _
  refine Fn.ex fun p => ?_
  obtain ⟨A, c⟩ := p
  refine Fn.imp (Δ := own 31 1 (.slice A (L.map Wy.pos).length c) (L.map Wy.pos).length (u32s (L.map Wy.pos)) :: row b [.slice A (L.map Wy.pos).length c] 32 :: Γ) ?_ (fun m hm => sep_assoc hm)
  have hlm : (L.map Wy.pos).length = L.length := List.length_map _
  have hsn : (L ++ [s]).map Wy.pos = L.map Wy.pos ++ [s.pos] := by simp
  unfold TOf
  rw [hsn]
  generalize L.map Wy.pos = D at *
  refine Fn.enter Try.func38 rfl rfl rfl fun E => ?_
  refine m_run ?_
  (apply TL.box; exact rfl; exact rfl; (exact m_lst))
  intro b3
  refine TL.imp (Δ := row b3 [.int .u32 (s.pos : Int), .int .i64 (s.left : Int)] 91 :: own 31 1 (.slice A D.length c) D.length (u32s D) :: row b [.slice A D.length c] 32 :: Γ) (fun _ h => h) ?_
  refine m_run ?_
  (apply TL.buildSlice (l := u32s [s.pos]); exact rfl; exact tb rfl; exact rfl; exact tb rfl; exact rfl; exact rfl; exact rfl; exact rfl; exact rfl)
  intro b8
  refine m_run ?_
  (apply TL.append 2; exact rfl; exact rfl; exact tb rfl; exact rfl; exact tb rfl; exact rfl; exact rfl; exact rfl)
  · exact fun _ h => h
  · exact rfl
  · exact has_src_row 0 rfl rfl
  · exact u32s_one [s.pos]
  · show (D.length + 1) * 4 ≤ _; omega
  · show D.length + 1 ≤ maxLen; unfold maxLen; omega
  · exact fun _ => (rfl : _ = _ :: _ :: _ :: _)
  intro A2 c2 hc2
  rw [show u32s D ++ u32s [s.pos] = u32s (D ++ [s.pos]) by simp [u32s], show D.length + 1 = (D ++ [s.pos]).length by simp]
  refine m_run ?_
  refine TK.sub (Δ := own 31 1 (.slice A2 (D ++ [s.pos]).length c2) (D ++ [s.pos]).length (u32s (D ++ [s.pos])) :: row b [.slice A2 (D ++ [s.pos]).length c2] 32 :: Γ) (by (repeat (first | exact List.Sublist.refl _ | apply List.Sublist.cons_cons | apply List.Sublist.cons))) ?_
  refine TK.imp (Δ := (fun m => ∃ p : Option Addr × Nat, sep (own 31 1 (.slice p.1 (D ++ [s.pos]).length p.2) (D ++ [s.pos]).length (u32s (D ++ [s.pos]))) (row b [.slice p.1 (D ++ [s.pos]).length p.2] 32) m) :: Γ) (fun m hm => sep_mono (sep_assoc' hm) (fun q hq => ⟨(A2, c2), hq⟩) (fun _ => id)) ?_
  exact TK.over0 rfl rfl ⟨_, rfl, rfl, rfl⟩
set_option maxRecDepth 100000 in
set_option maxHeartbeats 4000000 in
theorem ofR_t (A : Option Addr) (c : Nat) (l : List Cr) (who p : Nat) (args : Int) (Γ : List HP) (h : Crs A l Γ) (hl : l.length ≤ 50) :
    FnV Try.prog 18 [.slice A l.length c, .int .u32 (who : Int), .int .u32 (p : Int), .int .i64 args] Γ fun v Γ' => ∃ (O : List Nat) (B : Option Addr) (k : Nat) (Γ2 : List HP), OfSpec l who p args O ∧ O.length ≤ 200000 ∧ Γ.Sublist Γ2 ∧ v = .slice B O.length k ∧ Γ' = own 31 1 (.slice B O.length k) O.length (u32s O) :: Γ2 := by
  refine Fn.enter Try.func18 rfl rfl rfl fun E => ?_
  refine m_run ?_
  (apply TL.alloc; exact rfl; exact tb rfl; exact (rfl : _ = [_]))
  intro b9
  refine m_run ?_
  (apply TL.callV; exact rfl; exact callB_of (by kernel_rfl); exact rfl; exact fun _ h => h)
  exact of_t A c l p args _ (Crs.tl h)
  rintro _ _ ⟨B, k, hk, rfl, rfl⟩
  refine m_run ?_
  (apply TL.pv; exact rfl; (apply PV.makeFunc; exact rfl; exact rfl))
  refine m_run ?_
  have hKl : (linksOf l p args).length ≤ 50 := Nat.le_trans (linksOf_len l p args) hl
  have hKd : ∀ i ∈ linksOf l p args, ∃ x, l[i]? = some x ∧ 0 ≤ x.dep ∧ x.dep ≤ 3 := fun i hi => by
    obtain ⟨x, hx, hb⟩ := linksOf_mem.1 hi
    exact ⟨x, hx, linkB_dep hb⟩
  (apply TL.callV (Δ := TOf b9 [] :: own 3 1 (.slice B (linksOf l p args).length k) (linksOf l p args).length (ints (linksOf l p args)) :: Γ); exact rfl; exact callB_of (by kernel_rfl); exact rfl; exact fun m hm => sep_mono (sep_assoc' (all_free (fun _ h => own_nil 31 1 h) (all_perm (.swap _ _ _) hm))) (fun q hq => ⟨(none, 0), hq⟩) (fun _ => id))
  exact rounds_t A B c k l (linksOf l p args) (predS p args true 0).2 who (-1) 38 [.pointer (some ⟨b9, 0, none⟩)] (TOf b9) (own 3 1 (.slice B (linksOf l p args).length k) (linksOf l p args).length (ints (linksOf l p args)) :: Γ) (Crs.tl h) (has_at (up_src _ _ _ _) 0 rfl fun _ h => own_src h) (by omega) hKd (callB_of (by kernel_rfl)) (fun L s Γ' hL _ _ => ofc_t b9 L s Γ' hL)
  rintro _ _ ⟨rfl, L, Γ2, rfl, hsub, hok, hL⟩
  rw [unskip_no] at hL
  refine TL.nil ?_
  refine TK.ex fun q => ?_
  obtain ⟨A1, c1⟩ := q
  refine TK.imp (Δ := own 31 1 (.slice A1 (L.map Wy.pos).length c1) (L.map Wy.pos).length (u32s (L.map Wy.pos)) :: row b9 [.slice A1 (L.map Wy.pos).length c1] 32 :: Γ2) (fun m hm => sep_assoc hm) ?_
  have hpos : ∀ v, v ∈ L.map Wy.pos ↔ (predS p args true 0).2 = true ∧ ∃ s ∈ Rch.allC (linksOf l p args) (nxL l) (who, 3) 4, s.1.1 = v := fun v => by
    have h1 : L.map Wy.pos = (L.map pureY).map fun s => s.1.1 := by rw [List.map_map]; rfl
    rw [h1, hL]
    cases (predS p args true 0).2 with
    | false => simp
    | true =>
      rw [if_pos rfl]
      have h2 := Rch.fresh_mem (Rch.allC (linksOf l p args) (nxL l) (who, 3) 4) []
      simp only [List.nil_append, List.not_mem_nil, false_or, List.mem_map] at h2
      simp only [List.mem_map, true_and]
      constructor
      · rintro ⟨s, hs, rfl⟩
        obtain ⟨t, ht, hts⟩ := (h2 s.1).1 ⟨s, hs, rfl⟩
        exact ⟨t, ht, by rw [hts]⟩
      · rintro ⟨s, hs, rfl⟩
        obtain ⟨t, ht, hts⟩ := (h2 s.1).2 ⟨s, hs, rfl⟩
        exact ⟨t, ht, by rw [hts]⟩
  have hlenL : (L.map Wy.pos).length ≤ 200000 := by
    have h1 : (L.map Wy.pos).length = (L.map pureY).length := by simp
    rw [h1, hL]
    split
    · exact Nat.le_trans (Rch.fresh_len _ _) (Rch.allC_len _ _ _ hKl)
    · exact Nat.zero_le _
  generalize L.map Wy.pos = D at *
  refine m_run ?_
  (apply TL.callV (Δ := own 31 1 (.slice A1 D.length c1) D.length (u32s D) :: row b9 [.slice A1 D.length c1] 32 :: Γ2); exact rfl; exact callB_of (by kernel_rfl); exact rfl; exact fun _ h => h)
  exact SU.sortN_t A1 c1 D _ (by omega)
  rintro _ _ ⟨rfl, D2, hp2, hs2, rfl⟩
  have hlen2 := hp2.length_eq
  rw [← hlen2] at hlenL ⊢
  refine m_run ?_
  (apply TL.callV; exact rfl; exact callB_of (by kernel_rfl); exact rfl; exact fun _ h => h)
  exact compact_t A1 c1 D2 _ (by omega)
  rintro _ _ ⟨rfl, rfl⟩
  refine m_run ?_
  (apply TK.retS1; exact rfl; exact rfl; (exact m_val))
  refine ⟨_, rfl, compL D2, A1, c1, row b9 [.slice A1 D2.length c1] 32 :: Γ2, ⟨compL_up hs2, fun v => ?_⟩, Nat.le_trans (compL_len D2) hlenL, .cons _ ((List.sublist_cons_self _ _).trans hsub), rfl, rfl⟩
  · rw [compL_mem, hp2.mem_iff, hpos]
  · (repeat (first | exact List.Sublist.refl _ | apply List.Sublist.cons_cons | apply List.Sublist.cons))
end Go.Proofs.Ythbcfamfaicneaa.E
