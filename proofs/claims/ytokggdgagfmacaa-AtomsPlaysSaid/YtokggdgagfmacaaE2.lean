/- The document's Vars: walked. -/
import Derived.Test.YtokggdgagfmacaaE1
namespace Go.Proofs.Ytokggdgagfmacaa.E
open Go Go.RowKit Go.Proofs
theorem ins_sorted {D : List Nat} {k N : Nat} (hD : D.Pairwise (· < ·)) (hk : k ≤ D.length) (hgt : ∀ y ∈ D.drop k, N < y) (hlt : k = 0 ∨ ∃ y, D[k - 1]? = some y ∧ y < N) : (D.take k ++ [N] ++ D.drop k).Pairwise (· < ·) := by
  have hle : ∀ z ∈ D.take k, z < N := fun z hz => by
    rcases hlt with h | ⟨y, hy, hyx⟩
    · subst h; simp at hz
    · obtain ⟨q, hq, hqz⟩ := List.getElem_of_mem hz
      rw [List.length_take] at hq
      rw [List.getElem_take] at hqz
      have hkl : k - 1 < D.length := (List.getElem?_eq_some_iff.1 hy).1
      have hyv : D[k - 1] = y := (List.getElem?_eq_some_iff.1 hy).2
      rcases Nat.lt_or_ge q (k - 1) with h1 | h1
      · have := List.pairwise_iff_getElem.1 hD q (k - 1) (by omega) hkl h1
        omega
      · have : q = k - 1 := by omega
        subst this
        omega
  have hsp : (D.take k ++ D.drop k).Pairwise (· < ·) := by rw [List.take_append_drop]; exact hD
  obtain ⟨s1, s2, s3⟩ := List.pairwise_append.1 hsp
  rw [List.append_assoc]
  refine List.pairwise_append.2 ⟨s1, List.pairwise_cons.2 ⟨fun z hz => hgt z hz, s2⟩, fun z hz w hw => ?_⟩
  rcases List.mem_cons.1 hw with rfl | hw
  · exact hle z hz
  · exact s3 z hz w hw
theorem ins_mem {D : List Nat} {k N x : Nat} : x ∈ D.take k ++ [N] ++ D.drop k ↔ x ∈ D ∨ x = N := by
  constructor
  · intro h
    rcases List.mem_append.1 h with h | h
    · rcases List.mem_append.1 h with h | h
      · exact .inl (List.mem_of_mem_take h)
      · exact .inr (by simpa using h)
    · exact .inl (List.mem_of_mem_drop h)
  · rintro (h | rfl)
    · rw [← List.take_append_drop k D] at h
      rcases List.mem_append.1 h with h | h
      · exact List.mem_append_left _ (List.mem_append_left _ h)
      · exact List.mem_append_right _ h
    · exact List.mem_append_left _ (List.mem_append_right _ (by simp))
theorem strict_unique : ∀ {D E : List Nat}, D.Pairwise (· < ·) → E.Pairwise (· < ·) → (∀ x, x ∈ D ↔ x ∈ E) → D = E := by
  intro D E hD hE h
  have nd : D.Nodup := hD.imp fun h => Nat.ne_of_lt h
  have ne : E.Nodup := hE.imp fun h => Nat.ne_of_lt h
  have hp : D.Perm E := (List.perm_ext_iff_of_nodup nd ne).2 h
  exact sorted_unique hp (hD.imp Nat.le_of_lt) (hE.imp Nat.le_of_lt)
theorem compL_strict : ∀ {D : List Nat}, D.Pairwise (· ≤ ·) → (compL D).Pairwise (· < ·)
  | [], _ => List.Pairwise.nil
  | [a], _ => List.pairwise_singleton _ _
  | a :: b :: l, h => by
    obtain ⟨h1, h2⟩ := List.pairwise_cons.1 h
    have ih := compL_strict h2
    have e : compL (a :: b :: l) = if a = b then compL (b :: l) else a :: compL (b :: l) := rfl
    rw [e]
    split
    · exact ih
    · rename_i hab
      refine List.pairwise_cons.2 ⟨fun x hx => ?_, ih⟩
      have hx := (compL_mem _ _).1 hx
      rcases List.mem_cons.1 hx with rfl | hx2
      · exact Nat.lt_of_le_of_ne (h1 _ (by simp)) hab
      · have := (List.pairwise_cons.1 h2).1 x hx2
        have := h1 b (by simp)
        omega
attribute [local irreducible] TK TL TQ TA TB Fn PV
set_option maxRecDepth 100000 in
set_option maxHeartbeats 4000000 in
theorem rvars_t (a : Atm) (Γ : List HP) (h : a.ok Γ) (hn : a.l.length ≤ 100000) :
    FnV Try.prog 48 [.agg a.cells.toArray] Γ fun v Γ' => ∃ (D : List Nat) (B : Option Addr) (k : Nat), D.Pairwise (· < ·) ∧ (∀ x, x ∈ D ↔ x ∈ varsOf a.l) ∧ D.length ≤ k ∧ v = .slice B D.length k ∧ Γ' = own 23 1 (.slice B D.length k) D.length (u32s D) :: Γ := by
  refine Fn.enter Try.func48 rfl rfl rfl fun E => ?_
  obtain ⟨p, A, c, l⟩ := a
  have hs0 : has Γ (srcAt 2 A l.length (tmsC l)) := h.1
  replace hn : l.length ≤ 100000 := hn
  refine m_run ?_
  (apply TL.box; exact rfl; exact rfl; (exact m_lst))
  intro b1
  refine m_run ?_
  refine TK.imp (Δ := row b1 [.int .u32 (p : Int), .slice A l.length c] 42 :: Γ) (fun _ h => h) ?_
  refine TK.free (H := own 23 1 (.slice none 0 0) 0 []) (fun m h => own_nil _ _ h) ?_
  apply TK.iter (fun j ρ' Γ' => ∃ (i : Nat) (D : List Nat) (B : Option Addr) (k : Nat), i + j = l.length ∧ D.Pairwise (· < ·) ∧ (∀ x, x ∈ D ↔ x ∈ varsOf (l.take i)) ∧ D.length ≤ i ∧ D.length ≤ k ∧ lk ρ' 1 = .pointer (some ⟨b1, 0, none⟩) ∧ lk ρ' 3 = .slice B D.length k ∧ lk ρ' 4 = .int .i64 (i : Int) ∧ Γ' = own 23 1 (.slice B D.length k) D.length (u32s D) :: row b1 [.int .u32 (p : Int), .slice A l.length c] 42 :: Γ) l.length
  · exact ⟨0, [], none, 0, Nat.zero_add _, List.Pairwise.nil, fun x => by simp [varsOf], Nat.le_refl _, Nat.le_refl _, rfl, rfl, rfl, rfl⟩
  rintro j IH ρ' _ ⟨i, D, B, k, hij, hD, hmem, hDi, hDk, e1, e3, e4, rfl⟩
  refine TK.know3 e1 e3 e4 ?_
  by_cases hi : i < l.length
  · obtain ⟨x, hx⟩ : ∃ x, l[i]? = some x := ⟨l[i], List.getElem?_eq_getElem hi⟩
    have hsn := varsOf_snoc (l.take i) x
    rw [show l.take i ++ [x] = l.take (i + 1) by rw [List.take_add_one, hx]; rfl] at hsn
    refine TK.mem fun m0 hm0 => ?_
    obtain ⟨b, o, rfl⟩ := src_some (has_tls (has_tls hs0) m0 hm0) (by rw [tmsC_len]; omega)
    clear hm0 m0
    have hel := has_el (f := tmC) (fun _ => rfl) (by decide) hs0 hx
    have hel0 : has Γ (fun z => cellAt z b (o + i * 2 + 0) (.bool x.v)) := has_cell hel 0 rfl
    have hel1 : has Γ (fun z => cellAt z b (o + i * 2 + 1) (.int .u32 (x.n : Int))) := has_cell hel 1 rfl
    cases hxv : x.v with
    | false =>
      rw [hxv] at hsn hel0
      refine m_run ?_
      exact IH (j - 1) _ _ (by omega) ⟨i + 1, D, B, k, by omega, hD, by rw [hsn]; exact hmem, by omega, hDk, rfl, rfl, congrArg (Value.int .i64) (i64_succ i (by omega)), rfl⟩
    | true =>
      rw [hxv] at hsn hel0
      simp only [if_true] at hsn
      have hnew : ∀ y, y ∈ D ∨ y = x.n ↔ y ∈ varsOf (l.take (i + 1)) := fun y => by rw [hsn, List.mem_append, hmem]; simp
      refine m_run ?_
      apply TK.iter (fun q ρ' Γ' => q ≤ D.length ∧ (∀ y ∈ D.drop q, x.n < y) ∧ lk ρ' 1 = .pointer (some ⟨b1, 0, none⟩) ∧ lk ρ' 3 = .slice B D.length k ∧ lk ρ' 4 = .int .i64 (i : Int) ∧ lk ρ' 5 = .int .i64 (q : Int) ∧ Γ' = own 23 1 (.slice B D.length k) D.length (u32s D) :: row b1 [.int .u32 (p : Int), .slice (some ⟨b, o, none⟩) l.length c] 42 :: Γ) D.length
      · exact ⟨Nat.le_refl _, by rw [List.drop_length]; simp, rfl, rfl, rfl, rfl, rfl⟩
      rintro q IH2 ρ2 _ ⟨hq, hgt, f1, f3, f4, f5, rfl⟩
      refine TK.know4 f1 f3 f4 f5 ?_
      rcases Nat.eq_zero_or_pos q with hq0 | hq0
      · have hlt : q = 0 ∨ ∃ y, D[q - 1]? = some y ∧ y < x.n := .inl hq0
        refine m_run ?_
        refine TK.drawS mixed rfl ?_
        refine m_take (At.mk : At 0) ?_; refine m_take (At.mk : At 1) ?_
        refine TA.isF 24 rfl (decide_eq_false (by omega)) ?_
        refine m_take (At.mk : At 2) ?_; refine m_take (At.mk : At 3) ?_; refine m_take (At.mk : At 4) ?_; refine m_take (At.mk : At 5) ?_; refine m_take (At.mk : At 6) ?_; refine m_take (At.mk : At 7) ?_; refine m_take (At.mk : At 8) ?_; refine m_take (At.mk : At 9) ?_; refine m_take (At.mk : At 10) ?_; refine m_take (At.mk : At 11) ?_; refine m_take (At.mk : At 12) ?_; refine m_take (At.mk : At 13) ?_; refine m_take (At.mk : At 14) ?_; refine m_take (At.mk : At 15) ?_
        refine TA.done (by kernel_rfl) ?_
        refine m_run ?_
        refine TK.drawS mixed rfl ?_
        refine m_take (At.mk : At 0) ?_; refine m_take (At.mk : At 1) ?_
        refine TA.isF 42 rfl (decide_eq_false (by omega)) ?_
        refine m_take (At.mk : At 2) ?_; refine m_take (At.mk : At 3) ?_; refine m_take (At.mk : At 4) ?_; refine m_take (At.mk : At 5) ?_; refine m_take (At.mk : At 6) ?_; refine m_take (At.mk : At 7) ?_; refine m_take (At.mk : At 8) ?_; refine m_take (At.mk : At 9) ?_; refine m_take (At.mk : At 10) ?_; refine m_take (At.mk : At 11) ?_; refine m_take (At.mk : At 12) ?_; refine m_take (At.mk : At 13) ?_; refine m_take (At.mk : At 14) ?_; refine m_take (At.mk : At 15) ?_
        refine TA.done (by kernel_rfl) ?_
        refine m_run ?_
        have hlen : (D.take q ++ [x.n] ++ D.drop q).length = q + 1 + (D.length - q) := by simp; omega
        have hsort := ins_sorted hD hq hgt hlt
        have hmem2 : ∀ y, y ∈ D.take q ++ [x.n] ++ D.drop q ↔ y ∈ varsOf (l.take (i + 1)) := fun y => ins_mem.trans (hnew y)
        refine TK.free (H := own 23 1 (.slice none 0 0) 0 []) (fun m h => own_nil _ _ h) ?_
        have hown : has (own 23 1 (.slice B D.length k) D.length (u32s D) :: row b1 [.int .u32 (p : Int), .slice (some ⟨b, o, none⟩) l.length c] 42 :: Γ) (srcAt 1 B D.length (u32s D)) := has_at (up_src _ _ _ _) 0 rfl fun _ h => own_src h
        have hsl : has (own 23 1 (.slice none 0 0) 0 [] :: own 23 1 (.slice B D.length k) D.length (u32s D) :: row b1 [.int .u32 (p : Int), .slice (some ⟨b, o, none⟩) l.length c] 42 :: Γ) (srcAt 1 (if k = 0 then B else B.map fun a => a.add (0 * 1)) q (u32s (D.take q))) := by
          have h1 := has_imp hown fun _ hm => src_part hm (Nat.zero_le q) hq (Nat.le_trans hq hDk)
          simp only [Nat.zero_mul, List.drop_zero, Nat.sub_zero, Nat.mul_one] at h1 ⊢
          unfold u32s
          rw [List.map_take]
          exact has_tls h1
        refine TK.drawE mixed rfl (row b1 [.int .u32 (p : Int), .slice (some ⟨b, o, none⟩) l.length c] 42 :: Γ) ?_
        refine m_take (At.mk : At 0) ?_; refine m_take (At.mk : At 1) ?_; refine m_take (At.mk : At 2) ?_
        (apply TA.takeA (At.mk : At 3); exact rfl; exact rfl; kernel_rfl; ((focus ((repeat (first | assumption | exact Ent.refl _ | apply Ent.tail)); done))); (apply PV.sliceS (i := 0) (j := q); exact rfl; exact tb rfl; exact rfl; exact tb rfl; exact .none; exact .some rfl; exact Nat.zero_le _; exact Nat.le_trans hq hDk))
        refine TA.know (t := 60) (v := .slice (if k = 0 then B else B.map fun a => a.add (0 * 1)) q k) rfl ?_
        refine m_take (At.mk : At 5) ?_; refine m_take (At.mk : At 6) ?_; refine m_take (At.mk : At 7) ?_; refine m_take (At.mk : At 8) ?_; refine m_take (At.mk : At 9) ?_; refine m_take (At.mk : At 10) ?_
        refine TA.cutJ [4, 11] (fun ρ' Γ' => ∃ (b68 : Nat) (E : Option Addr) (ke : Nat), q ≤ ke ∧ lk ρ' 1 = .pointer (some ⟨b1, 0, none⟩) ∧ lk ρ' 3 = .slice B D.length k ∧ lk ρ' 4 = .int .i64 (i : Int) ∧ lk ρ' 5 = .int .i64 (q : Int) ∧ lk ρ' 61 = .slice E q ke ∧ lk ρ' 68 = .slice (some ⟨b68, 0, none⟩) 1 1 ∧ Γ' = row b68 (u32s [x.n]) 23 :: own 23 1 (.slice E q ke) q (u32s (D.take q)) :: own 23 1 (.slice B D.length k) D.length (u32s D) :: row b1 [.int .u32 (p : Int), .slice (some ⟨b, o, none⟩) l.length c] 42 :: Γ) rfl ?_ ?_
        · intro tail
          refine TA.two 4 11 (by kernel_rfl) rfl rfl ?_ ?_
          · (apply TL.append 0 (n := 0) (m := q) (cs := []) (news := u32s (D.take q)); exact rfl; exact rfl; exact tb rfl; exact rfl; exact tb rfl; exact rfl; exact rfl; exact rfl)
            · exact fun _ h => h
            · exact rfl
            · exact hsl
            · exact u32s_one _
            · show (0 + q) * 4 ≤ _; omega
            · show 0 + q ≤ maxLen; unfold maxLen; omega
            · exact fun _ => (rfl : _ = _ :: _)
            intro E ke hke
            simp only [Nat.zero_add, List.nil_append] at hke ⊢
            refine TL.back (by (focus ((repeat (first | assumption | exact Ent.refl _ | apply Ent.tail)); done))) ?_
            (apply TA.one 11; kernel_rfl; exact rfl)
            (apply TL.buildSlice (l := u32s [x.n]); exact rfl; exact tb rfl; exact rfl; exact tb rfl; exact rfl; exact rfl; exact rfl; exact rfl; exact rfl)
            intro b68
            refine TL.back (by (focus ((repeat (first | assumption | exact Ent.refl _ | apply Ent.tail)); done))) ?_
            refine TA.eqL ?_ (tail _ _ ⟨b68, E, ke, hke, rfl, rfl, rfl, rfl, rfl, rfl, rfl⟩)
            kernel_rfl
          · (apply TL.buildSlice (l := u32s [x.n]); exact rfl; exact tb rfl; exact rfl; exact tb rfl; exact rfl; exact rfl; exact rfl; exact rfl; exact rfl)
            intro b68
            refine TL.back (by (focus ((repeat (first | assumption | exact Ent.refl _ | apply Ent.tail)); done))) ?_
            (apply TA.one 4; kernel_rfl; exact rfl)
            (apply TL.append 1 (n := 0) (m := q) (cs := []) (news := u32s (D.take q)); exact rfl; exact rfl; exact tb rfl; exact rfl; exact tb rfl; exact rfl; exact rfl; exact rfl)
            · exact fun _ h => h
            · exact rfl
            · exact has_tls hsl
            · exact u32s_one _
            · show (0 + q) * 4 ≤ _; omega
            · show 0 + q ≤ maxLen; unfold maxLen; omega
            · exact fun _ => (rfl : _ = _ :: _ :: _)
            intro E ke hke
            simp only [Nat.zero_add, List.nil_append] at hke ⊢
            refine TL.back (by (focus ((repeat (first | assumption | exact Ent.refl _ | apply Ent.tail)); done))) ?_
            refine TA.eqL ?_ (tail _ _ ⟨b68, E, ke, hke, rfl, rfl, rfl, rfl, rfl, rfl, rfl⟩)
            kernel_rfl
        rintro ρ3 _ ⟨b68, E, ke, hke, g1, g3, g4, g5, g61, g68, rfl⟩
        refine TA.know g1 (TA.know (t := 3) (v := .slice B D.length k) g3 (TA.know (t := 4) (v := .int .i64 (i : Int)) g4 (TA.know (t := 5) (v := .int .i64 (q : Int)) g5 (TA.know (t := 61) (v := .slice E q ke) g61 (TA.know (t := 68) (v := .slice (some ⟨b68, 0, none⟩) 1 1) g68 ?_)))))
        (apply TA.one 12; kernel_rfl; exact rfl)
        (apply TL.append 1; exact rfl; exact rfl; exact tb rfl; exact rfl; exact tb rfl; exact rfl; exact rfl; exact rfl)
        · exact fun _ h => h
        · exact rfl
        · exact has_src_row 0 rfl rfl
        · exact one_of rfl
        · show (q + 1) * 4 ≤ _; omega
        · show q + 1 ≤ maxLen; unfold maxLen; omega
        · exact fun _ => (rfl : _ = _ :: _ :: _)
        intro E2 k2 hk2
        rw [show u32s (D.take q) ++ u32s [x.n] = u32s (D.take q ++ [x.n]) from u32s_snoc _ _]
        refine TL.back (by (focus ((repeat (first | assumption | exact Ent.refl _ | apply Ent.tail)); done))) ?_
        refine m_take (At.mk : At 13) ?_
        refine TA.done (by kernel_rfl) ?_
        refine TK.sub (Δ := own 23 1 (.slice E2 (q + 1) k2) (q + 1) (u32s (D.take q ++ [x.n])) :: own 23 1 (.slice B D.length k) D.length (u32s D) :: row b1 [.int .u32 (p : Int), .slice (some ⟨b, o, none⟩) l.length c] 42 :: Γ) (by (repeat (first | exact List.Sublist.refl _ | apply List.Sublist.cons_cons | apply List.Sublist.cons))) ?_
        refine m_run ?_
        (apply TL.sliceS (i := q) (j := D.length) (news := u32s D); exact rfl; exact rfl; exact tb rfl; exact rfl; exact tb rfl; exact .some rfl; exact .none; exact has_tls hown; exact hq; exact Nat.le_refl _; exact hDk)
        intro A' hA'
        replace hA' : has (own 23 1 (.slice E2 (q + 1) k2) (q + 1) (u32s (D.take q ++ [x.n])) :: own 23 1 (.slice B D.length k) D.length (u32s D) :: row b1 [.int .u32 (p : Int), .slice (some ⟨b, o, none⟩) l.length c] 42 :: Γ) (srcAt 1 A' (D.length - q) (u32s (D.drop q))) := by
          have h1 : ((u32s D).drop (q * 1)).take ((D.length - q) * 1) = u32s (D.drop q) := by
            rw [Nat.mul_one, Nat.mul_one]
            unfold u32s
            rw [← List.map_drop, List.take_of_length_le (by simp)]
          have h2 : has _ (srcAt 1 A' (D.length - q) (((u32s D).drop (q * 1)).take ((D.length - q) * 1))) := hA'
          rw [h1] at h2
          exact h2
        (apply TL.append 0 (n := q + 1) (m := D.length - q) (news := u32s (D.drop q)); exact rfl; exact rfl; exact tb rfl; exact rfl; exact tb rfl; exact rfl; exact rfl; exact rfl)
        · exact fun _ h => h
        · exact rfl
        · exact hA'
        · exact u32s_one _
        · show (q + 1 + (D.length - q)) * 4 ≤ _; omega
        · show q + 1 + (D.length - q) ≤ maxLen; unfold maxLen; omega
        · exact fun _ => (rfl : _ = _ :: _)
        intro G kg hkg
        rw [show u32s (D.take q ++ [x.n]) ++ u32s (D.drop q) = u32s (D.take q ++ [x.n] ++ D.drop q) by unfold u32s; rw [← List.map_append]]
        refine m_run ?_
        refine TK.sub (Δ := own 23 1 (.slice G (q + 1 + (D.length - q)) kg) (q + 1 + (D.length - q)) (u32s (D.take q ++ [x.n] ++ D.drop q)) :: row b1 [.int .u32 (p : Int), .slice (some ⟨b, o, none⟩) l.length c] 42 :: Γ) (by (repeat (first | exact List.Sublist.refl _ | apply List.Sublist.cons_cons | apply List.Sublist.cons))) ?_
        exact IH (j - 1) _ _ (by omega) ⟨i + 1, D.take q ++ [x.n] ++ D.drop q, G, kg, by omega, hsort, hmem2, by rw [hlen]; omega, by rw [hlen]; exact hkg, rfl, by rw [hlen]; rfl, congrArg (Value.int .i64) (i64_succ i (by omega)), by rw [hlen]⟩
      obtain ⟨y, hy⟩ : ∃ y, D[q - 1]? = some y := ⟨D[q - 1], List.getElem?_eq_getElem (by omega)⟩
      refine TK.mem fun m0 hm0 => ?_
      obtain ⟨bD, rfl⟩ := own_addr hm0 (by omega)
      clear hm0 m0
      have hcy : has (own 23 1 (.slice (some ⟨bD, 0, none⟩) D.length k) D.length (u32s D) :: row b1 [.int .u32 (p : Int), .slice (some ⟨b, o, none⟩) l.length c] 42 :: Γ) (fun z => cellAt z bD (q - 1) (.int .u32 (y : Int))) := ownU_cell hy
      refine m_run ?_
      refine TK.drawS mixed rfl ?_
      refine m_take (At.mk : At 0) ?_; refine m_take (At.mk : At 1) ?_
      refine TA.isT 24 rfl (decide_eq_true (by omega)) ?_
      refine m_take (At.mk : At 2) ?_; refine m_take (At.mk : At 3) ?_; refine m_take (At.mk : At 4) ?_; refine m_take (At.mk : At 5) ?_
      refine TA.know (t := 28) (v := .int .i64 ((q - 1 : Nat) : Int)) (congrArg (Value.int .i64) (by rw [i64_in (by omega) (by omega)]; omega)) ?_
      refine m_take (At.mk : At 6) ?_; refine m_take (At.mk : At 7) ?_; refine m_take (At.mk : At 8) ?_; refine m_take (At.mk : At 9) ?_; refine m_take (At.mk : At 10) ?_; refine m_take (At.mk : At 11) ?_; refine m_take (At.mk : At 12) ?_; refine m_take (At.mk : At 13) ?_; refine m_take (At.mk : At 14) ?_
      by_cases hgy : x.n < y
      · refine TA.isT 37 rfl (decide_eq_true (by omega)) ?_
        refine m_take (At.mk : At 15) ?_
        refine TA.done (by kernel_rfl) ?_
        refine m_run ?_
        refine IH2 (q - 1) _ _ (by omega) ⟨by omega, fun z hz => ?_, rfl, rfl, rfl, congrArg (Value.int .i64) (by rw [i64_in (by omega) (by omega)]; omega), rfl⟩
        have hdq : D.drop (q - 1) = y :: D.drop q := by
          rw [List.drop_eq_getElem_cons (show q - 1 < D.length by omega), show q - 1 + 1 = q by omega, (List.getElem?_eq_some_iff.1 hy).2]
        rw [hdq] at hz
        rcases List.mem_cons.1 hz with rfl | hz
        · exact hgy
        · exact hgt z hz
      refine TA.isF 37 rfl (decide_eq_false (by omega)) ?_
      refine m_take (At.mk : At 15) ?_
      refine TA.done (by kernel_rfl) ?_
      refine m_run ?_
      refine TK.drawS mixed rfl ?_
      refine m_take (At.mk : At 0) ?_; refine m_take (At.mk : At 1) ?_
      refine TA.isT 42 rfl (decide_eq_true (by omega)) ?_
      refine m_take (At.mk : At 2) ?_; refine m_take (At.mk : At 3) ?_; refine m_take (At.mk : At 4) ?_; refine m_take (At.mk : At 5) ?_
      refine TA.know (t := 46) (v := .int .i64 ((q - 1 : Nat) : Int)) (congrArg (Value.int .i64) (by rw [i64_in (by omega) (by omega)]; omega)) ?_
      refine m_take (At.mk : At 6) ?_; refine m_take (At.mk : At 7) ?_; refine m_take (At.mk : At 8) ?_; refine m_take (At.mk : At 9) ?_; refine m_take (At.mk : At 10) ?_; refine m_take (At.mk : At 11) ?_; refine m_take (At.mk : At 12) ?_; refine m_take (At.mk : At 13) ?_; refine m_take (At.mk : At 14) ?_
      by_cases hey : y = x.n
      · refine TA.isT 55 rfl (beq_iff_eq.2 (by omega)) ?_
        refine m_take (At.mk : At 15) ?_
        refine TA.done (by kernel_rfl) ?_
        refine m_run ?_
        refine IH (j - 1) _ _ (by omega) ⟨i + 1, D, some ⟨bD, 0, none⟩, k, by omega, hD, fun z => ?_, by omega, hDk, rfl, rfl, congrArg (Value.int .i64) (i64_succ i (by omega)), rfl⟩
        rw [← hnew z]
        refine ⟨.inl, fun h => ?_⟩
        rcases h with h | h
        · exact h
        · rw [h, ← hey]; exact List.mem_of_getElem? hy
      refine TA.isF 55 rfl (beq_eq_false_iff_ne.2 (by omega)) ?_
      refine m_take (At.mk : At 15) ?_
      refine TA.done (by kernel_rfl) ?_
      have hlt : q = 0 ∨ ∃ y, D[q - 1]? = some y ∧ y < x.n := .inr ⟨y, hy, by omega⟩
      refine m_run ?_
      have hlen : (D.take q ++ [x.n] ++ D.drop q).length = q + 1 + (D.length - q) := by simp; omega
      have hsort := ins_sorted hD hq hgt hlt
      have hmem2 : ∀ y, y ∈ D.take q ++ [x.n] ++ D.drop q ↔ y ∈ varsOf (l.take (i + 1)) := fun y => ins_mem.trans (hnew y)
      refine TK.free (H := own 23 1 (.slice none 0 0) 0 []) (fun m h => own_nil _ _ h) ?_
      have hown : has (own 23 1 (.slice (some ⟨bD, 0, none⟩) D.length k) D.length (u32s D) :: row b1 [.int .u32 (p : Int), .slice (some ⟨b, o, none⟩) l.length c] 42 :: Γ) (srcAt 1 (some ⟨bD, 0, none⟩) D.length (u32s D)) := has_at (up_src _ _ _ _) 0 rfl fun _ h => own_src h
      have hsl : has (own 23 1 (.slice none 0 0) 0 [] :: own 23 1 (.slice (some ⟨bD, 0, none⟩) D.length k) D.length (u32s D) :: row b1 [.int .u32 (p : Int), .slice (some ⟨b, o, none⟩) l.length c] 42 :: Γ) (srcAt 1 (if k = 0 then some ⟨bD, 0, none⟩ else (some (⟨bD, 0, none⟩ : Addr)).map fun a => a.add (0 * 1)) q (u32s (D.take q))) := by
        have h1 := has_imp hown fun _ hm => src_part hm (Nat.zero_le q) hq (Nat.le_trans hq hDk)
        simp only [Nat.zero_mul, List.drop_zero, Nat.sub_zero, Nat.mul_one] at h1 ⊢
        unfold u32s
        rw [List.map_take]
        exact has_tls h1
      refine TK.drawE mixed rfl (row b1 [.int .u32 (p : Int), .slice (some ⟨b, o, none⟩) l.length c] 42 :: Γ) ?_
      refine m_take (At.mk : At 0) ?_; refine m_take (At.mk : At 1) ?_; refine m_take (At.mk : At 2) ?_
      (apply TA.takeA (At.mk : At 3); exact rfl; exact rfl; kernel_rfl; ((focus ((repeat (first | assumption | exact Ent.refl _ | apply Ent.tail)); done))); (apply PV.sliceS (i := 0) (j := q); exact rfl; exact tb rfl; exact rfl; exact tb rfl; exact .none; exact .some rfl; exact Nat.zero_le _; exact Nat.le_trans hq hDk))
      refine TA.know (t := 60) (v := .slice (if k = 0 then some ⟨bD, 0, none⟩ else (some (⟨bD, 0, none⟩ : Addr)).map fun a => a.add (0 * 1)) q k) rfl ?_
      refine m_take (At.mk : At 5) ?_; refine m_take (At.mk : At 6) ?_; refine m_take (At.mk : At 7) ?_; refine m_take (At.mk : At 8) ?_; refine m_take (At.mk : At 9) ?_; refine m_take (At.mk : At 10) ?_
      refine TA.cutJ [4, 11] (fun ρ' Γ' => ∃ (b68 : Nat) (E : Option Addr) (ke : Nat), q ≤ ke ∧ lk ρ' 1 = .pointer (some ⟨b1, 0, none⟩) ∧ lk ρ' 3 = .slice (some ⟨bD, 0, none⟩) D.length k ∧ lk ρ' 4 = .int .i64 (i : Int) ∧ lk ρ' 5 = .int .i64 (q : Int) ∧ lk ρ' 61 = .slice E q ke ∧ lk ρ' 68 = .slice (some ⟨b68, 0, none⟩) 1 1 ∧ Γ' = row b68 (u32s [x.n]) 23 :: own 23 1 (.slice E q ke) q (u32s (D.take q)) :: own 23 1 (.slice (some ⟨bD, 0, none⟩) D.length k) D.length (u32s D) :: row b1 [.int .u32 (p : Int), .slice (some ⟨b, o, none⟩) l.length c] 42 :: Γ) rfl ?_ ?_
      · intro tail
        refine TA.two 4 11 (by kernel_rfl) rfl rfl ?_ ?_
        · (apply TL.append 0 (n := 0) (m := q) (cs := []) (news := u32s (D.take q)); exact rfl; exact rfl; exact tb rfl; exact rfl; exact tb rfl; exact rfl; exact rfl; exact rfl)
          · exact fun _ h => h
          · exact rfl
          · exact hsl
          · exact u32s_one _
          · show (0 + q) * 4 ≤ _; omega
          · show 0 + q ≤ maxLen; unfold maxLen; omega
          · exact fun _ => (rfl : _ = _ :: _)
          intro E ke hke
          simp only [Nat.zero_add, List.nil_append] at hke ⊢
          refine TL.back (by (focus ((repeat (first | assumption | exact Ent.refl _ | apply Ent.tail)); done))) ?_
          (apply TA.one 11; kernel_rfl; exact rfl)
          (apply TL.buildSlice (l := u32s [x.n]); exact rfl; exact tb rfl; exact rfl; exact tb rfl; exact rfl; exact rfl; exact rfl; exact rfl; exact rfl)
          intro b68
          refine TL.back (by (focus ((repeat (first | assumption | exact Ent.refl _ | apply Ent.tail)); done))) ?_
          refine TA.eqL ?_ (tail _ _ ⟨b68, E, ke, hke, rfl, rfl, rfl, rfl, rfl, rfl, rfl⟩)
          kernel_rfl
        · (apply TL.buildSlice (l := u32s [x.n]); exact rfl; exact tb rfl; exact rfl; exact tb rfl; exact rfl; exact rfl; exact rfl; exact rfl; exact rfl)
          intro b68
          refine TL.back (by (focus ((repeat (first | assumption | exact Ent.refl _ | apply Ent.tail)); done))) ?_
          (apply TA.one 4; kernel_rfl; exact rfl)
          (apply TL.append 1 (n := 0) (m := q) (cs := []) (news := u32s (D.take q)); exact rfl; exact rfl; exact tb rfl; exact rfl; exact tb rfl; exact rfl; exact rfl; exact rfl)
          · exact fun _ h => h
          · exact rfl
          · exact has_tls hsl
          · exact u32s_one _
          · show (0 + q) * 4 ≤ _; omega
          · show 0 + q ≤ maxLen; unfold maxLen; omega
          · exact fun _ => (rfl : _ = _ :: _ :: _)
          intro E ke hke
          simp only [Nat.zero_add, List.nil_append] at hke ⊢
          refine TL.back (by (focus ((repeat (first | assumption | exact Ent.refl _ | apply Ent.tail)); done))) ?_
          refine TA.eqL ?_ (tail _ _ ⟨b68, E, ke, hke, rfl, rfl, rfl, rfl, rfl, rfl, rfl⟩)
          kernel_rfl
      rintro ρ3 _ ⟨b68, E, ke, hke, g1, g3, g4, g5, g61, g68, rfl⟩
      refine TA.know g1 (TA.know (t := 3) (v := .slice (some ⟨bD, 0, none⟩) D.length k) g3 (TA.know (t := 4) (v := .int .i64 (i : Int)) g4 (TA.know (t := 5) (v := .int .i64 (q : Int)) g5 (TA.know (t := 61) (v := .slice E q ke) g61 (TA.know (t := 68) (v := .slice (some ⟨b68, 0, none⟩) 1 1) g68 ?_)))))
      (apply TA.one 12; kernel_rfl; exact rfl)
      (apply TL.append 1; exact rfl; exact rfl; exact tb rfl; exact rfl; exact tb rfl; exact rfl; exact rfl; exact rfl)
      · exact fun _ h => h
      · exact rfl
      · exact has_src_row 0 rfl rfl
      · exact one_of rfl
      · show (q + 1) * 4 ≤ _; omega
      · show q + 1 ≤ maxLen; unfold maxLen; omega
      · exact fun _ => (rfl : _ = _ :: _ :: _)
      intro E2 k2 hk2
      rw [show u32s (D.take q) ++ u32s [x.n] = u32s (D.take q ++ [x.n]) from u32s_snoc _ _]
      refine TL.back (by (focus ((repeat (first | assumption | exact Ent.refl _ | apply Ent.tail)); done))) ?_
      refine m_take (At.mk : At 13) ?_
      refine TA.done (by kernel_rfl) ?_
      refine TK.sub (Δ := own 23 1 (.slice E2 (q + 1) k2) (q + 1) (u32s (D.take q ++ [x.n])) :: own 23 1 (.slice (some ⟨bD, 0, none⟩) D.length k) D.length (u32s D) :: row b1 [.int .u32 (p : Int), .slice (some ⟨b, o, none⟩) l.length c] 42 :: Γ) (by (repeat (first | exact List.Sublist.refl _ | apply List.Sublist.cons_cons | apply List.Sublist.cons))) ?_
      refine m_run ?_
      (apply TL.sliceS (i := q) (j := D.length) (news := u32s D); exact rfl; exact rfl; exact tb rfl; exact rfl; exact tb rfl; exact .some rfl; exact .none; exact has_tls hown; exact hq; exact Nat.le_refl _; exact hDk)
      intro A' hA'
      replace hA' : has (own 23 1 (.slice E2 (q + 1) k2) (q + 1) (u32s (D.take q ++ [x.n])) :: own 23 1 (.slice (some ⟨bD, 0, none⟩) D.length k) D.length (u32s D) :: row b1 [.int .u32 (p : Int), .slice (some ⟨b, o, none⟩) l.length c] 42 :: Γ) (srcAt 1 A' (D.length - q) (u32s (D.drop q))) := by
        have h1 : ((u32s D).drop (q * 1)).take ((D.length - q) * 1) = u32s (D.drop q) := by
          rw [Nat.mul_one, Nat.mul_one]
          unfold u32s
          rw [← List.map_drop, List.take_of_length_le (by simp)]
        have h2 : has _ (srcAt 1 A' (D.length - q) (((u32s D).drop (q * 1)).take ((D.length - q) * 1))) := hA'
        rw [h1] at h2
        exact h2
      (apply TL.append 0 (n := q + 1) (m := D.length - q) (news := u32s (D.drop q)); exact rfl; exact rfl; exact tb rfl; exact rfl; exact tb rfl; exact rfl; exact rfl; exact rfl)
      · exact fun _ h => h
      · exact rfl
      · exact hA'
      · exact u32s_one _
      · show (q + 1 + (D.length - q)) * 4 ≤ _; omega
      · show q + 1 + (D.length - q) ≤ maxLen; unfold maxLen; omega
      · exact fun _ => (rfl : _ = _ :: _)
      intro G kg hkg
      rw [show u32s (D.take q ++ [x.n]) ++ u32s (D.drop q) = u32s (D.take q ++ [x.n] ++ D.drop q) by unfold u32s; rw [← List.map_append]]
      refine m_run ?_
      refine TK.sub (Δ := own 23 1 (.slice G (q + 1 + (D.length - q)) kg) (q + 1 + (D.length - q)) (u32s (D.take q ++ [x.n] ++ D.drop q)) :: row b1 [.int .u32 (p : Int), .slice (some ⟨b, o, none⟩) l.length c] 42 :: Γ) (by (repeat (first | exact List.Sublist.refl _ | apply List.Sublist.cons_cons | apply List.Sublist.cons))) ?_
      exact IH (j - 1) _ _ (by omega) ⟨i + 1, D.take q ++ [x.n] ++ D.drop q, G, kg, by omega, hsort, hmem2, by rw [hlen]; omega, by rw [hlen]; exact hkg, rfl, by rw [hlen]; rfl, congrArg (Value.int .i64) (i64_succ i (by omega)), by rw [hlen]⟩
  obtain rfl : i = l.length := by omega
  rw [List.take_length] at hmem
  refine m_run ?_
  (apply TK.retS1; exact rfl; exact rfl; (exact m_val))
  · exact ⟨_, rfl, D, B, k, hD, hmem, hDk, rfl, rfl⟩
  · (repeat (first | exact List.Sublist.refl _ | apply List.Sublist.cons_cons | apply List.Sublist.cons))
end Go.Proofs.Ytokggdgagfmacaa.E
