/- The document on who is reached: Cuts; what may be gone through; numbers compared; walked. -/
import Derived.Test.YthbcfamfaicneaaYt
namespace Go.Proofs.Ythbcfamfaicneaa.E
open Go Go.RowKit Go.Proofs
attribute [local irreducible] TK TL TQ TA TB Fn PV
theorem crs_one (l : List Cr) : ∀ u ∈ crsC l, u.oneCell' = true := by
  intro u hu
  obtain ⟨c, _, hc⟩ := List.mem_flatMap.1 hu
  simp only [Cr.cells, Rl.cells, Sy.cells, List.mem_append, List.mem_cons, List.not_mem_nil, or_false] at hc
  rcases hc with ((rfl | rfl | rfl | rfl | rfl) | ((rfl | rfl | rfl | rfl | rfl) | rfl)) | (rfl | rfl | rfl | rfl) <;> rfl
theorem crsC_take (l : List Cr) (i : Nat) : (crsC l).take (i * 15) = crsC (l.take i) := by
  induction l generalizing i with
  | nil => simp
  | cons x l ih =>
    cases i with
    | zero => simp
    | succ i =>
      have hx : x.cells.length = 15 := rfl
      rw [show crsC (x :: l) = x.cells ++ crsC l from rfl, List.take_append, hx, List.take_of_length_le (by rw [hx]; omega), show (i + 1) * 15 - 15 = i * 15 by omega, ih]
      rfl
theorem crsC_drop (l : List Cr) (i : Nat) : (crsC l).drop (i * 15) = crsC (l.drop i) := by
  induction l generalizing i with
  | nil => simp
  | cons x l ih =>
    cases i with
    | zero => simp
    | succ i =>
      have hx : x.cells.length = 15 := rfl
      rw [show crsC (x :: l) = x.cells ++ crsC l from rfl, List.drop_append, hx, List.drop_of_length_le (by rw [hx]; omega), show (i + 1) * 15 - 15 = i * 15 by omega, ih]
      rfl
def lessB (l : List Cr) (who p : Nat) (args : Int) (x i : Nat) : Bool := (chainS (l.eraseIdx i) who p args x (-1)).isNone
set_option maxRecDepth 100000 in
set_option maxHeartbeats 8000000 in
theorem rcuts_t (A : Option Addr) (c : Nat) (l : List Cr) (who p : Nat) (args : Int) (x : Nat) (Γ : List HP) (h : Crs A l Γ) (hl : l.length ≤ 50) (hc : l.length ≤ c) :
    FnV Try.prog 22 [.slice A l.length c, .int .u32 (who : Int), .int .u32 (p : Int), .int .i64 args, .int .u32 (x : Int)] Γ fun v Γ' => ∃ (O : List Nat) (B : Option Addr) (k : Nat) (Γ2 : List HP), O = (if (chainS l who p args x (-1)).isSome then (List.range l.length).filter (lessB l who p args x) else []) ∧ Γ.Sublist Γ2 ∧ v = .slice B O.length k ∧ Γ' = own 3 1 (.slice B O.length k) O.length (ints O) :: Γ2 := by
  refine Fn.enter Try.func22 rfl rfl rfl fun E => ?_
  refine m_run ?_
  (apply TL.callV; exact rfl; exact callB_of (by kernel_rfl); exact rfl; exact fun _ h => h)
  exact rchain_t A c l who p args x _ h hl
  rintro _ Γ3 ⟨f, rfl, hsub, hok, hf⟩
  generalize wayV f = W
  have his : (chainS l who p args x (-1)).isSome = f.isSome := by rw [← hf]; cases f <;> rfl
  rw [his]
  clear hok hf his
  refine m_run ?_
  refine TK.free (H := own 3 1 (.slice none 0 0) 0 []) (fun m hm => own_nil _ _ hm) ?_
  cases f with
  | none =>
    refine TK.loop ?_
    by_cases h0 : 0 < l.length
    · refine m_run ?_
      (apply TK.ret1; exact rfl; exact rfl; (exact m_val))
      exact ⟨_, rfl, [], none, 0, Γ3, rfl, hsub, rfl, rfl⟩
    · refine m_run ?_
      (apply TK.ret1; exact rfl; exact rfl; (exact m_val))
      exact ⟨_, rfl, [], none, 0, Γ3, rfl, hsub, rfl, rfl⟩
  | some y =>
  apply TK.iter (fun j ρ' Γ' => ∃ (i : Nat) (O : List Nat) (B2 : Option Addr) (k2 : Nat) (Γ4 : List HP), i + j = l.length ∧ O = (List.range i).filter (lessB l who p args x) ∧ O.length ≤ i ∧ Γ3.Sublist Γ4 ∧ lk ρ' 0 = .slice A l.length c ∧ lk ρ' 1 = .int .u32 (who : Int) ∧ lk ρ' 2 = .int .u32 (p : Int) ∧ lk ρ' 3 = .int .i64 args ∧ lk ρ' 4 = .int .u32 (x : Int) ∧ lk ρ' 12 = .bool true ∧ lk ρ' 13 = .slice B2 O.length k2 ∧ lk ρ' 14 = .int .i64 (i : Int) ∧ Γ' = own 3 1 (.slice B2 O.length k2) O.length (ints O) :: Γ4) l.length
  · exact ⟨0, [], none, 0, Γ3, Nat.zero_add _, rfl, Nat.le_refl _, .refl _, rfl, rfl, rfl, rfl, rfl, rfl, rfl, rfl, rfl⟩
  rintro j IH ρ' _ ⟨i, O, B2, k2, Γ4, hij, hO, hOl, hs4, e0, e1, e2, e3, e4, e12, e13, e14, rfl⟩
  refine TK.know8 e0 e1 e2 e3 e4 e12 e13 e14 ?_
  by_cases hi : i < l.length
  · have h4 : Crs A l Γ4 := Crs.sub (hsub.trans hs4) h
    have hA1 : has Γ4 (srcAt 15 (if c = 0 then A else A.map fun a => a.add (0 * 15)) i (crsC (l.take i))) := has_imp h4.src fun m hm => by
      have := src_part (c := c) hm (i := 0) (j := i) (Nat.zero_le _) (by omega) (by omega)
      simp only [Nat.zero_mul, List.drop_zero, Nat.sub_zero] at this ⊢
      rw [crsC_take] at this
      exact this
    have hA2 : has Γ4 (srcAt 15 (if c = i + 1 then A else A.map fun a => a.add ((i + 1) * 15)) (l.length - (i + 1)) (crsC (l.drop (i + 1)))) := has_imp h4.src fun m hm => by
      have := src_part (c := c) hm (i := i + 1) (j := l.length) (by omega) (Nat.le_refl _) hc
      rw [crsC_drop, List.take_of_length_le (by rw [crsC_len, List.length_drop]; exact Nat.le_refl _)] at this
      exact this
    refine m_run ?_
    refine TK.drawE mixed rfl (own 3 1 (.slice B2 O.length k2) O.length (ints O) :: Γ4) ?_
    refine m_take (At.mk : At 1) ?_; refine m_take (At.mk : At 2) ?_
    (apply TA.takeA (At.mk : At 3); exact rfl; exact rfl; kernel_rfl; ((focus ((repeat (first | assumption | exact Ent.refl _ | apply Ent.tail)); done))); (apply PV.sliceS (i := 0) (j := i); exact rfl; exact tb rfl; exact rfl; exact tb rfl; exact .none; exact .some rfl; exact Nat.zero_le _; exact (by omega)))
    refine TA.know (t := 39) (v := .slice (if c = 0 then A else A.map fun a => a.add (0 * 15)) i c) rfl ?_
    refine m_take (At.mk : At 5) ?_; refine m_take (At.mk : At 6) ?_; refine m_take (At.mk : At 7) ?_
    refine TA.know (t := 43) (v := .int .i64 ((i + 1 : Nat) : Int)) (congrArg (Value.int .i64) (i64_succ i (by omega))) ?_
    (apply TA.takeA (At.mk : At 8); exact rfl; exact rfl; kernel_rfl; ((focus ((repeat (first | assumption | exact Ent.refl _ | apply Ent.tail)); done))); (apply PV.sliceS (i := i + 1) (j := l.length); exact rfl; exact tb rfl; exact rfl; exact tb rfl; exact .some rfl; exact .none; exact (by omega); exact hc))
    refine TA.know (t := 44) (v := .slice (if c = i + 1 then A else A.map fun a => a.add ((i + 1) * 15)) (l.length - (i + 1)) (c - (i + 1))) rfl ?_
    (apply TA.one 0; kernel_rfl; exact rfl)
    (apply TL.buildSlice (l := []); exact rfl; exact tb rfl; exact rfl; exact tb rfl; exact rfl; exact rfl; exact rfl; exact rfl; exact rfl)
    intro b36
    refine TL.back (by (focus ((repeat (first | assumption | exact Ent.refl _ | apply Ent.tail)); done))) ?_
    (apply TA.one 4; kernel_rfl; exact rfl)
    (apply TL.append 0 (n := 0) (m := i) (cs := []) (news := crsC (l.take i)); exact rfl; exact rfl; exact tb rfl; exact rfl; exact tb rfl; exact rfl; exact rfl; exact rfl)
    · exact fun _ h => own_row (n := 0) rfl (by decide) h
    · exact rfl
    · exact has_tls (has_tls hA1)
    · exact crs_one _
    · show (0 + i) * 144 ≤ _; omega
    · show 0 + i ≤ maxLen; unfold maxLen; omega
    · exact fun _ => (rfl : _ = _ :: _)
    intro B5 k5 hk5
    simp only [Nat.zero_add, List.nil_append] at hk5 ⊢
    refine TL.back (by (focus ((repeat (first | assumption | exact Ent.refl _ | apply Ent.tail)); done))) ?_
    (apply TA.one 9; kernel_rfl; exact rfl)
    (apply TL.append 0 (n := i) (m := l.length - (i + 1)) (cs := crsC (l.take i)) (news := crsC (l.drop (i + 1))); exact rfl; exact rfl; exact tb rfl; exact rfl; exact tb rfl; exact rfl; exact rfl; exact rfl)
    · exact fun _ h => h
    · exact rfl
    · exact has_tls (has_tls hA2)
    · exact crs_one _
    · show (i + (l.length - (i + 1))) * 144 ≤ _; omega
    · show i + (l.length - (i + 1)) ≤ maxLen; unfold maxLen; omega
    · exact fun _ => (rfl : _ = _ :: _)
    intro B6 k6 hk6
    have he : i + (l.length - (i + 1)) = (l.eraseIdx i).length := by rw [List.length_eraseIdx, if_pos hi]; omega
    have hcs : crsC (l.take i) ++ crsC (l.drop (i + 1)) = crsC (l.eraseIdx i) := by rw [List.eraseIdx_eq_take_drop_succ]; simp
    rw [he, hcs]
    refine TL.back (by (focus ((repeat (first | assumption | exact Ent.refl _ | apply Ent.tail)); done))) ?_
    refine m_take (At.mk : At 10) ?_
    refine TA.done (by kernel_rfl) ?_
    have hel : (l.eraseIdx i).length ≤ 50 := by rw [← he]; omega
    have h6 : Crs B6 (l.eraseIdx i) (own 48 15 (.slice B6 (l.eraseIdx i).length k6) (l.eraseIdx i).length (crsC (l.eraseIdx i)) :: own 3 1 (.slice B2 O.length k2) O.length (ints O) :: Γ4) := ⟨has_at (up_src _ _ _ _) 0 rfl fun _ h => own_src h, fun z hz => Cr.ok_tl (Cr.ok_tl (h4.ok z (List.mem_of_mem_eraseIdx hz))), fun z hz => h4.few z (List.mem_of_mem_eraseIdx hz), by omega⟩
    refine m_run ?_
    (apply TL.callV; exact rfl; exact callB_of (by kernel_rfl); exact rfl; exact fun _ h => h)
    exact rchain_t B6 k6 (l.eraseIdx i) who p args x _ h6 hel
    rintro _ Γ5 ⟨f2, rfl, hsub5, _, hf5⟩
    obtain ⟨R, hR⟩ := sub_perm hsub5
    refine TL.imp (Δ := own 3 1 (.slice B2 O.length k2) O.length (ints O) :: own 48 15 (.slice B6 (l.eraseIdx i).length k6) (l.eraseIdx i).length (crsC (l.eraseIdx i)) :: (Γ4 ++ R)) (fun m hm => all_perm (.swap _ _ _) (all_perm hR hm)) ?_
    have hs5 : Γ3.Sublist (own 48 15 (.slice B6 (l.eraseIdx i).length k6) (l.eraseIdx i).length (crsC (l.eraseIdx i)) :: (Γ4 ++ R)) := .cons _ (hs4.trans (List.sublist_append_left _ _))
    generalize own 48 15 (.slice B6 (l.eraseIdx i).length k6) (l.eraseIdx i).length (crsC (l.eraseIdx i)) :: (Γ4 ++ R) = Γ6 at *
    have hone := wayV_one f2
    generalize wayV f2 = W2 at *
    have hisn : lessB l who p args x i = !f2.isSome := by unfold lessB; rw [← hf5]; cases f2 <;> rfl
    have hsn : (List.range (i + 1)).filter (lessB l who p args x) = O ++ (if f2.isSome then [] else [i]) := by
      rw [List.range_succ, List.filter_append, ← hO]
      congr 1
      simp only [List.filter_cons, List.filter_nil, hisn]
      cases f2 <;> rfl
    cases f2 with
    | some y =>
      refine m_run ?_
      exact IH (j - 1) _ _ (by omega) ⟨i + 1, O, B2, k2, Γ6, by omega, by rw [hsn]; simp, by omega, hs5, rfl, rfl, rfl, rfl, rfl, rfl, rfl, congrArg (Value.int .i64) (i64_succ i (by omega)), rfl⟩
    | none =>
      refine m_run ?_
      (apply TL.buildSlice (l := ints [i]); exact rfl; exact tb rfl; exact rfl; exact tb rfl; exact rfl; exact rfl; exact rfl; exact rfl; exact rfl)
      intro b48
      refine m_run ?_
      (apply TL.append 1; exact rfl; exact rfl; exact tb rfl; exact rfl; exact tb rfl; exact rfl; exact rfl; exact rfl)
      · exact fun _ h => h
      · exact rfl
      · exact has_src_row 0 rfl rfl
      · exact ints_one [i]
      · show (O.length + 1) * 8 ≤ _; omega
      · show O.length + 1 ≤ maxLen; unfold maxLen; omega
      · exact fun _ => (rfl : _ = _ :: _ :: _)
      intro B3 k3 hk3
      rw [show ints O ++ ints [i] = ints (O ++ [i]) by simp, show O.length + 1 = (O ++ [i]).length by simp]
      refine m_run ?_
      refine TK.drop ?_
      exact IH (j - 1) _ _ (by omega) ⟨i + 1, O ++ [i], B3, k3, Γ6, by omega, by rw [hsn]; simp, by simp; omega, hs5, rfl, rfl, rfl, rfl, rfl, rfl, rfl, congrArg (Value.int .i64) (i64_succ i (by omega)), rfl⟩
  obtain rfl : i = l.length := by omega
  refine m_run ?_
  (apply TK.ret1; exact rfl; exact rfl; (exact m_val))
  exact ⟨_, rfl, O, B2, k2, Γ4, by rw [if_pos (show (some y).isSome = true from rfl)]; exact hO, hsub.trans hs4, rfl, rfl⟩
set_option maxRecDepth 100000 in
theorem numbers_t (A B : Option Addr) (c d : Nat) (a b : List Nat) (Γ : List HP) (ha : has Γ (srcAt 1 A a.length (u32s a))) (hb : has Γ (srcAt 1 B b.length (u32s b))) (hn : a.length ≤ 1000000) (hn2 : b.length ≤ 1000000) :
    FnV Try.prog 17 [.slice A a.length c, .slice B b.length d] Γ fun v Γ' => v = .bool (decide (a = b)) ∧ Γ' = Γ := by
  refine Fn.enter Try.func17 rfl rfl rfl fun E => ?_
  by_cases hl : a.length = b.length
  rotate_left
  · have hl' : ((a.length : Int) != (b.length : Int)) = true := bne_iff_ne.2 (by omega)
    refine m_run ?_
    (apply TK.ret1; exact rfl; exact rfl; (exact m_val))
    exact ⟨_, rfl, by rw [decide_eq_false (fun e => hl (congrArg List.length e))], rfl⟩
  refine m_run ?_
  apply TK.iter (fun j ρ' Γ' => ∃ i : Nat, i + j = a.length ∧ a.take i = b.take i ∧ lk ρ' 0 = .slice A a.length c ∧ lk ρ' 1 = .slice B b.length d ∧ lk ρ' 5 = .int .i64 (i : Int) ∧ Γ' = Γ) a.length
  · exact ⟨0, Nat.zero_add _, rfl, rfl, rfl, rfl, rfl⟩
  rintro j IH ρ' Γ ⟨i, hij, heq, e0, e1, e5, rfl⟩
  refine TK.know3 e0 e1 e5 ?_
  by_cases hi : i < a.length
  · obtain ⟨x, hx⟩ : ∃ x, a[i]? = some x := ⟨a[i], List.getElem?_eq_getElem hi⟩
    obtain ⟨y, hy⟩ : ∃ y, b[i]? = some y := ⟨b[i]'(by omega), List.getElem?_eq_getElem _⟩
    refine TK.mem fun m0 hm0 => ?_
    obtain ⟨g, u, rfl⟩ := src_some (ha m0 hm0) (by rw [u32s_len]; omega)
    obtain ⟨g2, u2, rfl⟩ := src_some (hb m0 hm0) (by rw [u32s_len]; omega)
    clear hm0 m0
    have hcx := has_u32 ha hx
    have hcy := has_u32 hb hy
    refine m_run ?_
    refine TK.drawS mixed rfl ?_
    refine m_take (At.mk : At 0) ?_; refine m_take (At.mk : At 1) ?_; refine m_take (At.mk : At 2) ?_; refine m_take (At.mk : At 3) ?_; refine m_take (At.mk : At 4) ?_; refine m_take (At.mk : At 5) ?_; refine m_take (At.mk : At 6) ?_; refine m_take (At.mk : At 7) ?_; refine m_take (At.mk : At 8) ?_
    refine TA.done (by kernel_rfl) ?_
    by_cases hxy : x = y
    · subst hxy
      refine m_run ?_
      refine IH (j - 1) _ _ (by omega) ⟨i + 1, by omega, ?_, rfl, rfl, congrArg (Value.int .i64) (i64_succ i (by omega)), rfl⟩
      rw [List.take_add_one, List.take_add_one, hx, hy, heq]
    · have hxy' : ((x : Int) != (y : Int)) = true := bne_iff_ne.2 (by omega)
      refine m_run ?_
      (apply TK.ret1; exact rfl; exact rfl; (exact m_val))
      refine ⟨_, rfl, ?_, rfl⟩
      rw [decide_eq_false (fun e => hxy (by rw [e, hy] at hx; exact (Option.some.inj hx).symm))]
  obtain rfl : i = a.length := by omega
  rw [List.take_length, List.take_of_length_le (by omega)] at heq
  refine m_run ?_
  (apply TK.ret1; exact rfl; exact rfl; (exact m_val))
  exact ⟨_, rfl, by rw [decide_eq_true heq], rfl⟩
set_option maxRecDepth 100000 in
theorem same_t (A B : Option Addr) (c d : Nat) (a b : List Nat) (Γ : List HP) (ha : has Γ (srcAt 1 A a.length (ints a))) (hb : has Γ (srcAt 1 B b.length (ints b))) (hn : a.length ≤ 1000000) (hn2 : b.length ≤ 1000000) :
    FnV Try.prog 20 [.slice A a.length c, .slice B b.length d] Γ fun v Γ' => v = .bool (decide (a = b)) ∧ Γ' = Γ := by
  refine Fn.enter Try.func20 rfl rfl rfl fun E => ?_
  by_cases hl : a.length = b.length
  rotate_left
  · have hl' : ((a.length : Int) != (b.length : Int)) = true := bne_iff_ne.2 (by omega)
    refine m_run ?_
    (apply TK.ret1; exact rfl; exact rfl; (exact m_val))
    exact ⟨_, rfl, by rw [decide_eq_false (fun e => hl (congrArg List.length e))], rfl⟩
  refine m_run ?_
  apply TK.iter (fun j ρ' Γ' => ∃ i : Nat, i + j = a.length ∧ a.take i = b.take i ∧ lk ρ' 0 = .slice A a.length c ∧ lk ρ' 1 = .slice B b.length d ∧ lk ρ' 5 = .int .i64 (i : Int) ∧ Γ' = Γ) a.length
  · exact ⟨0, Nat.zero_add _, rfl, rfl, rfl, rfl, rfl⟩
  rintro j IH ρ' Γ ⟨i, hij, heq, e0, e1, e5, rfl⟩
  refine TK.know3 e0 e1 e5 ?_
  by_cases hi : i < a.length
  · obtain ⟨x, hx⟩ : ∃ x, a[i]? = some x := ⟨a[i], List.getElem?_eq_getElem hi⟩
    obtain ⟨y, hy⟩ : ∃ y, b[i]? = some y := ⟨b[i]'(by omega), List.getElem?_eq_getElem _⟩
    refine TK.mem fun m0 hm0 => ?_
    obtain ⟨g, u, rfl⟩ := src_some (ha m0 hm0) (by rw [ints_len]; omega)
    obtain ⟨g2, u2, rfl⟩ := src_some (hb m0 hm0) (by rw [ints_len]; omega)
    clear hm0 m0
    have hcx := has_ints ha hx
    have hcy := has_ints hb hy
    refine m_run ?_
    refine TK.drawS mixed rfl ?_
    refine m_take (At.mk : At 0) ?_; refine m_take (At.mk : At 1) ?_; refine m_take (At.mk : At 2) ?_; refine m_take (At.mk : At 3) ?_; refine m_take (At.mk : At 4) ?_; refine m_take (At.mk : At 5) ?_; refine m_take (At.mk : At 6) ?_; refine m_take (At.mk : At 7) ?_; refine m_take (At.mk : At 8) ?_
    refine TA.done (by kernel_rfl) ?_
    by_cases hxy : x = y
    · subst hxy
      refine m_run ?_
      refine IH (j - 1) _ _ (by omega) ⟨i + 1, by omega, ?_, rfl, rfl, congrArg (Value.int .i64) (i64_succ i (by omega)), rfl⟩
      rw [List.take_add_one, List.take_add_one, hx, hy, heq]
    · have hxy' : ((x : Int) != (y : Int)) = true := bne_iff_ne.2 (by omega)
      refine m_run ?_
      (apply TK.ret1; exact rfl; exact rfl; (exact m_val))
      refine ⟨_, rfl, ?_, rfl⟩
      rw [decide_eq_false (fun e => hxy (by rw [e, hy] at hx; exact (Option.some.inj hx).symm))]
  obtain rfl : i = a.length := by omega
  rw [List.take_length, List.take_of_length_le (by omega)] at heq
  refine m_run ?_
  (apply TK.ret1; exact rfl; exact rfl; (exact m_val))
  exact ⟨_, rfl, by rw [decide_eq_true heq], rfl⟩
set_option maxRecDepth 100000 in
set_option maxHeartbeats 4000000 in
theorem few_t (c : Cr) (Γ : List HP) (h : c.ok Γ) : FnV Try.prog 25 [.agg c.cells.toArray] Γ fun v Γ' => (∃ b : Bool, v = .bool b ∧ (b = true ↔ c.few)) ∧ Γ' = Γ := by
  refine Fn.enter Try.func25 rfl rfl rfl fun E => ?_
  obtain ⟨iss, ser, frm, til, kind, ⟨⟨hs0, hw, ⟨hp, hA, hc, hl⟩⟩, RA, Rc, L⟩, p, args, to, dep⟩ := c
  have hLo : has Γ (srcAt 6 RA L.length (cdsC L)) := h.2.1
  refine m_run ?_
  (apply TL.box; exact rfl; exact rfl; (exact m_lst))
  intro b1
  refine TL.imp (Δ := row b1 [.int .u32 (iss : Int), .int .u64 (ser : Int), .int .u64 (frm : Int), .int .u64 (til : Int), .int .u8 (kind : Int), .bool hs0, .bool hw.v, .int .u32 (hw.n : Int), .int .u32 (hp : Int), .slice hA hl.length hc, .slice RA L.length Rc, .int .u32 (p : Int), .int .i64 args, .int .u32 (to : Int), .int .i64 dep] 48 :: Γ) (fun _ h => h) ?_
  by_cases h1 : L.length ≤ 30
  rotate_left
  · refine m_run ?_
    (apply TK.retS1; exact rfl; exact rfl; (exact m_val))
    exact ⟨_, rfl, ⟨false, rfl, by simp [Cr.few]; omega⟩, rfl⟩
    (repeat (first | exact List.Sublist.refl _ | apply List.Sublist.cons_cons | apply List.Sublist.cons))
  by_cases h2 : hl.length ≤ 30
  rotate_left
  · refine m_run ?_
    (apply TK.retS1; exact rfl; exact rfl; (exact m_val))
    exact ⟨_, rfl, ⟨false, rfl, by simp [Cr.few]; omega⟩, rfl⟩
    (repeat (first | exact List.Sublist.refl _ | apply List.Sublist.cons_cons | apply List.Sublist.cons))
  refine m_run ?_
  apply TK.iter (fun j ρ' Γ' => ∃ i : Nat, i + j = L.length ∧ (∀ x ∈ L.take i, x.y.a.l.length ≤ 30) ∧ lk ρ' 1 = .pointer (some ⟨b1, 0, none⟩) ∧ lk ρ' 3 = .int .i64 (i : Int) ∧ Γ' = row b1 [.int .u32 (iss : Int), .int .u64 (ser : Int), .int .u64 (frm : Int), .int .u64 (til : Int), .int .u8 (kind : Int), .bool hs0, .bool hw.v, .int .u32 (hw.n : Int), .int .u32 (hp : Int), .slice hA hl.length hc, .slice RA L.length Rc, .int .u32 (p : Int), .int .i64 args, .int .u32 (to : Int), .int .i64 dep] 48 :: Γ) L.length
  · exact ⟨0, Nat.zero_add _, by simp, rfl, rfl, rfl⟩
  rintro j IH ρ' _ ⟨i, hij, hall, e1, e3, rfl⟩
  refine TK.know2 e1 e3 ?_
  by_cases hi : i < L.length
  · obtain ⟨⟨no, ⟨said, who, a⟩⟩, hx⟩ : ∃ x, L[i]? = some x := ⟨L[i], List.getElem?_eq_getElem hi⟩
    have hxm := List.mem_of_getElem? hx
    refine TK.mem fun m0 hm0 => ?_
    obtain ⟨g, u, rfl⟩ := src_some ((has_tls hLo : has (_ :: Γ) _) m0 hm0) (by rw [cdsC_len]; omega)
    clear hm0 m0
    have hel : has Γ (fun m => cellsAt m g (u + i * 6) [.bool no, .bool said, .bool who.v, .int .u32 (who.n : Int), .int .u32 (a.p : Int), .slice a.A a.l.length a.c]) := has_el (sz := 6) (f := Cd.cells) (fun _ => rfl) (by decide) hLo hx
    have hsl : has Γ (fun m => cellAt m g (u + i * 6 + 5) (.slice a.A a.l.length a.c)) := has_imp hel fun m h => h 5 _ rfl
    clear hel
    by_cases ha : a.l.length ≤ 30
    · refine m_run ?_
      refine IH (j - 1) _ _ (by omega) ⟨i + 1, by omega, fun z hz => ?_, rfl, congrArg (Value.int .i64) (i64_succ i (by omega)), rfl⟩
      rw [List.take_add_one, hx, List.mem_append] at hz
      rcases hz with hz | hz
      · exact hall z hz
      · simp at hz; rw [hz]; exact ha
    · refine m_run ?_
      (apply TK.retS1; exact rfl; exact rfl; (exact m_val))
      exact ⟨_, rfl, ⟨false, rfl, by
        constructor
        · intro h; cases h
        · rintro ⟨_, _, h3⟩; exact absurd (h3 _ hxm) ha⟩, rfl⟩
      (repeat (first | exact List.Sublist.refl _ | apply List.Sublist.cons_cons | apply List.Sublist.cons))
  obtain rfl : i = L.length := by omega
  rw [List.take_length] at hall
  refine m_run ?_
  (apply TK.retS1; exact rfl; exact rfl; (exact m_val))
  exact ⟨_, rfl, ⟨true, rfl, by simp only [true_iff]; exact ⟨h1, h2, hall⟩⟩, rfl⟩
  (repeat (first | exact List.Sublist.refl _ | apply List.Sublist.cons_cons | apply List.Sublist.cons))
set_option maxRecDepth 100000 in
set_option maxHeartbeats 4000000 in
theorem fewCreds_t (A : Option Addr) (c : Nat) (l : List Cr) (Γ : List HP) (hs : has Γ (srcAt 15 A l.length (crsC l))) (ho : ∀ x ∈ l, x.ok Γ) : FnV Try.prog 7 [.slice A l.length c] Γ fun v Γ' => (∃ b : Bool, v = .bool b ∧ (b = true ↔ l.length ≤ 40 ∧ ∀ x ∈ l, x.few)) ∧ Γ' = Γ := by
  refine Fn.enter Try.func7 rfl rfl rfl fun E => ?_
  by_cases h1 : l.length ≤ 40
  rotate_left
  · refine m_run ?_
    (apply TK.ret1; exact rfl; exact rfl; (exact m_val))
    exact ⟨_, rfl, ⟨false, rfl, by simp; omega⟩, rfl⟩
  refine m_run ?_
  apply TK.iter (fun j ρ' Γ' => ∃ i : Nat, i + j = l.length ∧ (∀ x ∈ l.take i, x.few) ∧ lk ρ' 0 = .slice A l.length c ∧ lk ρ' 3 = .int .i64 (i : Int) ∧ Γ' = Γ) l.length
  · exact ⟨0, Nat.zero_add _, by simp, rfl, rfl, rfl⟩
  rintro j IH ρ' Γ ⟨i, hij, hall, e0, e3, rfl⟩
  refine TK.know2 e0 e3 ?_
  by_cases hi : i < l.length
  · obtain ⟨x, hx⟩ : ∃ x, l[i]? = some x := ⟨l[i], List.getElem?_eq_getElem hi⟩
    have hxm := List.mem_of_getElem? hx
    refine TK.mem fun m0 hm0 => ?_
    obtain ⟨g, u, rfl⟩ := src_some (hs m0 hm0) (by rw [crsC_len]; omega)
    clear hm0 m0
    have hel : has Γ (fun m => cellsAt m g (u + i * 15) x.cells) := has_el (sz := 15) (f := Cr.cells) (fun _ => rfl) (by decide) hs hx
    refine m_run ?_
    (apply TL.callV; exact rfl; exact callB_of (by kernel_rfl); exact rfl; exact fun _ h => h)
    exact few_t x _ (ho x hxm)
    rintro _ Γ ⟨⟨b, rfl, hb2⟩, rfl⟩
    cases b with
    | false =>
      refine m_run ?_
      (apply TK.ret1; exact rfl; exact rfl; (exact m_val))
      exact ⟨_, rfl, ⟨false, rfl, by
        constructor
        · intro h; cases h
        · rintro ⟨_, h3⟩; exact absurd (hb2.2 (h3 _ hxm)) (by decide)⟩, rfl⟩
    | true =>
      refine m_run ?_
      refine IH (j - 1) _ _ (by omega) ⟨i + 1, by omega, fun z hz => ?_, rfl, congrArg (Value.int .i64) (i64_succ i (by omega)), rfl⟩
      rw [List.take_add_one, hx, List.mem_append] at hz
      rcases hz with hz | hz
      · exact hall z hz
      · simp at hz; rw [hz]; exact hb2.1 rfl
  obtain rfl : i = l.length := by omega
  rw [List.take_length] at hall
  refine m_run ?_
  (apply TK.ret1; exact rfl; exact rfl; (exact m_val))
  exact ⟨_, rfl, ⟨true, rfl, by simp only [true_iff]; exact ⟨h1, hall⟩⟩, rfl⟩
end Go.Proofs.Ythbcfamfaicneaa.E
