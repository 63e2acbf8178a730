/- Sort of few numbers; Compact. -/
import Derived.Test.YtokggdgagfmacaaB4
namespace Go.Proofs.Ytokggdgagfmacaa.E
open Go Go.RowKit Go.Proofs
attribute [local irreducible] TK TL TQ TA Fn PV
set_option maxRecDepth 100000 in
theorem len64_t (n : Nat) (hn : n < 256) (Γ : List HP) : FnV Try.prog 140 [.int .u64 (n : Int)] Γ fun v Γ' => (∃ z : Int, v = .int .i64 z) ∧ Γ' = Γ := by
  refine Fn.enter Try.func140 rfl rfl rfl fun E => ?_
  refine m_run ?_
  refine TL.know (t := 21) (v := .int .u8 (n : Int)) (congrArg (Value.int .u8) (u8_in (by omega) (by omega))) ?_
  (apply TL.pv; exact rfl; (apply PV.indexStr (i := n); exact rfl; exact rfl; exact tb rfl; exact rfl; exact (show n < 256 from hn)))
  refine m_run ?_
  (apply TK.ret1; exact rfl; exact rfl; exact rfl)
  exact ⟨_, rfl, ⟨_, rfl⟩, rfl⟩
set_option maxRecDepth 100000 in
theorem len_t (n : Nat) (hn : n < 256) (Γ : List HP) : FnV Try.prog 120 [.int .u64 (n : Int)] Γ fun v Γ' => (∃ z : Int, v = .int .i64 z) ∧ Γ' = Γ := by
  refine Fn.enter Try.func120 rfl rfl rfl fun E => ?_
  refine m_run ?_
  (apply TL.callV; exact rfl; exact callB_of (by kernel_rfl); exact rfl; exact fun _ h => h)
  exact len64_t n hn Γ
  rintro _ Γ ⟨⟨z, rfl⟩, rfl⟩
  refine m_run ?_
  (apply TK.ret1; exact rfl; exact rfl; (exact m_val))
  exact ⟨_, rfl, ⟨_, rfl⟩, rfl⟩
set_option maxRecDepth 100000 in
set_option maxHeartbeats 1000000 in
theorem pdq_t (A : Option Addr) (c : Nat) (D : List Nat) (z : Int) (Γ : List HP) (hn : D.length ≤ 12) :
    FnV Try.prog 119 [.slice A D.length c, .int .i64 0, .int .i64 (D.length : Int), .int .i64 z] (own 23 1 (.slice A D.length c) D.length (u32s D) :: Γ)
      fun v Γ' => v = .tuple #[] ∧ ∃ D', D'.Perm D ∧ D'.Pairwise (· ≤ ·) ∧ Γ' = own 23 1 (.slice A D.length c) D.length (u32s D') :: Γ := by
  refine Fn.enter Try.func119 rfl rfl rfl fun E => ?_
  refine m_run ?_
  apply TK.iter (fun j ρ' Γ' => lk ρ' 0 = .slice A D.length c ∧ lk ρ' 1 = .int .i64 0 ∧ lk ρ' 2 = .int .i64 (D.length : Int) ∧ Γ' = own 23 1 (.slice A D.length c) D.length (u32s D) :: Γ) 0
  · exact ⟨rfl, rfl, rfl, rfl⟩
  rintro j _ ρ' _ ⟨e0, e1, e2, rfl⟩
  refine TK.know3 e0 e1 e2 ?_
  have hw : IntKind.i64.wrap ((D.length : Int) - 0) = (D.length : Int) := by rw [i64_in (by omega) (by omega)]; omega
  refine m_run ?_
  (apply TL.callV; exact rfl; exact callB_of (by kernel_rfl); exact rfl; exact fun _ h => h)
  exact insSort_t A c D Γ (by omega)
  rintro _ _ ⟨rfl, D', hp, hs, rfl⟩
  refine m_run ?_
  (apply TK.ret0; exact rfl; exact rfl)
  exact ⟨_, rfl, rfl, D', hp, hs, rfl⟩
set_option maxRecDepth 100000 in
theorem sort_t (A : Option Addr) (c : Nat) (D : List Nat) (Γ : List HP) (hn : D.length ≤ 12) :
    FnV Try.prog 95 [.slice A D.length c] (own 23 1 (.slice A D.length c) D.length (u32s D) :: Γ)
      fun v Γ' => v = .tuple #[] ∧ ∃ D', D'.Perm D ∧ D'.Pairwise (· ≤ ·) ∧ Γ' = own 23 1 (.slice A D.length c) D.length (u32s D') :: Γ := by
  refine Fn.enter Try.func95 rfl rfl rfl fun E => ?_
  refine m_run ?_
  refine TL.know (t := 8) (v := .int .u64 (D.length : Int)) (congrArg (Value.int .u64) (u64_in (by omega) (by omega))) ?_
  (apply TL.callV; exact rfl; exact callB_of (by kernel_rfl); exact rfl; exact fun _ h => h)
  exact len_t D.length (by omega) _
  rintro _ _ ⟨⟨z, rfl⟩, rfl⟩
  refine m_run ?_
  (apply TL.callV; exact rfl; exact callB_of (by kernel_rfl); exact rfl; exact fun _ h => h)
  exact pdq_t A c D z Γ hn
  rintro _ _ ⟨rfl, D', hp, hs, rfl⟩
  refine m_run ?_
  exact TK.over0 rfl rfl ⟨_, rfl, rfl, D', hp, hs, rfl⟩
/-! ### Compact -/
def compL : List Nat → List Nat
  | [] => []
  | x :: l => match l with
    | [] => [x]
    | y :: _ => if x = y then compL l else x :: compL l
theorem compL_ne : ∀ (l : List Nat) (x : Nat), compL (x :: l) ≠ []
  | [], _ => by simp [compL]
  | y :: l, x => by
    simp only [compL]
    split
    · exact compL_ne l y
    · simp
theorem compL_snoc : ∀ (l : List Nat) (x y : Nat), compL (l ++ [x, y]) = if x = y then compL (l ++ [x]) else compL (l ++ [x]) ++ [y]
  | [], x, y => by
    show compL [x, y] = _
    simp only [compL, List.nil_append]
    by_cases h : x = y
    · subst h; rw [if_pos rfl, if_pos rfl]
    · rw [if_neg h, if_neg h]; rfl
  | [a], x, y => by
    show compL (a :: x :: [y]) = if x = y then compL (a :: [x]) else compL (a :: [x]) ++ [y]
    have ih := compL_snoc [] x y
    rw [List.nil_append, List.nil_append] at ih
    have h1 : compL (a :: x :: [y]) = if a = x then compL [x, y] else a :: compL [x, y] := rfl
    have h2 : compL (a :: [x]) = if a = x then compL [x] else a :: compL [x] := rfl
    rw [h1, h2, ih]
    split <;> split <;> rfl
  | a :: b :: l, x, y => by
    have ih := compL_snoc (b :: l) x y
    have h1 : compL (a :: b :: l ++ [x, y]) = if a = b then compL (b :: l ++ [x, y]) else a :: compL (b :: l ++ [x, y]) := rfl
    have h2 : compL (a :: b :: l ++ [x]) = if a = b then compL (b :: l ++ [x]) else a :: compL (b :: l ++ [x]) := rfl
    rw [h1, h2, ih]
    split <;> split <;> rfl
theorem compL_len : ∀ l : List Nat, (compL l).length ≤ l.length
  | [] => Nat.le_refl _
  | [x] => Nat.le_refl _
  | x :: y :: l => by
    have ih := compL_len (y :: l)
    have h1 : compL (x :: y :: l) = if x = y then compL (y :: l) else x :: compL (y :: l) := rfl
    rw [h1]
    split
    · rw [List.length_cons]; omega
    · rw [List.length_cons, List.length_cons]; omega
theorem take_two {D : List Nat} {k x y : Nat} (hx : D[k - 1]? = some x) (hy : D[k]? = some y) (hk : 1 ≤ k) : D.take (k + 1) = D.take (k - 1) ++ [x, y] ∧ D.take k = D.take (k - 1) ++ [x] := by
  have h1 : D.take k = D.take (k - 1) ++ [x] := by
    obtain ⟨q, rfl⟩ : ∃ q, k = q + 1 := ⟨k - 1, by omega⟩
    rw [Nat.add_sub_cancel] at hx ⊢
    rw [List.take_add_one, hx]; rfl
  refine ⟨?_, h1⟩
  rw [List.take_add_one, hy, h1]
  simp
theorem own_cut {e n k c : Nat} {A : Option Addr} {cs : List Value} {m : Mem} (h : own e 1 (.slice A n c) n cs m) (hk : k ≤ n) (h0 : 0 < n) : own e 1 (.slice A k c) k (cs.take k) m := by
  obtain ⟨hl, ⟨_, hn, _⟩ | ⟨g, cap, cur, hv, hn, hcap, hcl, htk, hr⟩⟩ := h
  · omega
  · injection hv with h1 _ h2
    subst h1; subst h2
    rw [Nat.mul_one] at hl htk
    refine ⟨by simp; omega, .inr ⟨g, c, cur, rfl, by omega, hcap, hcl, ?_, hr⟩⟩
    rw [Nat.mul_one, ← htk, List.take_take, Nat.min_eq_left hk]
theorem own_cap {e sz n c : Nat} {A : Option Addr} {cs : List Value} {Γ : List HP} {m : Mem} (hm : all (own e sz (.slice A n c) n cs :: Γ) m) : n ≤ c := by
  obtain ⟨m1, m2, _, _, h1, _⟩ := hm
  exact (own_len h1).2
theorem ownU_cell {D L : List Nat} {b c q z : Nat} {Γ : List HP} (hq : L[q]? = some z) : has (own 23 1 (.slice (some ⟨b, 0, none⟩) D.length c) D.length (u32s L) :: Γ) (fun m => cellAt m b q (.int .u32 (z : Int))) := by
  have h1 : has (own 23 1 (.slice (some ⟨b, 0, none⟩) D.length c) D.length (u32s L) :: Γ) (srcAt 1 (some ⟨b, 0, none⟩) D.length (u32s L)) := has_at (up_src _ _ _ _) 0 rfl fun _ h => own_src h
  have h2 := has_u32 h1 hq
  rwa [Nat.zero_add] at h2
set_option maxRecDepth 100000 in
set_option maxHeartbeats 2000000 in
theorem compact_t (A : Option Addr) (c : Nat) (D : List Nat) (Γ : List HP) (hn : D.length ≤ 1000000) :
    FnV Try.prog 96 [.slice A D.length c] (own 23 1 (.slice A D.length c) D.length (u32s D) :: Γ)
      fun v Γ' => v = .slice A (compL D).length c ∧ Γ' = own 23 1 (.slice A (compL D).length c) (compL D).length (u32s (compL D)) :: Γ := by
  refine Fn.enter Try.func96 rfl rfl rfl fun E => ?_
  by_cases h2 : D.length < 2
  · have hD : compL D = D := by
      match D, h2 with
      | [], _ => rfl
      | [x], _ => rfl
    rw [hD]
    refine m_run ?_
    (apply TK.ret1; exact rfl; exact rfl; (exact m_val))
    exact ⟨_, rfl, rfl, rfl⟩
  refine m_run ?_
  refine TK.mem fun m0 hm0 => ?_
  obtain ⟨b, rfl⟩ := own_addr hm0 (by omega)
  have hcap := own_cap hm0
  clear hm0 m0
  apply TK.iter (fun j ρ' Γ' => ∃ k : Nat, k + j = D.length ∧ 1 ≤ k ∧ compL (D.take k) = D.take k ∧ lk ρ' 0 = .slice (some ⟨b, 0, none⟩) D.length c ∧ lk ρ' 3 = .int .i64 (k : Int) ∧ Γ' = own 23 1 (.slice (some ⟨b, 0, none⟩) D.length c) D.length (u32s D) :: Γ) (D.length - 1)
  · exact ⟨1, by omega, Nat.le_refl _, by
      match D, h2 with
      | x :: l, _ => rfl, rfl, rfl, rfl⟩
  rintro j IH ρ' _ ⟨k, hkj, hk1, hkk, e0, e3, rfl⟩
  refine TK.know2 e0 e3 ?_
  by_cases hk : k < D.length
  · obtain ⟨y, hy⟩ : ∃ y, D[k]? = some y := ⟨D[k], List.getElem?_eq_getElem hk⟩
    obtain ⟨x, hx⟩ : ∃ x, D[k - 1]? = some x := ⟨D[k - 1], List.getElem?_eq_getElem (by omega)⟩
    obtain ⟨ht1, ht2⟩ := take_two hx hy hk1
    have hsn := compL_snoc (D.take (k - 1)) x y
    rw [← ht1, ← ht2, hkk] at hsn
    have g1 : has (own 23 1 (.slice (some ⟨b, 0, none⟩) D.length c) D.length (u32s D) :: Γ) (fun m => cellAt m b k (.int .u32 (y : Int))) := ownU_cell hy
    have g2 : has (own 23 1 (.slice (some ⟨b, 0, none⟩) D.length c) D.length (u32s D) :: Γ) (fun m => cellAt m b (k - 1) (.int .u32 (x : Int))) := ownU_cell hx
    refine m_run ?_
    refine TK.drawS mixed rfl ?_
    refine m_take (At.mk : At 0) ?_; refine m_take (At.mk : At 1) ?_; refine m_take (At.mk : At 2) ?_; refine m_take (At.mk : At 3) ?_; refine m_take (At.mk : At 4) ?_; refine m_take (At.mk : At 5) ?_; refine m_take (At.mk : At 6) ?_
    refine TA.know (t := 22) (v := .int .i64 ((k - 1 : Nat) : Int)) (congrArg (Value.int .i64) (by rw [i64_in (by omega) (by omega)]; omega)) ?_
    refine m_take (At.mk : At 7) ?_; refine m_take (At.mk : At 8) ?_; refine m_take (At.mk : At 9) ?_
    by_cases hxy : x = y
    · refine TA.isT 25 rfl (beq_iff_eq.2 (by omega)) ?_
      refine TA.done (by kernel_rfl) ?_
      rw [if_pos hxy] at hsn
      clear IH
      refine m_run ?_
      have hck : c ≠ k := by omega
      (apply TL.pv; exact rfl; (apply PV.sliceS (i := k) (j := D.length); exact rfl; exact tb rfl; exact rfl; exact tb rfl; exact .some rfl; exact .none; exact Nat.le_of_lt hk; exact hcap))
      refine TL.know (t := 28) (v := .slice (some ⟨b, k, none⟩) (D.length - k) (c - k)) (congrArg (fun z => Value.slice z (D.length - k) (c - k)) (by
        rw [if_neg hck]
        show some (Addr.add _ _) = _
        rw [add_at, Nat.mul_one, Nat.zero_add])) ?_
      refine m_run ?_
      apply TK.iter (fun j ρ' Γ' => ∃ (q : Nat) (L : List Nat), k + q + j = D.length ∧ 1 ≤ q ∧ L.length = D.length ∧ L.take (compL (D.take (k + q))).length = compL (D.take (k + q)) ∧ L.drop (k + q - 1) = D.drop (k + q - 1) ∧ (compL (D.take (k + q))).length ≤ k + q - 1 ∧ lk ρ' 0 = .slice (some ⟨b, 0, none⟩) D.length c ∧ lk ρ' 3 = .int .i64 ((compL (D.take (k + q))).length : Int) ∧ lk ρ' 4 = .slice (some ⟨b, k, none⟩) (D.length - k) (c - k) ∧ lk ρ' 5 = .int .i64 (q : Int) ∧ Γ' = own 23 1 (.slice (some ⟨b, 0, none⟩) D.length c) D.length (u32s L) :: Γ) (D.length - k - 1)
      · refine ⟨1, D, by omega, Nat.le_refl _, rfl, ?_, rfl, ?_, rfl, ?_, rfl, rfl, rfl⟩
        · rw [hsn, List.length_take, Nat.min_eq_left (by omega)]
        · rw [hsn, List.length_take]; omega
        · rw [hsn, List.length_take, Nat.min_eq_left (by omega)]; rfl
      rintro j2 IH2 ρ2 _ ⟨q, L, hqj, hq1, hLl, hLt, hLd, hkk2, f0, f3, f4, f5, rfl⟩
      generalize hK : compL (D.take (k + q)) = K at *
      refine TK.know4 f0 f3 f4 f5 ?_
      by_cases hq : k + q < D.length
      · obtain ⟨v, hv⟩ : ∃ v, D[k + q]? = some v := ⟨D[k + q], List.getElem?_eq_getElem hq⟩
        obtain ⟨u, hu⟩ : ∃ u, D[k + q - 1]? = some u := ⟨D[k + q - 1], List.getElem?_eq_getElem (by omega)⟩
        obtain ⟨tt1, tt2⟩ := take_two hu hv (by omega)
        have hsn2 := compL_snoc (D.take (k + q - 1)) u v
        rw [← tt1, ← tt2, hK] at hsn2
        have hLget : ∀ p, k + q - 1 ≤ p → L[p]? = D[p]? := fun p hp => by
          have := congrArg (fun l => l[p - (k + q - 1)]?) hLd
          simp only [List.getElem?_drop] at this
          rwa [show k + q - 1 + (p - (k + q - 1)) = p by omega] at this
        have c1 : has (own 23 1 (.slice (some ⟨b, 0, none⟩) D.length c) D.length (u32s L) :: Γ) (fun m => cellAt m b (k + q) (.int .u32 (v : Int))) := ownU_cell (by rw [hLget _ (by omega), hv])
        have c2 : has (own 23 1 (.slice (some ⟨b, 0, none⟩) D.length c) D.length (u32s L) :: Γ) (fun m => cellAt m b (k + (q - 1)) (.int .u32 (u : Int))) := ownU_cell (by rw [hLget _ (by omega), show k + (q - 1) = k + q - 1 by omega, hu])
        refine m_run ?_
        refine TK.drawS mixed rfl ?_
        refine m_take (At.mk : At 0) ?_; refine m_take (At.mk : At 1) ?_; refine m_take (At.mk : At 2) ?_; refine m_take (At.mk : At 3) ?_; refine m_take (At.mk : At 4) ?_; refine m_take (At.mk : At 5) ?_; refine m_take (At.mk : At 6) ?_
        refine TA.know (t := 41) (v := .int .i64 ((q - 1 : Nat) : Int)) (congrArg (Value.int .i64) (by rw [i64_in (by omega) (by omega)]; omega)) ?_
        refine m_take (At.mk : At 7) ?_; refine m_take (At.mk : At 8) ?_; refine m_take (At.mk : At 9) ?_
        by_cases huv : u = v
        · refine TA.isF 44 rfl (bne_eq_false_iff_eq.2 (by omega)) ?_
          refine TA.done (by kernel_rfl) ?_
          rw [if_pos huv] at hsn2
          refine m_run ?_
          refine IH2 (j2 - 1) _ _ (by omega) ⟨q + 1, L, by omega, by omega, hLl, ?_, ?_, ?_, rfl, ?_, rfl, congrArg (Value.int .i64) (i64_succ q (by omega)), rfl⟩
          · rw [← Nat.add_assoc, hsn2]; exact hLt
          · have := congrArg (List.drop 1) hLd
            rw [List.drop_drop, List.drop_drop] at this
            rwa [show k + q - 1 + 1 = k + (q + 1) - 1 by omega] at this
          · rw [← Nat.add_assoc, hsn2]; omega
          · rw [← Nat.add_assoc, hsn2]; rfl
        · refine TA.isT 44 rfl (bne_iff_ne.2 (by omega)) ?_
          refine TA.done (by kernel_rfl) ?_
          rw [if_neg huv] at hsn2
          refine m_run ?_
          (apply TL.storeOwn 0 K.length; exact rfl; exact rfl; exact rfl; exact rfl; exact tb rfl; exact rfl; exact (Nat.zero_add _).symm)
          · omega
          refine TL.imp (Δ := own 23 1 (.slice (some ⟨b, 0, none⟩) D.length c) D.length (u32s (L.set K.length v)) :: Γ) (fun _ h => by rw [← u32s_set]; exact h) ?_
          have hKL : K.length < L.length := by omega
          have ht3 : (L.set K.length v).take (K.length + 1) = K ++ [v] := by
            rw [List.take_add_one, List.getElem?_set_self hKL, List.take_set_of_le (Nat.le_refl _), hLt]
            rfl
          refine m_run ?_
          refine IH2 (j2 - 1) _ _ (by omega) ⟨q + 1, L.set K.length v, by omega, by omega, by rw [List.length_set]; exact hLl, ?_, ?_, ?_, rfl, ?_, rfl, congrArg (Value.int .i64) (i64_succ q (by omega)), rfl⟩
          · rw [← Nat.add_assoc, hsn2, List.length_append]; exact ht3
          · rw [show k + (q + 1) - 1 = k + q by omega, List.drop_set_of_lt (by omega)]
            have := congrArg (List.drop 1) hLd
            rw [List.drop_drop, List.drop_drop] at this
            rwa [show k + q - 1 + 1 = k + q by omega] at this
          · rw [← Nat.add_assoc, hsn2, List.length_append, List.length_singleton]; omega
          · rw [← Nat.add_assoc, hsn2, List.length_append, List.length_singleton]; exact congrArg (Value.int .i64) (i64_succ K.length (by omega))
      have hkq : k + q = D.length := by omega
      rw [hkq, List.take_length] at hK
      rw [hK]
      clear IH2
      have hck2 : c ≠ K.length := by omega
      refine m_run ?_
      (apply TL.pv; exact rfl; (apply PV.sliceS (i := K.length) (j := D.length); exact rfl; exact tb rfl; exact rfl; exact tb rfl; exact .some rfl; exact .none; exact (by omega); exact hcap))
      refine TL.know (t := 56) (v := .slice (some ⟨b, K.length, none⟩) (D.length - K.length) (c - K.length)) (congrArg (fun z => Value.slice z (D.length - K.length) (c - K.length)) (by
        rw [if_neg hck2]
        show some (Addr.add _ _) = _
        rw [add_at, Nat.mul_one, Nat.zero_add])) ?_
      (apply TL.clearOwn (o := K.length) (m := D.length - K.length) 0; exact rfl; exact rfl; exact tb rfl; exact rfl; exact tb rfl; exact rfl; exact rfl; exact (by omega); exact (by omega))
      refine TL.imp (Δ := own 23 1 (.slice (some ⟨b, 0, none⟩) K.length c) K.length (u32s K) :: Γ) (fun m h => sep_mono h (fun q hq => ?_) (fun _ => id)) ?_
      · have h1 := own_cut (k := K.length) hq (by omega) (by omega)
        have h3 : ((u32s L).take K.length ++ List.replicate (D.length - K.length) (Value.int .u32 0) ++ (u32s L).drop (K.length + (D.length - K.length))).take K.length = u32s K := by
          rw [List.append_assoc, List.take_append_of_le_length (by rw [List.length_take, u32s_len]; omega), List.take_take, Nat.min_self]
          unfold u32s
          rw [← List.map_take, hLt]
        rw [← h3]
        exact h1
      refine m_run ?_
      (apply TL.pv; exact rfl; (apply PV.sliceS (i := 0) (j := K.length); exact rfl; exact tb rfl; exact rfl; exact tb rfl; exact .none; exact .some rfl; exact (by omega); exact (by omega)))
      refine TL.know (t := 59) (v := .slice (some ⟨b, 0, none⟩) K.length c) (by
        show Value.slice (if c = 0 then some ⟨b, 0, none⟩ else some (Addr.add ⟨b, 0, none⟩ (0 * 1))) (K.length - 0) (c - 0) = _
        rw [if_neg (by omega), add_at]
        rfl) ?_
      refine m_run ?_
      (apply TK.ret1; exact rfl; exact rfl; (exact m_val))
      exact ⟨_, rfl, rfl, rfl⟩
    · refine TA.isF 25 rfl (beq_eq_false_iff_ne.2 (by omega)) ?_
      refine TA.done (by kernel_rfl) ?_
      rw [if_neg hxy] at hsn
      have hk2 : compL (D.take (k + 1)) = D.take (k + 1) := by rw [hsn, List.take_add_one, hy]; rfl
      refine m_run ?_
      exact IH (j - 1) _ _ (by omega) ⟨k + 1, by omega, by omega, hk2, rfl, congrArg (Value.int .i64) (i64_succ k (by omega)), rfl⟩
  obtain rfl : k = D.length := by omega
  rw [List.take_length] at hkk
  rw [hkk]
  refine m_run ?_
  (apply TK.ret1; exact rfl; exact rfl; (exact m_val))
  exact ⟨_, rfl, rfl, rfl⟩
end Go.Proofs.Ytokggdgagfmacaa.E
