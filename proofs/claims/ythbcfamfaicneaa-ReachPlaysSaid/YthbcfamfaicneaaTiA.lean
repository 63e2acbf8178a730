/- Numbers that are sorted: a row as an array. -/
import Derived.Test.YthbcfamfaicneaaUa
import Derived.Sort.AssemblyPlain
import Derived.Test.YthbcfamfaicneaaSn
namespace Go.Proofs.Ythbcfamfaicneaa.E.SI
open Go Go.RowKit Go.Proofs Go.Sort

/-- A row of numbers of one's own, as an array. -/
abbrev DD (b c n : Nat) (d : Array Int) : HP := own 3 1 (.slice (some ⟨b, 0, none⟩) n c) n (nums .i64 d.toList)
theorem cellD {b c n i : Nat} {d : Array Int} {Γ : List HP} (hn : d.size = n) (hi : i < n) : has (DD b c n d :: Γ) (fun m => cellAt m b i (.int .i64 d[i]!)) := by
  have h1 : has (DD b c n d :: Γ) (srcAt 1 (some ⟨b, 0, none⟩) n (nums .i64 d.toList)) := has_at (up_src _ _ _ _) 0 rfl fun _ h => own_src h
  have h2 := has_num h1 (i := i) (by simp; omega)
  have h3 : d.toList[i]'(by simp; omega) = d[i]! := by
    rw [getElem!_pos d i (by omega)]; simp
  rw [Nat.zero_add, h3] at h2
  exact h2
theorem swpD {q : IntKind} {d : Array Int} {i j : Nat} : ((nums q d.toList).set i (.int q d[j]!)).set j (.int q d[i]!) = nums q (swp d i j).toList := by
  unfold nums swp
  rw [Array.toList_setIfInBounds, Array.toList_setIfInBounds, List.map_set, List.map_set]
theorem PV.quoI {P : Program} {S : World → Prop} {ρ : Env} {d : Nat} {ty : TypeId} {pos : String} {after : Array Edge} {t t' : TypeId} {x y : Operand} {n m : Nat} {b : Int} (ea : ev ρ x = .int .i64 (n : Int)) (eb : ev ρ y = .int .i64 b) (hb : b = (m : Int)) (hm : m ≠ 0) (hn : n < 9223372036854775808) : PV P ρ S ⟨some d, .binOp .quo t x y t', ty, pos, after, none⟩ (.int .i64 ((n / m : Nat) : Int)) := fun w hw => by
  subst hb
  have h1 := PV.quo (P := P) (S := S) (d := d) (ty := ty) (pos := pos) (after := after) (t := t) (t' := t') ea eb (by omega) w hw
  have h2 : n / m ≤ n := Nat.div_le_self _ _
  rw [h1, show (n : Int).tdiv (m : Int) = ((n / m : Nat) : Int) from rfl, i64_nat (by omega)]
attribute [local irreducible] TK TL TQ TA TB Fn PV Sort.insInner Sort.heapBuild Sort.heapPop Sort.scanDown Sort.shiftDown Sort.partialIns
theorem nanI_t (x : Int) (Γ : List HP) : FnV Try.prog 116 [.int .i64 x] Γ fun v Γ' => v = .bool false ∧ Γ' = Γ := by
  refine Fn.enter Try.func116 rfl rfl rfl fun E => ?_
  refine m_run ?_
  (apply TK.ret1; exact rfl; exact rfl; exact rfl)
  exact ⟨_, rfl, congrArg Value.bool (by simp), rfl⟩
theorem less_t (x y : Int) (Γ : List HP) : FnV Try.prog 91 [.int .i64 x, .int .i64 y] Γ fun v Γ' => v = .bool (decide (x < y)) ∧ Γ' = Γ := by
  refine Fn.enter Try.func91 rfl rfl rfl fun E => ?_
  refine m_run ?_
  (apply TL.callV; exact rfl; exact callB_of (by kernel_rfl); exact rfl; exact fun _ h => h)
  exact nanI_t x Γ
  rintro _ Γ ⟨rfl, rfl⟩
  refine m_run ?_
  (apply TK.ret1; exact rfl; exact rfl; exact rfl)
  exact ⟨_, rfl, rfl, rfl⟩
set_option maxRecDepth 100000 in
set_option maxHeartbeats 4000000 in
theorem ins_t (b c n a e : Nat) (d0 : Array Int) (Γ : List HP) (hsz0 : d0.size = n) (ha : a ≤ n) (he : e ≤ n) (hn : n ≤ 1000000000) :
    FnV Try.prog 85 [.slice (some ⟨b, 0, none⟩) n c, .int .i64 (a : Int), .int .i64 (e : Int)] (DD b c n d0 :: Γ) fun v Γ' => v = .tuple #[] ∧ Γ' = DD b c n (insertionSort ltInt d0 a e) :: Γ := by
  refine Fn.enter Try.func85 rfl rfl rfl fun E => ?_
  unfold insertionSort
  generalize hX : insOuter ltInt a e (a + 1) d0 = X
  refine m_run ?_
  apply TK.iter (fun j ρ' Γ' => ∃ (i : Nat) (d : Array Int), i + j = e + a + 1 ∧ a + 1 ≤ i ∧ i ≤ n + 1 ∧ d.size = n ∧ insOuter ltInt a e i d = X ∧ lk ρ' 0 = .slice (some ⟨b, 0, none⟩) n c ∧ lk ρ' 1 = .int .i64 (a : Int) ∧ lk ρ' 2 = .int .i64 (e : Int) ∧ lk ρ' 6 = .int .i64 (i : Int) ∧ Γ' = DD b c n d :: Γ) e
  · exact ⟨a + 1, d0, by omega, Nat.le_refl _, by omega, hsz0, hX, rfl, rfl, rfl, congrArg (Value.int .i64) (by rw [i64_in (by omega) (by omega)]; omega), rfl⟩
  rintro j IH ρ' _ ⟨i, d, hij, hi1, hin, hsz, hX, e0, e1, e2, e6, rfl⟩
  refine TK.know4 e0 e1 e2 e6 ?_
  by_cases hi : i < e
  · rw [Sort.insOuter, if_pos hi] at hX
    refine m_run ?_
    generalize hY : insInner ltInt a i d = Y at hX
    apply TK.iter (fun j ρ' Γ' => ∃ (d : Array Int), j ≤ i ∧ d.size = n ∧ insInner ltInt a j d = Y ∧ lk ρ' 0 = .slice (some ⟨b, 0, none⟩) n c ∧ lk ρ' 1 = .int .i64 (a : Int) ∧ lk ρ' 2 = .int .i64 (e : Int) ∧ lk ρ' 6 = .int .i64 (i : Int) ∧ lk ρ' 7 = .int .i64 (j : Int) ∧ Γ' = DD b c n d :: Γ) i
    · exact ⟨d, Nat.le_refl _, hsz, hY, rfl, rfl, rfl, rfl, rfl, rfl⟩
    clear hY hsz
    rintro q IH2 ρ2 _ ⟨d, hqi, hsz, hY, f0, f1, f2, f6, f7, rfl⟩
    refine TK.know5 f0 f1 f2 f6 f7 ?_
    have hfin : d = Y → Y.size = n ∧ insOuter ltInt a e (i + 1) Y = X := fun h => ⟨h ▸ hsz, hX⟩
    by_cases hk : a < q
    · obtain ⟨p, rfl⟩ : ∃ p, q = p + 1 := ⟨q - 1, by omega⟩
      rw [Sort.insInner] at hY
      have hc1 := cellD (b := b) (c := c) (Γ := Γ) hsz (show p + 1 < n by omega)
      have hc2 := cellD (b := b) (c := c) (Γ := Γ) hsz (show p < n by omega)
      refine m_run ?_
      refine TK.drawS mixed rfl ?_
      refine m_take (At.mk : At 0) ?_; refine m_take (At.mk : At 1) ?_; refine m_take (At.mk : At 2) ?_
      refine TA.isT 18 rfl (decide_eq_true (by omega)) ?_
      refine m_take (At.mk : At 3) ?_; refine m_take (At.mk : At 4) ?_; refine m_take (At.mk : At 5) ?_; refine m_take (At.mk : At 6) ?_; refine m_take (At.mk : At 7) ?_; refine m_take (At.mk : At 8) ?_; refine m_take (At.mk : At 9) ?_; refine m_take (At.mk : At 10) ?_
      refine TA.know (t := 26) (v := .int .i64 ((p : Nat) : Int)) (congrArg (Value.int .i64) (by rw [i64_in (by omega) (by omega)]; omega)) ?_
      refine m_take (At.mk : At 11) ?_; refine m_take (At.mk : At 12) ?_
      (apply TA.one 13; kernel_rfl; exact rfl)
      refine m_rrun ?_
      (apply TL.callV; exact rfl; exact callB_of (by kernel_rfl); exact rfl; exact fun _ h => h)
      exact less_t _ _ _
      rintro _ _ ⟨rfl, rfl⟩
      refine TL.back (by (focus ((repeat (first | assumption | exact Ent.refl _ | apply Ent.tail)); done))) ?_
      refine m_take (At.mk : At 14) ?_
      by_cases hlt : d[p + 1]! < d[p]!
      · rw [if_pos (by simp [ltInt, hlt]; omega)] at hY
        refine TA.isT 30 rfl (decide_eq_true hlt) ?_
        refine TA.done (by kernel_rfl) ?_
        refine m_run ?_
        have hcI := cellD (b := b) (c := c) (Γ := Γ) hsz (show p + 1 < n by omega)
        have hcK := cellD (b := b) (c := c) (Γ := Γ) hsz (show p < n by omega)
        refine TK.drawB mixed rfl 15 (DD b c n d :: Γ) (Γ) ?_
        refine m_bake (At.mk : At 0) ?_; refine m_bake (At.mk : At 1) ?_; refine m_bake (At.mk : At 2) ?_; refine m_bake (At.mk : At 3) ?_; refine m_bake (At.mk : At 4) ?_
        refine TB.know (t := 37) (v := .int .i64 ((p : Nat) : Int)) (congrArg (Value.int .i64) (by rw [i64_in (by omega) (by omega)]; omega)) ?_
        refine m_bake (At.mk : At 5) ?_; refine m_bake (At.mk : At 6) ?_; refine m_bake (At.mk : At 7) ?_
        refine TB.know (t := 40) (v := .int .i64 ((p : Nat) : Int)) (congrArg (Value.int .i64) (by rw [i64_in (by omega) (by omega)]; omega)) ?_
        refine m_bake (At.mk : At 8) ?_; refine m_bake (At.mk : At 9) ?_; refine m_bake (At.mk : At 10) ?_; refine m_bake (At.mk : At 11) ?_; refine m_bake (At.mk : At 12) ?_; refine m_bake (At.mk : At 13) ?_; refine m_bake (At.mk : At 14) ?_
        (apply TB.last; kernel_rfl; exact rfl)
        (apply TL.storeOwn 0 (p + 1); exact rfl; exact rfl; exact rfl; exact rfl; exact tb rfl; exact rfl; exact (Nat.zero_add _).symm; exact (by omega))
        refine TL.back (by (focus ((repeat (first | assumption | exact Ent.refl _ | apply Ent.tail)); done))) ?_
        refine m_take (At.mk : At 16) ?_
        (apply TA.one 17; kernel_rfl; exact rfl)
        (apply TL.storeOwn 0 (p); exact rfl; exact rfl; exact rfl; exact rfl; exact tb rfl; exact rfl; exact (Nat.zero_add _).symm; exact (by omega))
        refine TL.back (by (focus ((repeat (first | assumption | exact Ent.refl _ | apply Ent.tail)); done))) ?_
        refine TA.done (by kernel_rfl) ?_
        refine TK.imp (Δ := DD b c n (swp d (p + 1) (p)) :: Γ) (fun _ h => by show all (own _ _ _ _ (nums _ (swp d (p + 1) (p)).toList) :: _) _; rw [← swpD]; exact h) ?_
        have hsz : (swp d (p + 1) (p)).size = n := (size_swp _ _ _).trans hsz
        clear hcI hcK
        clear hc1 hc2
        refine m_run ?_
        exact IH2 p _ _ (by omega) ⟨_, by omega, hsz, hY, rfl, rfl, rfl, rfl, congrArg (Value.int .i64) (by rw [i64_in (by omega) (by omega)]; omega), rfl⟩
      · rw [if_neg (by simp [ltInt, hlt])] at hY
        obtain ⟨g1, g2⟩ := hfin hY
        refine TA.isF 30 rfl (decide_eq_false hlt) ?_
        refine TA.done (by kernel_rfl) ?_
        rw [hY]
        refine m_run ?_
        exact IH (j - 1) _ _ (by omega) ⟨i + 1, Y, by omega, by omega, by omega, g1, g2, rfl, rfl, rfl, congrArg (Value.int .i64) (i64_succ i (by omega)), rfl⟩
    · have hY2 : d = Y := by
        rw [← hY]
        cases q with
        | zero => rw [Sort.insInner]
        | succ p => rw [Sort.insInner, if_neg (by simp; omega)]
      obtain ⟨g1, g2⟩ := hfin hY2
      rw [hY2]
      refine m_run ?_
      refine TK.drawS mixed rfl ?_
      refine m_take (At.mk : At 0) ?_; refine m_take (At.mk : At 1) ?_; refine m_take (At.mk : At 2) ?_
      refine TA.isF 18 rfl (decide_eq_false (by omega)) ?_
      refine m_take (At.mk : At 3) ?_; refine m_take (At.mk : At 4) ?_; refine m_take (At.mk : At 5) ?_; refine m_take (At.mk : At 6) ?_; refine m_take (At.mk : At 7) ?_; refine m_take (At.mk : At 8) ?_; refine m_take (At.mk : At 9) ?_; refine m_take (At.mk : At 10) ?_; refine m_take (At.mk : At 11) ?_; refine m_take (At.mk : At 12) ?_; refine m_take (At.mk : At 13) ?_; refine m_take (At.mk : At 14) ?_
      refine TA.done (by kernel_rfl) ?_
      refine m_run ?_
      exact IH (j - 1) _ _ (by omega) ⟨i + 1, Y, by omega, by omega, by omega, g1, g2, rfl, rfl, rfl, congrArg (Value.int .i64) (i64_succ i (by omega)), rfl⟩
  rw [Sort.insOuter, if_neg hi] at hX
  rw [hX]
  refine m_run ?_
  exact TK.over0 rfl rfl ⟨_, rfl, rfl, rfl⟩

set_option maxRecDepth 100000 in
set_option maxHeartbeats 4000000 in
theorem order2_t (b c n s p q : Nat) (z : Int) (d : Array Int) (Γ : List HP) (hsz : d.size = n) (hp : p < n) (hq : q < n) :
    FnV Try.prog 125 [.slice (some ⟨b, 0, none⟩) n c, .int .i64 (p : Int), .int .i64 (q : Int), .pointer (some ⟨s, 0, none⟩)] (row s [.int .i64 z] 3 :: DD b c n d :: Γ) fun v Γ' => ∃ (x y : Nat) (z' : Int), (x = p ∧ y = q ∨ x = q ∧ y = p) ∧ v = .tuple #[.int .i64 (x : Int), .int .i64 (y : Int)] ∧ Γ' = row s [.int .i64 z'] 3 :: DD b c n d :: Γ := by
  refine Fn.enter Try.func125 rfl rfl rfl fun E => ?_
  have hc1 := has_tlc (K := row s [.int .i64 z] 3) (cellD (b := b) (c := c) (Γ := Γ) hsz hp)
  have hc2 := has_tlc (K := row s [.int .i64 z] 3) (cellD (b := b) (c := c) (Γ := Γ) hsz hq)
  refine m_run ?_
  refine TK.drawS mixed rfl ?_
  refine m_take (At.mk : At 0) ?_; refine m_take (At.mk : At 1) ?_; refine m_take (At.mk : At 2) ?_; refine m_take (At.mk : At 3) ?_; refine m_take (At.mk : At 4) ?_; refine m_take (At.mk : At 5) ?_; refine m_take (At.mk : At 6) ?_; refine m_take (At.mk : At 7) ?_
  (apply TA.one 8; kernel_rfl; exact rfl)
  (apply TL.callV; exact rfl; exact callB_of (by kernel_rfl); exact rfl; exact fun _ h => h)
  exact less_t _ _ _
  rintro _ _ ⟨rfl, rfl⟩
  refine TL.back (by (focus ((repeat (first | assumption | exact Ent.refl _ | apply Ent.tail)); done))) ?_
  refine TA.done (by kernel_rfl) ?_
  by_cases h : d[q]! < d[p]!
  · rw [decide_eq_true h]
    refine m_run ?_
    (apply TK.ret2; exact rfl; exact rfl; (exact m_val); (exact m_val))
    exact ⟨_, rfl, q, p, _, .inr ⟨rfl, rfl⟩, rfl, rfl⟩
  · rw [decide_eq_false h]
    refine m_run ?_
    (apply TK.ret2; exact rfl; exact rfl; (exact m_val); (exact m_val))
    exact ⟨_, rfl, p, q, _, .inl ⟨rfl, rfl⟩, rfl, rfl⟩
set_option maxRecDepth 100000 in
set_option maxHeartbeats 4000000 in
theorem median_t (b c n s p q r : Nat) (z : Int) (d : Array Int) (Γ : List HP) (hsz : d.size = n) (hp : p < n) (hq : q < n) (hr : r < n) :
    FnV Try.prog 115 [.slice (some ⟨b, 0, none⟩) n c, .int .i64 (p : Int), .int .i64 (q : Int), .int .i64 (r : Int), .pointer (some ⟨s, 0, none⟩)] (row s [.int .i64 z] 3 :: DD b c n d :: Γ) fun v Γ' => ∃ (x : Nat) (z' : Int), (x = p ∨ x = q ∨ x = r) ∧ v = .int .i64 (x : Int) ∧ Γ' = row s [.int .i64 z'] 3 :: DD b c n d :: Γ := by
  refine Fn.enter Try.func115 rfl rfl rfl fun E => ?_
  refine m_run ?_
  (apply TL.callV; exact rfl; exact callB_of (by kernel_rfl); exact rfl; exact fun _ h => h)
  exact order2_t b c n s p q z d Γ hsz hp hq
  rintro _ _ ⟨x1, y1, z1, h1, rfl, rfl⟩
  refine m_run ?_
  (apply TL.callV; exact rfl; exact callB_of (by kernel_rfl); exact rfl; exact fun _ h => h)
  exact order2_t b c n s y1 r z1 d Γ hsz (by omega) hr
  rintro _ _ ⟨x2, y2, z2, h2, rfl, rfl⟩
  refine m_run ?_
  (apply TL.callV; exact rfl; exact callB_of (by kernel_rfl); exact rfl; exact fun _ h => h)
  exact order2_t b c n s x1 x2 z2 d Γ hsz (by omega) (by omega)
  rintro _ _ ⟨x3, y3, z3, h3, rfl, rfl⟩
  refine m_run ?_
  (apply TK.ret1; exact rfl; exact rfl; (exact m_val))
  exact ⟨_, rfl, y3, z3, by omega, rfl, rfl⟩
set_option maxRecDepth 100000 in
set_option maxHeartbeats 4000000 in
theorem medAdj_t (b c n s p : Nat) (z : Int) (d : Array Int) (Γ : List HP) (hsz : d.size = n) (h1 : 1 ≤ p) (hp : p + 1 < n) (hn : n ≤ 1000000000) :
    FnV Try.prog 114 [.slice (some ⟨b, 0, none⟩) n c, .int .i64 (p : Int), .pointer (some ⟨s, 0, none⟩)] (row s [.int .i64 z] 3 :: DD b c n d :: Γ) fun v Γ' => ∃ (x : Nat) (z' : Int), (x + 1 = p ∨ x = p ∨ x = p + 1) ∧ v = .int .i64 (x : Int) ∧ Γ' = row s [.int .i64 z'] 3 :: DD b c n d :: Γ := by
  refine Fn.enter Try.func114 rfl rfl rfl fun E => ?_
  refine m_run ?_
  refine TL.know (t := 9) (v := .int .i64 ((p - 1 : Nat) : Int)) (congrArg (Value.int .i64) (by rw [i64_in (by omega) (by omega)]; omega)) ?_
  refine m_run ?_
  refine TL.know (t := 12) (v := .int .i64 ((p + 1 : Nat) : Int)) (congrArg (Value.int .i64) (by rw [i64_in (by omega) (by omega)]; omega)) ?_
  (apply TL.callV; exact rfl; exact callB_of (by kernel_rfl); exact rfl; exact fun _ h => h)
  exact median_t b c n s (p - 1) p (p + 1) z d Γ hsz (by omega) (by omega) hp
  rintro _ _ ⟨x, z1, h, rfl, rfl⟩
  refine m_run ?_
  (apply TK.ret1; exact rfl; exact rfl; (exact m_val))
  exact ⟨_, rfl, x, z1, by omega, rfl, rfl⟩
set_option maxRecDepth 100000 in
set_option maxHeartbeats 4000000 in
theorem pivot_t (b c n a e : Nat) (d : Array Int) (Γ : List HP) (hsz : d.size = n) (hae : a + 12 < e) (he : e ≤ n) (hn : n ≤ 1000000000) :
    FnV Try.prog 88 [.slice (some ⟨b, 0, none⟩) n c, .int .i64 (a : Int), .int .i64 (e : Int)] (DD b c n d :: Γ) fun v Γ' => ∃ (x : Nat) (z : Int), a ≤ x ∧ x < e ∧ (z = 0 ∨ z = 1 ∨ z = 2) ∧ v = .tuple #[.int .i64 (x : Int), .int .i64 z] ∧ Γ' = DD b c n d :: Γ := by
  refine Fn.enter Try.func88 rfl rfl rfl fun E => ?_
  have hq1 : (e - a) / 4 * 4 ≤ e - a := Nat.div_mul_le_self _ _
  have hq3 : 3 ≤ (e - a) / 4 := by omega
  have hqt : IntKind.i64.wrap (((e - a : Nat) : Int).tdiv 4) = (((e - a) / 4 : Nat) : Int) := by
    rw [show ((e - a : Nat) : Int).tdiv 4 = (((e - a) / 4 : Nat) : Int) from rfl, i64_in (by omega) (by omega)]
  have hq50 : 50 ≤ e - a → 12 ≤ (e - a) / 4 := by omega
  generalize (e - a) / 4 = q at *
  refine m_run ?_
  refine TL.know (t := 8) (v := .int .i64 ((e - a : Nat) : Int)) (congrArg (Value.int .i64) (by rw [i64_in (by omega) (by omega)]; omega)) ?_
  refine m_run ?_
  (apply TL.alloc; exact rfl; exact tb rfl; (exact m_lst))
  intro s
  refine m_run ?_
  refine TK.know (t := 10) (v := .int .i64 ((a + q * 1 : Nat) : Int)) (congrArg (Value.int .i64) (by rw [hqt, i64_in (x := (q : Int) * 1) (by omega) (by omega), i64_in (by omega) (by omega)]; omega)) ?_
  refine TK.know (t := 11) (v := .int .i64 ((a + q * 2 : Nat) : Int)) (congrArg (Value.int .i64) (by rw [hqt, i64_in (x := (q : Int) * 2) (by omega) (by omega), i64_in (by omega) (by omega)]; omega)) ?_
  refine TK.know (t := 12) (v := .int .i64 ((a + q * 3 : Nat) : Int)) (congrArg (Value.int .i64) (by rw [hqt, i64_in (x := (q : Int) * 3) (by omega) (by omega), i64_in (by omega) (by omega)]; omega)) ?_
  refine TK.imp (Δ := row s [.int .i64 0] 3 :: DD b c n d :: Γ) (fun _ h => h) ?_
  by_cases h50 : 50 ≤ e - a
  · have hbig := hq50 h50
    refine m_run ?_
    (apply TL.callV; exact rfl; exact callB_of (by kernel_rfl); exact rfl; exact fun _ h => h)
    exact medAdj_t b c n s (a + q * 1) 0 d Γ hsz (by omega) (by omega) hn
    rintro _ _ ⟨x1, z1, h1, rfl, rfl⟩
    refine m_run ?_
    (apply TL.callV; exact rfl; exact callB_of (by kernel_rfl); exact rfl; exact fun _ h => h)
    exact medAdj_t b c n s (a + q * 2) z1 d Γ hsz (by omega) (by omega) hn
    rintro _ _ ⟨x2, z2, h2, rfl, rfl⟩
    refine m_run ?_
    (apply TL.callV; exact rfl; exact callB_of (by kernel_rfl); exact rfl; exact fun _ h => h)
    exact medAdj_t b c n s (a + q * 3) z2 d Γ hsz (by omega) (by omega) hn
    rintro _ _ ⟨x3, z3, h3, rfl, rfl⟩
    refine m_run ?_
    (apply TL.callV; exact rfl; exact callB_of (by kernel_rfl); exact rfl; exact fun _ h => h)
    exact median_t b c n s x1 x2 x3 z3 d Γ hsz (by omega) (by omega) (by omega)
    rintro _ _ ⟨x, z, h, rfl, rfl⟩
    by_cases hz : z = 0
    · refine m_run ?_
      (apply TK.retS2; exact rfl; exact rfl; (exact m_val); (exact m_val))
      · exact ⟨_, rfl, x, 1, by omega, by omega, .inr (.inl rfl), rfl, rfl⟩
      · (repeat (first | exact List.Sublist.refl _ | apply List.Sublist.cons_cons | apply List.Sublist.cons))
    · by_cases hz2 : z = 12
      · refine m_run ?_
        (apply TK.retS2; exact rfl; exact rfl; (exact m_val); (exact m_val))
        · exact ⟨_, rfl, x, 2, by omega, by omega, .inr (.inr rfl), rfl, rfl⟩
        · (repeat (first | exact List.Sublist.refl _ | apply List.Sublist.cons_cons | apply List.Sublist.cons))
      · refine m_run ?_
        (apply TK.retS2; exact rfl; exact rfl; (exact m_val); (exact m_val))
        · exact ⟨_, rfl, x, 0, by omega, by omega, .inl rfl, rfl, rfl⟩
        · (repeat (first | exact List.Sublist.refl _ | apply List.Sublist.cons_cons | apply List.Sublist.cons))
  · refine m_run ?_
    (apply TL.callV; exact rfl; exact callB_of (by kernel_rfl); exact rfl; exact fun _ h => h)
    exact median_t b c n s (a + q * 1) (a + q * 2) (a + q * 3) 0 d Γ hsz (by omega) (by omega) (by omega)
    rintro _ _ ⟨x, z, h, rfl, rfl⟩
    by_cases hz : z = 0
    · refine m_run ?_
      (apply TK.retS2; exact rfl; exact rfl; (exact m_val); (exact m_val))
      · exact ⟨_, rfl, x, 1, by omega, by omega, .inr (.inl rfl), rfl, rfl⟩
      · (repeat (first | exact List.Sublist.refl _ | apply List.Sublist.cons_cons | apply List.Sublist.cons))
    · by_cases hz2 : z = 12
      · refine m_run ?_
        (apply TK.retS2; exact rfl; exact rfl; (exact m_val); (exact m_val))
        · exact ⟨_, rfl, x, 2, by omega, by omega, .inr (.inr rfl), rfl, rfl⟩
        · (repeat (first | exact List.Sublist.refl _ | apply List.Sublist.cons_cons | apply List.Sublist.cons))
      · refine m_run ?_
        (apply TK.retS2; exact rfl; exact rfl; (exact m_val); (exact m_val))
        · exact ⟨_, rfl, x, 0, by omega, by omega, .inl rfl, rfl, rfl⟩
        · (repeat (first | exact List.Sublist.refl _ | apply List.Sublist.cons_cons | apply List.Sublist.cons))
set_option maxRecDepth 100000 in
set_option maxHeartbeats 4000000 in
theorem rev_t (b c n a e : Nat) (d0 : Array Int) (Γ : List HP) (hsz0 : d0.size = n) (hae : a < e) (he : e ≤ n) (hn : n ≤ 1000000000) :
    FnV Try.prog 89 [.slice (some ⟨b, 0, none⟩) n c, .int .i64 (a : Int), .int .i64 (e : Int)] (DD b c n d0 :: Γ) fun v Γ' => v = .tuple #[] ∧ Γ' = DD b c n (reverseRange d0 a e) :: Γ := by
  refine Fn.enter Try.func89 rfl rfl rfl fun E => ?_
  unfold reverseRange
  generalize hX : reverseLoop a (e - 1) d0 = X
  refine m_run ?_
  apply TK.iter (fun m ρ' Γ' => ∃ (i j : Nat) (d : Array Int), j + 1 - i ≤ m ∧ i ≤ n ∧ j < n ∧ d.size = n ∧ reverseLoop i j d = X ∧ lk ρ' 0 = .slice (some ⟨b, 0, none⟩) n c ∧ lk ρ' 6 = .int .i64 (i : Int) ∧ lk ρ' 7 = .int .i64 (j : Int) ∧ Γ' = DD b c n d :: Γ) n
  · exact ⟨a, e - 1, d0, by omega, by omega, by omega, hsz0, hX, rfl, rfl, congrArg (Value.int .i64) (by rw [i64_in (by omega) (by omega)]; omega), rfl⟩
  rintro m IH ρ' _ ⟨i, j, d, hm, hi, hj, hsz, hX, e0, e6, e7, rfl⟩
  refine TK.know3 e0 e6 e7 ?_
  by_cases hij : i < j
  · rw [Sort.reverseLoop, if_pos hij] at hX
    refine m_run ?_
    have hcI := cellD (b := b) (c := c) (Γ := Γ) hsz (show i < n by omega)
    have hcK := cellD (b := b) (c := c) (Γ := Γ) hsz (show j < n by omega)
    refine TK.drawB mixed rfl 13 (DD b c n d :: Γ) (Γ) ?_
    refine m_bake (At.mk : At 0) ?_; refine m_bake (At.mk : At 1) ?_; refine m_bake (At.mk : At 2) ?_; refine m_bake (At.mk : At 3) ?_; refine m_bake (At.mk : At 4) ?_; refine m_bake (At.mk : At 5) ?_; refine m_bake (At.mk : At 6) ?_; refine m_bake (At.mk : At 7) ?_; refine m_bake (At.mk : At 8) ?_; refine m_bake (At.mk : At 9) ?_; refine m_bake (At.mk : At 10) ?_; refine m_bake (At.mk : At 11) ?_; refine m_bake (At.mk : At 12) ?_
    (apply TB.last; kernel_rfl; exact rfl)
    (apply TL.storeOwn 0 (i); exact rfl; exact rfl; exact rfl; exact rfl; exact tb rfl; exact rfl; exact (Nat.zero_add _).symm; exact (by omega))
    refine TL.back (by (focus ((repeat (first | assumption | exact Ent.refl _ | apply Ent.tail)); done))) ?_
    refine m_take (At.mk : At 14) ?_
    (apply TA.one 15; kernel_rfl; exact rfl)
    (apply TL.storeOwn 0 (j); exact rfl; exact rfl; exact rfl; exact rfl; exact tb rfl; exact rfl; exact (Nat.zero_add _).symm; exact (by omega))
    refine TL.back (by (focus ((repeat (first | assumption | exact Ent.refl _ | apply Ent.tail)); done))) ?_
    refine TA.done (by kernel_rfl) ?_
    refine TK.imp (Δ := DD b c n (swp d (i) (j)) :: Γ) (fun _ h => by show all (own _ _ _ _ (nums _ (swp d (i) (j)).toList) :: _) _; rw [← swpD]; exact h) ?_
    have hsz : (swp d (i) (j)).size = n := (size_swp _ _ _).trans hsz
    clear hcI hcK
    refine m_run ?_
    exact IH (m - 1) _ _ (by omega) ⟨i + 1, j - 1, _, by omega, by omega, by omega, hsz, hX, rfl, congrArg (Value.int .i64) (by rw [i64_in (by omega) (by omega)]; omega), congrArg (Value.int .i64) (by rw [i64_in (by omega) (by omega)]; omega), rfl⟩
  rw [Sort.reverseLoop, if_neg hij] at hX
  rw [hX]
  refine m_run ?_
  exact TK.over0 rfl rfl ⟨_, rfl, rfl, rfl⟩

set_option maxRecDepth 100000 in
set_option maxHeartbeats 4000000 in
theorem sift_t (b c n lo hi first : Nat) (d0 : Array Int) (Γ : List HP) (hsz0 : d0.size = n) (hlo : lo ≤ hi) (hf : first + hi ≤ n) (hn : n ≤ 1000000000) :
    FnV Try.prog 113 [.slice (some ⟨b, 0, none⟩) n c, .int .i64 (lo : Int), .int .i64 (hi : Int), .int .i64 (first : Int)] (DD b c n d0 :: Γ) fun v Γ' => v = .tuple #[] ∧ Γ' = DD b c n (siftDown ltInt hi first lo d0) :: Γ := by
  refine Fn.enter Try.func113 rfl rfl rfl fun E => ?_
  generalize hX : siftDown ltInt hi first lo d0 = X
  refine m_run ?_
  apply TK.iter (fun m ρ' Γ' => ∃ (root : Nat) (d : Array Int), hi - root ≤ m ∧ root ≤ hi ∧ d.size = n ∧ siftDown ltInt hi first root d = X ∧ lk ρ' 0 = .slice (some ⟨b, 0, none⟩) n c ∧ lk ρ' 2 = .int .i64 (hi : Int) ∧ lk ρ' 3 = .int .i64 (first : Int) ∧ lk ρ' 8 = .int .i64 (root : Int) ∧ Γ' = DD b c n d :: Γ) hi
  · exact ⟨lo, d0, by omega, hlo, hsz0, hX, rfl, rfl, rfl, rfl, rfl⟩
  rintro m IH ρ' _ ⟨root, d, hm, hrt, hsz, hX, e0, e2, e3, e8, rfl⟩
  refine TK.know4 e0 e2 e3 e8 ?_
  rw [Sort.siftDown] at hX
  by_cases hch : 2 * root + 1 ≥ hi
  · rw [dif_pos hch] at hX
    rw [hX]
    have hw : IntKind.i64.wrap (IntKind.i64.wrap (2 * (root : Int)) + 1) = ((2 * root + 1 : Nat) : Int) := by rw [i64_in (x := 2 * (root : Int)) (by omega) (by omega), i64_in (by omega) (by omega)]; omega
    refine m_run ?_
    refine TK.know (t := 16) (v := .bool true) (congrArg Value.bool (by rw [hw]; exact decide_eq_true (by omega))) ?_
    refine m_run ?_
    exact TK.over0 rfl rfl ⟨_, rfl, rfl, rfl⟩
  · rw [dif_neg hch] at hX
    have hw : IntKind.i64.wrap (IntKind.i64.wrap (2 * (root : Int)) + 1) = ((2 * root + 1 : Nat) : Int) := by rw [i64_in (x := 2 * (root : Int)) (by omega) (by omega), i64_in (by omega) (by omega)]; omega
    refine m_run ?_
    refine TK.know (t := 16) (v := .bool false) (congrArg Value.bool (by rw [hw]; exact decide_eq_false (by omega))) ?_
    refine TK.know (t := 9) (v := .int .i64 ((2 * root + 1 : Nat) : Int)) (congrArg (Value.int .i64) hw) ?_
    refine m_run ?_
    by_cases hr : 2 * root + 1 + 1 < hi
    · have hc1 := cellD (b := b) (c := c) (Γ := Γ) hsz (show first + (2 * root + 1) < n by omega)
      have hc2 := cellD (b := b) (c := c) (Γ := Γ) hsz (show first + (2 * root + 1) + 1 < n by omega)
      refine TK.drawS mixed rfl ?_
      refine m_take (At.mk : At 0) ?_; refine m_take (At.mk : At 1) ?_
      refine TA.know (t := 18) (v := .int .i64 ((2 * root + 1 + 1 : Nat) : Int)) (congrArg (Value.int .i64) (by rw [i64_in (by omega) (by omega)]; omega)) ?_
      refine m_take (At.mk : At 2) ?_; refine m_take (At.mk : At 3) ?_
      refine TA.isT 20 rfl (decide_eq_true (by omega)) ?_
      refine m_take (At.mk : At 4) ?_; refine m_take (At.mk : At 5) ?_; refine m_take (At.mk : At 6) ?_; refine m_take (At.mk : At 7) ?_; refine m_take (At.mk : At 8) ?_
      refine TA.know (t := 25) (v := .int .i64 ((first + (2 * root + 1) : Nat) : Int)) (congrArg (Value.int .i64) (by rw [i64_in (by omega) (by omega)]; omega)) ?_
      refine m_take (At.mk : At 9) ?_; refine m_take (At.mk : At 10) ?_; refine m_take (At.mk : At 11) ?_; refine m_take (At.mk : At 12) ?_; refine m_take (At.mk : At 13) ?_; refine m_take (At.mk : At 14) ?_
      refine TA.know (t := 31) (v := .int .i64 ((first + (2 * root + 1) : Nat) : Int)) (congrArg (Value.int .i64) (by rw [i64_in (by omega) (by omega)]; omega)) ?_
      refine m_take (At.mk : At 15) ?_
      refine TA.know (t := 32) (v := .int .i64 ((first + (2 * root + 1) + 1 : Nat) : Int)) (congrArg (Value.int .i64) (by rw [i64_in (by omega) (by omega)]; omega)) ?_
      refine m_take (At.mk : At 16) ?_; refine m_take (At.mk : At 17) ?_
      (apply TA.one 18; kernel_rfl; exact rfl)
      refine m_rrun ?_
      (apply TL.callV; exact rfl; exact callB_of (by kernel_rfl); exact rfl; exact fun _ h => h)
      exact less_t _ _ _
      rintro _ _ ⟨rfl, rfl⟩
      refine TL.back (by (focus ((repeat (first | assumption | exact Ent.refl _ | apply Ent.tail)); done))) ?_
      refine m_take (At.mk : At 19) ?_
      by_cases h1 : d[first + (2 * root + 1)]! < d[first + (2 * root + 1) + 1]!
      · rw [if_pos (by simp [ltInt, h1]; omega)] at hX
        refine TA.isT 36 rfl (decide_eq_true h1) ?_
        refine TA.done (by kernel_rfl) ?_
        clear hc1 hc2
        refine m_run ?_
        refine TK.know (t := 9) (v := .int .i64 ((2 * root + 2 : Nat) : Int)) (congrArg (Value.int .i64) (by rw [i64_in (by omega) (by omega)]; omega)) ?_
        have hc3 := cellD (b := b) (c := c) (Γ := Γ) hsz (show first + root < n by omega)
        have hc4 := cellD (b := b) (c := c) (Γ := Γ) hsz (show first + (2 * root + 2) < n by omega)
        refine m_run ?_
        refine TK.drawS mixed rfl ?_
        refine m_take (At.mk : At 0) ?_; refine m_take (At.mk : At 1) ?_; refine m_take (At.mk : At 2) ?_; refine m_take (At.mk : At 3) ?_
        refine TA.know (t := 42) (v := .int .i64 ((first + root : Nat) : Int)) (congrArg (Value.int .i64) (by rw [i64_in (by omega) (by omega)]; omega)) ?_
        refine m_take (At.mk : At 4) ?_; refine m_take (At.mk : At 5) ?_; refine m_take (At.mk : At 6) ?_; refine m_take (At.mk : At 7) ?_; refine m_take (At.mk : At 8) ?_; refine m_take (At.mk : At 9) ?_
        refine TA.know (t := 48) (v := .int .i64 ((first + (2 * root + 2) : Nat) : Int)) (congrArg (Value.int .i64) (by rw [i64_in (by omega) (by omega)]; omega)) ?_
        refine m_take (At.mk : At 10) ?_; refine m_take (At.mk : At 11) ?_
        (apply TA.one 12; kernel_rfl; exact rfl)
        (apply TL.callV; exact rfl; exact callB_of (by kernel_rfl); exact rfl; exact fun _ h => h)
        exact less_t _ _ _
        rintro _ _ ⟨rfl, rfl⟩
        refine TL.back (by (focus ((repeat (first | assumption | exact Ent.refl _ | apply Ent.tail)); done))) ?_
        refine m_take (At.mk : At 13) ?_
        by_cases h2 : d[first + root]! < d[first + (2 * root + 2)]!
        · refine TA.isF 52 rfl (not_f (decide_eq_true h2)) ?_
          refine TA.done (by kernel_rfl) ?_
          rw [if_neg (by simp [ltInt, h2])] at hX
          rw [dif_pos (by omega)] at hX
          clear hc3 hc4
          refine m_run ?_
          have hcI := cellD (b := b) (c := c) (Γ := Γ) hsz (show first + root < n by omega)
          have hcK := cellD (b := b) (c := c) (Γ := Γ) hsz (show first + (2 * root + 2) < n by omega)
          refine TK.drawB mixed rfl 21 (DD b c n d :: Γ) (Γ) ?_
          refine m_bake (At.mk : At 0) ?_; refine m_bake (At.mk : At 1) ?_; refine m_bake (At.mk : At 2) ?_; refine m_bake (At.mk : At 3) ?_
          refine TB.know (t := 56) (v := .int .i64 ((first + root : Nat) : Int)) (congrArg (Value.int .i64) (by rw [i64_in (by omega) (by omega)]; omega)) ?_
          refine m_bake (At.mk : At 4) ?_; refine m_bake (At.mk : At 5) ?_; refine m_bake (At.mk : At 6) ?_; refine m_bake (At.mk : At 7) ?_
          refine TB.know (t := 60) (v := .int .i64 ((first + (2 * root + 2) : Nat) : Int)) (congrArg (Value.int .i64) (by rw [i64_in (by omega) (by omega)]; omega)) ?_
          refine m_bake (At.mk : At 8) ?_; refine m_bake (At.mk : At 9) ?_; refine m_bake (At.mk : At 10) ?_; refine m_bake (At.mk : At 11) ?_
          refine TB.know (t := 64) (v := .int .i64 ((first + (2 * root + 2) : Nat) : Int)) (congrArg (Value.int .i64) (by rw [i64_in (by omega) (by omega)]; omega)) ?_
          refine m_bake (At.mk : At 12) ?_; refine m_bake (At.mk : At 13) ?_; refine m_bake (At.mk : At 14) ?_; refine m_bake (At.mk : At 15) ?_; refine m_bake (At.mk : At 16) ?_; refine m_bake (At.mk : At 17) ?_
          refine TB.know (t := 70) (v := .int .i64 ((first + root : Nat) : Int)) (congrArg (Value.int .i64) (by rw [i64_in (by omega) (by omega)]; omega)) ?_
          refine m_bake (At.mk : At 18) ?_; refine m_bake (At.mk : At 19) ?_; refine m_bake (At.mk : At 20) ?_
          (apply TB.last; kernel_rfl; exact rfl)
          (apply TL.storeOwn 0 (first + root); exact rfl; exact rfl; exact rfl; exact rfl; exact tb rfl; exact rfl; exact (Nat.zero_add _).symm; exact (by omega))
          refine TL.back (by (focus ((repeat (first | assumption | exact Ent.refl _ | apply Ent.tail)); done))) ?_
          refine m_take (At.mk : At 22) ?_
          (apply TA.one 23; kernel_rfl; exact rfl)
          (apply TL.storeOwn 0 (first + (2 * root + 2)); exact rfl; exact rfl; exact rfl; exact rfl; exact tb rfl; exact rfl; exact (Nat.zero_add _).symm; exact (by omega))
          refine TL.back (by (focus ((repeat (first | assumption | exact Ent.refl _ | apply Ent.tail)); done))) ?_
          refine TA.done (by kernel_rfl) ?_
          refine TK.imp (Δ := DD b c n (swp d (first + root) (first + (2 * root + 2))) :: Γ) (fun _ h => by show all (own _ _ _ _ (nums _ (swp d (first + root) (first + (2 * root + 2))).toList) :: _) _; rw [← swpD]; exact h) ?_
          have hsz : (swp d (first + root) (first + (2 * root + 2))).size = n := (size_swp _ _ _).trans hsz
          clear hcI hcK
          refine m_run ?_
          exact IH (m - 1) _ _ (by omega) ⟨2 * root + 2, _, by omega, by omega, hsz, hX, rfl, rfl, rfl, rfl, rfl⟩
        · refine TA.isT 52 rfl (not_t (decide_eq_false h2)) ?_
          refine TA.done (by kernel_rfl) ?_
          rw [if_pos (by simp [ltInt, h2])] at hX
          rw [hX]
          refine m_run ?_
          (apply TK.ret0; exact rfl; exact rfl)
          exact ⟨_, rfl, rfl, rfl⟩
      · rw [if_neg (by simp [ltInt, h1])] at hX
        refine TA.isF 36 rfl (decide_eq_false h1) ?_
        refine TA.done (by kernel_rfl) ?_
        clear hc1 hc2
        have hc3 := cellD (b := b) (c := c) (Γ := Γ) hsz (show first + root < n by omega)
        have hc4 := cellD (b := b) (c := c) (Γ := Γ) hsz (show first + (2 * root + 1) < n by omega)
        refine m_run ?_
        refine TK.drawS mixed rfl ?_
        refine m_take (At.mk : At 0) ?_; refine m_take (At.mk : At 1) ?_; refine m_take (At.mk : At 2) ?_; refine m_take (At.mk : At 3) ?_
        refine TA.know (t := 42) (v := .int .i64 ((first + root : Nat) : Int)) (congrArg (Value.int .i64) (by rw [i64_in (by omega) (by omega)]; omega)) ?_
        refine m_take (At.mk : At 4) ?_; refine m_take (At.mk : At 5) ?_; refine m_take (At.mk : At 6) ?_; refine m_take (At.mk : At 7) ?_; refine m_take (At.mk : At 8) ?_; refine m_take (At.mk : At 9) ?_
        refine TA.know (t := 48) (v := .int .i64 ((first + (2 * root + 1) : Nat) : Int)) (congrArg (Value.int .i64) (by rw [i64_in (by omega) (by omega)]; omega)) ?_
        refine m_take (At.mk : At 10) ?_; refine m_take (At.mk : At 11) ?_
        (apply TA.one 12; kernel_rfl; exact rfl)
        (apply TL.callV; exact rfl; exact callB_of (by kernel_rfl); exact rfl; exact fun _ h => h)
        exact less_t _ _ _
        rintro _ _ ⟨rfl, rfl⟩
        refine TL.back (by (focus ((repeat (first | assumption | exact Ent.refl _ | apply Ent.tail)); done))) ?_
        refine m_take (At.mk : At 13) ?_
        by_cases h2 : d[first + root]! < d[first + (2 * root + 1)]!
        · refine TA.isF 52 rfl (not_f (decide_eq_true h2)) ?_
          refine TA.done (by kernel_rfl) ?_
          rw [if_neg (by simp [ltInt, h2])] at hX
          skip
          clear hc3 hc4
          refine m_run ?_
          have hcI := cellD (b := b) (c := c) (Γ := Γ) hsz (show first + root < n by omega)
          have hcK := cellD (b := b) (c := c) (Γ := Γ) hsz (show first + (2 * root + 1) < n by omega)
          refine TK.drawB mixed rfl 21 (DD b c n d :: Γ) (Γ) ?_
          refine m_bake (At.mk : At 0) ?_; refine m_bake (At.mk : At 1) ?_; refine m_bake (At.mk : At 2) ?_; refine m_bake (At.mk : At 3) ?_
          refine TB.know (t := 56) (v := .int .i64 ((first + root : Nat) : Int)) (congrArg (Value.int .i64) (by rw [i64_in (by omega) (by omega)]; omega)) ?_
          refine m_bake (At.mk : At 4) ?_; refine m_bake (At.mk : At 5) ?_; refine m_bake (At.mk : At 6) ?_; refine m_bake (At.mk : At 7) ?_
          refine TB.know (t := 60) (v := .int .i64 ((first + (2 * root + 1) : Nat) : Int)) (congrArg (Value.int .i64) (by rw [i64_in (by omega) (by omega)]; omega)) ?_
          refine m_bake (At.mk : At 8) ?_; refine m_bake (At.mk : At 9) ?_; refine m_bake (At.mk : At 10) ?_; refine m_bake (At.mk : At 11) ?_
          refine TB.know (t := 64) (v := .int .i64 ((first + (2 * root + 1) : Nat) : Int)) (congrArg (Value.int .i64) (by rw [i64_in (by omega) (by omega)]; omega)) ?_
          refine m_bake (At.mk : At 12) ?_; refine m_bake (At.mk : At 13) ?_; refine m_bake (At.mk : At 14) ?_; refine m_bake (At.mk : At 15) ?_; refine m_bake (At.mk : At 16) ?_; refine m_bake (At.mk : At 17) ?_
          refine TB.know (t := 70) (v := .int .i64 ((first + root : Nat) : Int)) (congrArg (Value.int .i64) (by rw [i64_in (by omega) (by omega)]; omega)) ?_
          refine m_bake (At.mk : At 18) ?_; refine m_bake (At.mk : At 19) ?_; refine m_bake (At.mk : At 20) ?_
          (apply TB.last; kernel_rfl; exact rfl)
          (apply TL.storeOwn 0 (first + root); exact rfl; exact rfl; exact rfl; exact rfl; exact tb rfl; exact rfl; exact (Nat.zero_add _).symm; exact (by omega))
          refine TL.back (by (focus ((repeat (first | assumption | exact Ent.refl _ | apply Ent.tail)); done))) ?_
          refine m_take (At.mk : At 22) ?_
          (apply TA.one 23; kernel_rfl; exact rfl)
          (apply TL.storeOwn 0 (first + (2 * root + 1)); exact rfl; exact rfl; exact rfl; exact rfl; exact tb rfl; exact rfl; exact (Nat.zero_add _).symm; exact (by omega))
          refine TL.back (by (focus ((repeat (first | assumption | exact Ent.refl _ | apply Ent.tail)); done))) ?_
          refine TA.done (by kernel_rfl) ?_
          refine TK.imp (Δ := DD b c n (swp d (first + root) (first + (2 * root + 1))) :: Γ) (fun _ h => by show all (own _ _ _ _ (nums _ (swp d (first + root) (first + (2 * root + 1))).toList) :: _) _; rw [← swpD]; exact h) ?_
          have hsz : (swp d (first + root) (first + (2 * root + 1))).size = n := (size_swp _ _ _).trans hsz
          clear hcI hcK
          refine m_run ?_
          exact IH (m - 1) _ _ (by omega) ⟨2 * root + 1, _, by omega, by omega, hsz, hX, rfl, rfl, rfl, rfl, rfl⟩
        · refine TA.isT 52 rfl (not_t (decide_eq_false h2)) ?_
          refine TA.done (by kernel_rfl) ?_
          rw [if_pos (by simp [ltInt, h2])] at hX
          rw [hX]
          refine m_run ?_
          (apply TK.ret0; exact rfl; exact rfl)
          exact ⟨_, rfl, rfl, rfl⟩
    · rw [if_neg (by simp; omega)] at hX
      refine TK.drawS mixed rfl ?_
      refine m_take (At.mk : At 0) ?_; refine m_take (At.mk : At 1) ?_
      refine TA.know (t := 18) (v := .int .i64 ((2 * root + 1 + 1 : Nat) : Int)) (congrArg (Value.int .i64) (by rw [i64_in (by omega) (by omega)]; omega)) ?_
      refine m_take (At.mk : At 2) ?_; refine m_take (At.mk : At 3) ?_
      refine TA.isF 20 rfl (decide_eq_false (by omega)) ?_
      refine m_take (At.mk : At 4) ?_; refine m_take (At.mk : At 5) ?_; refine m_take (At.mk : At 6) ?_; refine m_take (At.mk : At 7) ?_; refine m_take (At.mk : At 8) ?_; refine m_take (At.mk : At 9) ?_; refine m_take (At.mk : At 10) ?_; refine m_take (At.mk : At 11) ?_; refine m_take (At.mk : At 12) ?_; refine m_take (At.mk : At 13) ?_; refine m_take (At.mk : At 14) ?_; refine m_take (At.mk : At 15) ?_; refine m_take (At.mk : At 16) ?_; refine m_take (At.mk : At 17) ?_; refine m_take (At.mk : At 18) ?_; refine m_take (At.mk : At 19) ?_
      refine TA.done (by kernel_rfl) ?_
      have hc3 := cellD (b := b) (c := c) (Γ := Γ) hsz (show first + root < n by omega)
      have hc4 := cellD (b := b) (c := c) (Γ := Γ) hsz (show first + (2 * root + 1) < n by omega)
      refine m_run ?_
      refine TK.drawS mixed rfl ?_
      refine m_take (At.mk : At 0) ?_; refine m_take (At.mk : At 1) ?_; refine m_take (At.mk : At 2) ?_; refine m_take (At.mk : At 3) ?_
      refine TA.know (t := 42) (v := .int .i64 ((first + root : Nat) : Int)) (congrArg (Value.int .i64) (by rw [i64_in (by omega) (by omega)]; omega)) ?_
      refine m_take (At.mk : At 4) ?_; refine m_take (At.mk : At 5) ?_; refine m_take (At.mk : At 6) ?_; refine m_take (At.mk : At 7) ?_; refine m_take (At.mk : At 8) ?_; refine m_take (At.mk : At 9) ?_
      refine TA.know (t := 48) (v := .int .i64 ((first + (2 * root + 1) : Nat) : Int)) (congrArg (Value.int .i64) (by rw [i64_in (by omega) (by omega)]; omega)) ?_
      refine m_take (At.mk : At 10) ?_; refine m_take (At.mk : At 11) ?_
      (apply TA.one 12; kernel_rfl; exact rfl)
      (apply TL.callV; exact rfl; exact callB_of (by kernel_rfl); exact rfl; exact fun _ h => h)
      exact less_t _ _ _
      rintro _ _ ⟨rfl, rfl⟩
      refine TL.back (by (focus ((repeat (first | assumption | exact Ent.refl _ | apply Ent.tail)); done))) ?_
      refine m_take (At.mk : At 13) ?_
      by_cases h2 : d[first + root]! < d[first + (2 * root + 1)]!
      · refine TA.isF 52 rfl (not_f (decide_eq_true h2)) ?_
        refine TA.done (by kernel_rfl) ?_
        rw [if_neg (by simp [ltInt, h2])] at hX
        skip
        clear hc3 hc4
        refine m_run ?_
        have hcI := cellD (b := b) (c := c) (Γ := Γ) hsz (show first + root < n by omega)
        have hcK := cellD (b := b) (c := c) (Γ := Γ) hsz (show first + (2 * root + 1) < n by omega)
        refine TK.drawB mixed rfl 21 (DD b c n d :: Γ) (Γ) ?_
        refine m_bake (At.mk : At 0) ?_; refine m_bake (At.mk : At 1) ?_; refine m_bake (At.mk : At 2) ?_; refine m_bake (At.mk : At 3) ?_
        refine TB.know (t := 56) (v := .int .i64 ((first + root : Nat) : Int)) (congrArg (Value.int .i64) (by rw [i64_in (by omega) (by omega)]; omega)) ?_
        refine m_bake (At.mk : At 4) ?_; refine m_bake (At.mk : At 5) ?_; refine m_bake (At.mk : At 6) ?_; refine m_bake (At.mk : At 7) ?_
        refine TB.know (t := 60) (v := .int .i64 ((first + (2 * root + 1) : Nat) : Int)) (congrArg (Value.int .i64) (by rw [i64_in (by omega) (by omega)]; omega)) ?_
        refine m_bake (At.mk : At 8) ?_; refine m_bake (At.mk : At 9) ?_; refine m_bake (At.mk : At 10) ?_; refine m_bake (At.mk : At 11) ?_
        refine TB.know (t := 64) (v := .int .i64 ((first + (2 * root + 1) : Nat) : Int)) (congrArg (Value.int .i64) (by rw [i64_in (by omega) (by omega)]; omega)) ?_
        refine m_bake (At.mk : At 12) ?_; refine m_bake (At.mk : At 13) ?_; refine m_bake (At.mk : At 14) ?_; refine m_bake (At.mk : At 15) ?_; refine m_bake (At.mk : At 16) ?_; refine m_bake (At.mk : At 17) ?_
        refine TB.know (t := 70) (v := .int .i64 ((first + root : Nat) : Int)) (congrArg (Value.int .i64) (by rw [i64_in (by omega) (by omega)]; omega)) ?_
        refine m_bake (At.mk : At 18) ?_; refine m_bake (At.mk : At 19) ?_; refine m_bake (At.mk : At 20) ?_
        (apply TB.last; kernel_rfl; exact rfl)
        (apply TL.storeOwn 0 (first + root); exact rfl; exact rfl; exact rfl; exact rfl; exact tb rfl; exact rfl; exact (Nat.zero_add _).symm; exact (by omega))
        refine TL.back (by (focus ((repeat (first | assumption | exact Ent.refl _ | apply Ent.tail)); done))) ?_
        refine m_take (At.mk : At 22) ?_
        (apply TA.one 23; kernel_rfl; exact rfl)
        (apply TL.storeOwn 0 (first + (2 * root + 1)); exact rfl; exact rfl; exact rfl; exact rfl; exact tb rfl; exact rfl; exact (Nat.zero_add _).symm; exact (by omega))
        refine TL.back (by (focus ((repeat (first | assumption | exact Ent.refl _ | apply Ent.tail)); done))) ?_
        refine TA.done (by kernel_rfl) ?_
        refine TK.imp (Δ := DD b c n (swp d (first + root) (first + (2 * root + 1))) :: Γ) (fun _ h => by show all (own _ _ _ _ (nums _ (swp d (first + root) (first + (2 * root + 1))).toList) :: _) _; rw [← swpD]; exact h) ?_
        have hsz : (swp d (first + root) (first + (2 * root + 1))).size = n := (size_swp _ _ _).trans hsz
        clear hcI hcK
        refine m_run ?_
        exact IH (m - 1) _ _ (by omega) ⟨2 * root + 1, _, by omega, by omega, hsz, hX, rfl, rfl, rfl, rfl, rfl⟩
      · refine TA.isT 52 rfl (not_t (decide_eq_false h2)) ?_
        refine TA.done (by kernel_rfl) ?_
        rw [if_pos (by simp [ltInt, h2])] at hX
        rw [hX]
        refine m_run ?_
        (apply TK.ret0; exact rfl; exact rfl)
        exact ⟨_, rfl, rfl, rfl⟩

theorem sift_size (hi first root : Nat) (d : Array Int) (h : first + hi ≤ d.size) : (siftDown ltInt hi first root d).size = d.size := by
  have key : ∀ (N root : Nat) (d : Array Int), hi - root ≤ N → (siftDown ltInt hi first root d).size = d.size := by
    intro N
    induction N with
    | zero => intro root d hN; rw [Sort.siftDown, dif_pos (by omega)]
    | succ N ih =>
      intro root d hN
      rw [Sort.siftDown]
      split
      · rfl
      · split
        · split
          · rfl
          · split
            · rw [ih _ _ (by omega), size_swp]
            · rfl
        · split
          · rfl
          · rw [ih _ _ (by omega), size_swp]
  exact key _ root d (Nat.le_refl _)
set_option maxRecDepth 100000 in
set_option maxHeartbeats 4000000 in
theorem heap_t (b c n a e : Nat) (d0 : Array Int) (Γ : List HP) (hsz0 : d0.size = n) (hae : a < e) (he : e ≤ n) (hn : n ≤ 1000000000) :
    FnV Try.prog 86 [.slice (some ⟨b, 0, none⟩) n c, .int .i64 (a : Int), .int .i64 (e : Int)] (DD b c n d0 :: Γ) fun v Γ' => v = .tuple #[] ∧ Γ' = DD b c n (heapSort ltInt d0 a e) :: Γ := by
  refine Fn.enter Try.func86 rfl rfl rfl fun E => ?_
  unfold heapSort
  generalize hB : heapBuild ltInt (e - a) a ((e - a - 1) / 2 + 1) d0 = B
  generalize hX : heapPop ltInt a (e - a) B = X
  have hq : IntKind.i64.wrap ((IntKind.i64.wrap (((e - a : Nat) : Int) - 1)).tdiv 2) = (((e - a - 1) / 2 : Nat) : Int) := by
    rw [i64_in (x := ((e - a : Nat) : Int) - 1) (by omega) (by omega), show ((e - a : Nat) : Int) - 1 = ((e - a - 1 : Nat) : Int) by omega, show ((e - a - 1 : Nat) : Int).tdiv 2 = (((e - a - 1) / 2 : Nat) : Int) from rfl, i64_in (by omega) (by omega)]
  refine m_run ?_
  refine TK.know (t := 8) (v := .int .i64 ((e - a : Nat) : Int)) (congrArg (Value.int .i64) (by rw [i64_in (by omega) (by omega)]; omega)) ?_
  refine m_run ?_
  apply TK.iter (fun m ρ' Γ' => ∃ (d : Array Int), m ≤ (e - a - 1) / 2 + 1 ∧ d.size = n ∧ heapBuild ltInt (e - a) a m d = B ∧ lk ρ' 0 = .slice (some ⟨b, 0, none⟩) n c ∧ lk ρ' 6 = .int .i64 (a : Int) ∧ lk ρ' 7 = .int .i64 0 ∧ lk ρ' 8 = .int .i64 ((e - a : Nat) : Int) ∧ lk ρ' 9 = .int .i64 ((m : Int) - 1) ∧ Γ' = DD b c n d :: Γ) ((e - a - 1) / 2 + 1)
  · exact ⟨d0, Nat.le_refl _, hsz0, hB, rfl, rfl, rfl, rfl, congrArg (Value.int .i64) (by
      rw [show IntKind.i64.wrap ((e : Int) - (a : Int)) = ((e - a : Nat) : Int) by rw [i64_in (by omega) (by omega)]; omega, hq]; omega), rfl⟩
  clear hB
  rintro m IH ρ' _ ⟨d, hm, hsz, hB, e0, e6, e7, e8, e9, rfl⟩
  refine TK.know5 e0 e6 e7 e8 e9 ?_
  cases m with
  | succ m =>
    rw [Sort.heapBuild] at hB
    refine TK.know (t := 9) (v := .int .i64 (m : Int)) (congrArg (Value.int .i64) (by omega)) ?_
    refine m_run ?_
    (apply TL.callV; exact rfl; exact callB_of (by kernel_rfl); exact rfl; exact fun _ h => h)
    exact sift_t b c n m (e - a) a d Γ hsz (by omega) (by omega) hn
    rintro _ _ ⟨rfl, rfl⟩
    have hsz : (siftDown ltInt (e - a) a m d).size = n := (sift_size _ _ _ _ (by omega)).trans hsz
    refine m_run ?_
    exact IH m _ _ (by omega) ⟨_, by omega, hsz, hB, rfl, rfl, rfl, rfl, congrArg (Value.int .i64) (by rw [i64_in (by omega) (by omega)]), rfl⟩
  | zero =>
    rw [Sort.heapBuild] at hB
    rw [hB]
    refine TK.know (t := 9) (v := .int .i64 (-1)) (congrArg (Value.int .i64) (by omega)) ?_
    have hszB : B.size = n := hB ▸ hsz
    clear IH hB hsz
    refine m_run ?_
    apply TK.iter (fun m ρ' Γ' => ∃ (d : Array Int), m ≤ e - a ∧ d.size = n ∧ heapPop ltInt a m d = X ∧ lk ρ' 0 = .slice (some ⟨b, 0, none⟩) n c ∧ lk ρ' 6 = .int .i64 (a : Int) ∧ lk ρ' 7 = .int .i64 0 ∧ lk ρ' 10 = .int .i64 ((m : Int) - 1) ∧ Γ' = DD b c n d :: Γ) (e - a)
    · exact ⟨B, Nat.le_refl _, hszB, hX, rfl, rfl, rfl, congrArg (Value.int .i64) (by rw [i64_in (by omega) (by omega)]), rfl⟩
    clear hX
    rintro m IH ρ' _ ⟨d, hm, hsz, hX, e0, e6, e7, e10, rfl⟩
    refine TK.know4 e0 e6 e7 e10 ?_
    cases m with
    | succ m =>
      rw [Sort.heapPop] at hX
      refine TK.know (t := 10) (v := .int .i64 (m : Int)) (congrArg (Value.int .i64) (by omega)) ?_
      refine m_run ?_
      have hcI := cellD (b := b) (c := c) (Γ := Γ) hsz (show a < n by omega)
      have hcK := cellD (b := b) (c := c) (Γ := Γ) hsz (show a + m < n by omega)
      refine TK.drawB mixed rfl 17 (DD b c n d :: Γ) (Γ) ?_
      refine m_bake (At.mk : At 0) ?_; refine m_bake (At.mk : At 1) ?_; refine m_bake (At.mk : At 2) ?_; refine m_bake (At.mk : At 3) ?_; refine m_bake (At.mk : At 4) ?_; refine m_bake (At.mk : At 5) ?_
      refine TB.know (t := 38) (v := .int .i64 ((a + m : Nat) : Int)) (congrArg (Value.int .i64) (by rw [i64_in (by omega) (by omega)]; omega)) ?_
      refine m_bake (At.mk : At 6) ?_; refine m_bake (At.mk : At 7) ?_; refine m_bake (At.mk : At 8) ?_; refine m_bake (At.mk : At 9) ?_
      refine TB.know (t := 42) (v := .int .i64 ((a + m : Nat) : Int)) (congrArg (Value.int .i64) (by rw [i64_in (by omega) (by omega)]; omega)) ?_
      refine m_bake (At.mk : At 10) ?_; refine m_bake (At.mk : At 11) ?_; refine m_bake (At.mk : At 12) ?_; refine m_bake (At.mk : At 13) ?_; refine m_bake (At.mk : At 14) ?_; refine m_bake (At.mk : At 15) ?_; refine m_bake (At.mk : At 16) ?_
      (apply TB.last; kernel_rfl; exact rfl)
      (apply TL.storeOwn 0 (a); exact rfl; exact rfl; exact rfl; exact rfl; exact tb rfl; exact rfl; exact (Nat.zero_add _).symm; exact (by omega))
      refine TL.back (by (focus ((repeat (first | assumption | exact Ent.refl _ | apply Ent.tail)); done))) ?_
      refine m_take (At.mk : At 18) ?_
      (apply TA.one 19; kernel_rfl; exact rfl)
      (apply TL.storeOwn 0 (a + m); exact rfl; exact rfl; exact rfl; exact rfl; exact tb rfl; exact rfl; exact (Nat.zero_add _).symm; exact (by omega))
      refine TL.back (by (focus ((repeat (first | assumption | exact Ent.refl _ | apply Ent.tail)); done))) ?_
      refine TA.done (by kernel_rfl) ?_
      refine TK.imp (Δ := DD b c n (swp d (a) (a + m)) :: Γ) (fun _ h => by show all (own _ _ _ _ (nums _ (swp d (a) (a + m)).toList) :: _) _; rw [← swpD]; exact h) ?_
      have hsz : (swp d (a) (a + m)).size = n := (size_swp _ _ _).trans hsz
      clear hcI hcK
      refine m_run ?_
      (apply TL.callV; exact rfl; exact callB_of (by kernel_rfl); exact rfl; exact fun _ h => h)
      exact sift_t b c n 0 m a _ Γ hsz (by omega) (by omega) hn
      rintro _ _ ⟨rfl, rfl⟩
      have hsz : (siftDown ltInt m a 0 (swp d a (a + m))).size = n := (sift_size _ _ _ _ (by omega)).trans hsz
      refine m_run ?_
      exact IH m _ _ (by omega) ⟨_, by omega, hsz, hX, rfl, rfl, rfl, congrArg (Value.int .i64) (by rw [i64_in (by omega) (by omega)]), rfl⟩
    | zero =>
      rw [Sort.heapPop] at hX
      rw [hX]
      refine TK.know (t := 10) (v := .int .i64 (-1)) (congrArg (Value.int .i64) (by omega)) ?_
      refine m_run ?_
      exact TK.over0 rfl rfl ⟨_, rfl, rfl, rfl⟩

set_option maxRecDepth 100000 in
set_option maxHeartbeats 4000000 in
theorem partEq_t (b c n a e p : Nat) (d0 : Array Int) (Γ : List HP) (hsz0 : d0.size = n) (hap : a ≤ p) (hpe : p < e) (he : e ≤ n) (hn : n ≤ 1000000000) :
    FnV Try.prog 92 [.slice (some ⟨b, 0, none⟩) n c, .int .i64 (a : Int), .int .i64 (e : Int), .int .i64 (p : Int)] (DD b c n d0 :: Γ) fun v Γ' => v = .int .i64 ((partitionEqual ltInt d0 a e p).1 : Int) ∧ Γ' = DD b c n (partitionEqual ltInt d0 a e p).2 :: Γ := by
  refine Fn.enter Try.func92 rfl rfl rfl fun E => ?_
  unfold partitionEqual
  generalize hX : partEqLoop ltInt a (a + 1) (e - 1) (swp d0 a p) = X
  have hsz := hsz0
  refine m_run ?_
  have hcI := cellD (b := b) (c := c) (Γ := Γ) hsz (show a < n by omega)
  have hcK := cellD (b := b) (c := c) (Γ := Γ) hsz (show p < n by omega)
  refine TK.drawB mixed rfl 13 (DD b c n d0 :: Γ) (Γ) ?_
  refine m_bake (At.mk : At 0) ?_; refine m_bake (At.mk : At 1) ?_; refine m_bake (At.mk : At 2) ?_; refine m_bake (At.mk : At 3) ?_; refine m_bake (At.mk : At 4) ?_; refine m_bake (At.mk : At 5) ?_; refine m_bake (At.mk : At 6) ?_; refine m_bake (At.mk : At 7) ?_; refine m_bake (At.mk : At 8) ?_; refine m_bake (At.mk : At 9) ?_; refine m_bake (At.mk : At 10) ?_; refine m_bake (At.mk : At 11) ?_; refine m_bake (At.mk : At 12) ?_
  (apply TB.last; kernel_rfl; exact rfl)
  (apply TL.storeOwn 0 (a); exact rfl; exact rfl; exact rfl; exact rfl; exact tb rfl; exact rfl; exact (Nat.zero_add _).symm; exact (by omega))
  refine TL.back (by (focus ((repeat (first | assumption | exact Ent.refl _ | apply Ent.tail)); done))) ?_
  refine m_take (At.mk : At 14) ?_
  (apply TA.one 15; kernel_rfl; exact rfl)
  (apply TL.storeOwn 0 (p); exact rfl; exact rfl; exact rfl; exact rfl; exact tb rfl; exact rfl; exact (Nat.zero_add _).symm; exact (by omega))
  refine TL.back (by (focus ((repeat (first | assumption | exact Ent.refl _ | apply Ent.tail)); done))) ?_
  refine TA.done (by kernel_rfl) ?_
  refine TK.imp (Δ := DD b c n (swp d0 (a) (p)) :: Γ) (fun _ h => by show all (own _ _ _ _ (nums _ (swp d0 (a) (p)).toList) :: _) _; rw [← swpD]; exact h) ?_
  have hsz : (swp d0 (a) (p)).size = n := (size_swp _ _ _).trans hsz
  clear hcI hcK
  refine m_run ?_
  apply TK.iter (fun m ρ' Γ' => ∃ (i j : Nat) (d : Array Int), j + 1 - i ≤ m ∧ a + 1 ≤ i ∧ i ≤ j + 1 ∧ j < n ∧ d.size = n ∧ partEqLoop ltInt a i j d = X ∧ lk ρ' 0 = .slice (some ⟨b, 0, none⟩) n c ∧ lk ρ' 1 = .int .i64 (a : Int) ∧ lk ρ' 9 = .int .i64 (i : Int) ∧ lk ρ' 10 = .int .i64 (j : Int) ∧ Γ' = DD b c n d :: Γ) n
  · exact ⟨a + 1, e - 1, _, by omega, by omega, by omega, by omega, hsz, hX, rfl, rfl, congrArg (Value.int .i64) (by rw [i64_in (by omega) (by omega)]; omega), congrArg (Value.int .i64) (by rw [i64_in (by omega) (by omega)]; omega), rfl⟩
  clear hX hsz
  rintro m IH ρ' _ ⟨i, j, d, hm, hi1, hij, hjn, hsz, hX, e0, e1, e9, e10, rfl⟩
  refine TK.know4 e0 e1 e9 e10 ?_
  rw [partEqLoop_eq] at hX
  (repeat (first | refine TK.seq ?_ | refine TK.skip ?_))
  refine TK.block ?_
  (repeat (first | refine TK.seq ?_ | refine TK.skip ?_))
  apply TK.cut (fun ρ' Γ' => lk ρ' 0 = .slice (some ⟨b, 0, none⟩) n c ∧ lk ρ' 1 = .int .i64 (a : Int) ∧ lk ρ' 9 = .int .i64 ((scanUp (fun x => !ltInt d[a]! x) d (j) (i) : Nat) : Int) ∧ lk ρ' 10 = .int .i64 (j : Int) ∧ Γ' = DD b c n d :: Γ)
  · intro k' hk'
    generalize hS : scanUp (fun x => !ltInt d[a]! x) d (j) (i) = I at hk'
    refine m_run ?_
    apply TK.iter (fun m ρ' Γ' => ∃ (x : Nat), (j) + 1 - x ≤ m ∧ (i) ≤ x ∧ x ≤ (j) + 1 ∧ scanUp (fun x => !ltInt d[a]! x) d (j) x = I ∧ lk ρ' 0 = .slice (some ⟨b, 0, none⟩) n c ∧ lk ρ' 1 = .int .i64 (a : Int) ∧ lk ρ' 9 = .int .i64 (x : Int) ∧ lk ρ' 10 = .int .i64 (j : Int) ∧ Γ' = DD b c n d :: Γ) ((j) + 1)
    · exact ⟨i, by omega, Nat.le_refl _, by omega, hS, rfl, rfl, rfl, rfl, rfl⟩
    clear hS
    rintro m IH ρ' _ ⟨x, hm, hx1, hx2, hS, e0, e1, ei, ej, rfl⟩
    refine TK.know4 e0 e1 ei ej ?_
    rw [Sort.scanUp] at hS
    by_cases hx : x ≤ j
    · have hc1 := cellD (b := b) (c := c) (Γ := Γ) hsz (show x < n by omega)
      have hc2 := cellD (b := b) (c := c) (Γ := Γ) hsz (show a < n by omega)
      refine m_run ?_
      refine TK.drawS mixed rfl ?_
      refine m_take (At.mk : At 0) ?_; refine m_take (At.mk : At 1) ?_; refine m_take (At.mk : At 2) ?_
      refine TA.isT 31 rfl (decide_eq_true (by omega)) ?_
      refine m_take (At.mk : At 3) ?_; refine m_take (At.mk : At 4) ?_; refine m_take (At.mk : At 5) ?_; refine m_take (At.mk : At 6) ?_; refine m_take (At.mk : At 7) ?_; refine m_take (At.mk : At 8) ?_; refine m_take (At.mk : At 9) ?_; refine m_take (At.mk : At 10) ?_; refine m_take (At.mk : At 11) ?_
      (apply TA.one 12; kernel_rfl; exact rfl)
      refine m_rrun ?_
      (apply TL.callV; exact rfl; exact callB_of (by kernel_rfl); exact rfl; exact fun _ h => h)
      exact less_t _ _ _
      rintro _ _ ⟨rfl, rfl⟩
      refine TL.back (by (focus ((repeat (first | assumption | exact Ent.refl _ | apply Ent.tail)); done))) ?_
      refine m_take (At.mk : At 13) ?_; refine m_take (At.mk : At 14) ?_
      by_cases h : d[a]! < d[x]!
      · rw [if_neg (by simp [ltInt, h])] at hS
        refine TA.isF 43 rfl (not_f (decide_eq_true h)) ?_
        refine TA.done (by kernel_rfl) ?_
        clear hc1 hc2
        refine m_run ?_
        exact hk' _ _ ⟨rfl, rfl, congrArg (fun z : Nat => Value.int .i64 (z : Int)) hS, rfl, rfl⟩
      · rw [if_pos (by simp [ltInt, h]; omega)] at hS
        refine TA.isT 43 rfl (not_t (decide_eq_false h)) ?_
        refine TA.done (by kernel_rfl) ?_
        clear hc1 hc2
        refine m_run ?_
        exact IH (m - 1) _ _ (by omega) ⟨x + 1, by omega, by omega, by omega, hS, rfl, rfl, congrArg (Value.int .i64) (i64_succ x (by omega)), rfl, rfl⟩
    · rw [if_neg (by simp; omega)] at hS
      refine m_run ?_
      refine TK.drawS mixed rfl ?_
      refine m_take (At.mk : At 0) ?_; refine m_take (At.mk : At 1) ?_; refine m_take (At.mk : At 2) ?_
      refine TA.isF 31 rfl (decide_eq_false (by omega)) ?_
      refine m_take (At.mk : At 3) ?_; refine m_take (At.mk : At 4) ?_; refine m_take (At.mk : At 5) ?_; refine m_take (At.mk : At 6) ?_; refine m_take (At.mk : At 7) ?_; refine m_take (At.mk : At 8) ?_; refine m_take (At.mk : At 9) ?_; refine m_take (At.mk : At 10) ?_; refine m_take (At.mk : At 11) ?_; refine m_take (At.mk : At 12) ?_; refine m_take (At.mk : At 13) ?_; refine m_take (At.mk : At 14) ?_
      refine TA.done (by kernel_rfl) ?_
      refine m_run ?_
      exact hk' _ _ ⟨rfl, rfl, congrArg (fun z : Nat => Value.int .i64 (z : Int)) hS, rfl, rfl⟩
  rintro ρ' _ ⟨e0, e1, ei, ej, rfl⟩
  refine TK.know4 e0 e1 ei ej ?_
  obtain ⟨hs1, hs2, _, hs4⟩ := scanUp_spec (fun x => !ltInt d[a]! x) d j _ i rfl
  have hs2 := hs2 hij
  generalize hI : scanUp (fun x => !ltInt d[a]! x) d j i = i2 at *
  (repeat (first | refine TK.seq ?_ | refine TK.skip ?_))
  apply TK.cut (fun ρ' Γ' => lk ρ' 0 = .slice (some ⟨b, 0, none⟩) n c ∧ lk ρ' 1 = .int .i64 (a : Int) ∧ lk ρ' 9 = .int .i64 (i2 : Int) ∧ lk ρ' 10 = .int .i64 ((scanDown (fun x => ltInt d[a]! x) d (i2) (j) : Nat) : Int) ∧ Γ' = DD b c n d :: Γ)
  · intro k' hk'
    generalize hS : scanDown (fun x => ltInt d[a]! x) d (i2) (j) = J at hk'
    refine m_run ?_
    apply TK.iter (fun m ρ' Γ' => m ≤ j ∧ (i2) ≤ m + 1 ∧ scanDown (fun x => ltInt d[a]! x) d (i2) m = J ∧ lk ρ' 0 = .slice (some ⟨b, 0, none⟩) n c ∧ lk ρ' 1 = .int .i64 (a : Int) ∧ lk ρ' 9 = .int .i64 (i2 : Int) ∧ lk ρ' 10 = .int .i64 (m : Int) ∧ Γ' = DD b c n d :: Γ) (j)
    · exact ⟨Nat.le_refl _, by omega, hS, rfl, rfl, rfl, rfl, rfl⟩
    clear hS
    rintro x IH ρ' _ ⟨hx1, hx2, hS, e0, e1, ei, ej, rfl⟩
    refine TK.know4 e0 e1 ei ej ?_
    by_cases hx : i2 ≤ x
    · obtain ⟨w, rfl⟩ : ∃ w, x = w + 1 := ⟨x - 1, by omega⟩
      rw [Sort.scanDown] at hS
      have hc1 := cellD (b := b) (c := c) (Γ := Γ) hsz (show w + 1 < n by omega)
      have hc2 := cellD (b := b) (c := c) (Γ := Γ) hsz (show a < n by omega)
      refine m_run ?_
      refine TK.drawS mixed rfl ?_
      refine m_take (At.mk : At 0) ?_; refine m_take (At.mk : At 1) ?_; refine m_take (At.mk : At 2) ?_
      refine TA.isT 48 rfl (decide_eq_true (by omega)) ?_
      refine m_take (At.mk : At 3) ?_; refine m_take (At.mk : At 4) ?_; refine m_take (At.mk : At 5) ?_; refine m_take (At.mk : At 6) ?_; refine m_take (At.mk : At 7) ?_; refine m_take (At.mk : At 8) ?_; refine m_take (At.mk : At 9) ?_; refine m_take (At.mk : At 10) ?_; refine m_take (At.mk : At 11) ?_
      (apply TA.one 12; kernel_rfl; exact rfl)
      refine m_rrun ?_
      (apply TL.callV; exact rfl; exact callB_of (by kernel_rfl); exact rfl; exact fun _ h => h)
      exact less_t _ _ _
      rintro _ _ ⟨rfl, rfl⟩
      refine TL.back (by (focus ((repeat (first | assumption | exact Ent.refl _ | apply Ent.tail)); done))) ?_
      refine m_take (At.mk : At 13) ?_
      by_cases h : d[a]! < d[w + 1]!
      · rw [if_pos (by simp [ltInt, h]; omega)] at hS
        refine TA.isT 59 rfl (decide_eq_true h) ?_
        refine TA.done (by kernel_rfl) ?_
        clear hc1 hc2
        refine m_run ?_
        exact IH w _ _ (by omega) ⟨by omega, by omega, hS, rfl, rfl, rfl, congrArg (Value.int .i64) (by rw [i64_in (by omega) (by omega)]; omega), rfl⟩
      · rw [if_neg (by simp [ltInt, h])] at hS
        refine TA.isF 59 rfl (decide_eq_false h) ?_
        refine TA.done (by kernel_rfl) ?_
        clear hc1 hc2
        refine m_run ?_
        exact hk' _ _ ⟨rfl, rfl, rfl, congrArg (fun z : Nat => Value.int .i64 (z : Int)) hS, rfl⟩
    · have hS : x = J := by
        rw [← hS]
        cases x with
        | zero => rw [Sort.scanDown]
        | succ w => rw [Sort.scanDown, if_neg (by simp; omega)]
      refine m_run ?_
      refine TK.drawS mixed rfl ?_
      refine m_take (At.mk : At 0) ?_; refine m_take (At.mk : At 1) ?_; refine m_take (At.mk : At 2) ?_
      refine TA.isF 48 rfl (decide_eq_false (by omega)) ?_
      refine m_take (At.mk : At 3) ?_; refine m_take (At.mk : At 4) ?_; refine m_take (At.mk : At 5) ?_; refine m_take (At.mk : At 6) ?_; refine m_take (At.mk : At 7) ?_; refine m_take (At.mk : At 8) ?_; refine m_take (At.mk : At 9) ?_; refine m_take (At.mk : At 10) ?_; refine m_take (At.mk : At 11) ?_; refine m_take (At.mk : At 12) ?_; refine m_take (At.mk : At 13) ?_
      refine TA.done (by kernel_rfl) ?_
      refine m_run ?_
      exact hk' _ _ ⟨rfl, rfl, rfl, congrArg (fun z : Nat => Value.int .i64 (z : Int)) hS, rfl⟩
  rintro ρ' _ ⟨e0, e1, ei, ej, rfl⟩
  refine TK.know4 e0 e1 ei ej ?_
  obtain ⟨ht1, ht2, _, ht4⟩ := scanDown_spec (fun x => ltInt d[a]! x) d i2 j
  have ht2 := ht2 hs2
  generalize hJ : scanDown (fun x => ltInt d[a]! x) d i2 j = j2 at *
  by_cases hgt : i2 > j2
  · rw [if_pos hgt] at hX
    rw [← hX]
    refine m_run ?_
    (apply TK.ret1; exact rfl; exact rfl; (exact m_val))
    exact ⟨_, rfl, rfl, rfl⟩
  · rw [if_neg hgt] at hX
    have hne : i2 ≠ j2 := fun e => by
      have h1 := hs4 (by omega)
      have h2 := ht4 (by omega) (by omega)
      rw [← e] at h2
      simp only [h2] at h1
      cases h1
    refine m_run ?_
    have hcI := cellD (b := b) (c := c) (Γ := Γ) hsz (show i2 < n by omega)
    have hcK := cellD (b := b) (c := c) (Γ := Γ) hsz (show j2 < n by omega)
    refine TK.drawB mixed rfl 13 (DD b c n d :: Γ) (Γ) ?_
    refine m_bake (At.mk : At 0) ?_; refine m_bake (At.mk : At 1) ?_; refine m_bake (At.mk : At 2) ?_; refine m_bake (At.mk : At 3) ?_; refine m_bake (At.mk : At 4) ?_; refine m_bake (At.mk : At 5) ?_; refine m_bake (At.mk : At 6) ?_; refine m_bake (At.mk : At 7) ?_; refine m_bake (At.mk : At 8) ?_; refine m_bake (At.mk : At 9) ?_; refine m_bake (At.mk : At 10) ?_; refine m_bake (At.mk : At 11) ?_; refine m_bake (At.mk : At 12) ?_
    (apply TB.last; kernel_rfl; exact rfl)
    (apply TL.storeOwn 0 (i2); exact rfl; exact rfl; exact rfl; exact rfl; exact tb rfl; exact rfl; exact (Nat.zero_add _).symm; exact (by omega))
    refine TL.back (by (focus ((repeat (first | assumption | exact Ent.refl _ | apply Ent.tail)); done))) ?_
    refine m_take (At.mk : At 14) ?_
    (apply TA.one 15; kernel_rfl; exact rfl)
    (apply TL.storeOwn 0 (j2); exact rfl; exact rfl; exact rfl; exact rfl; exact tb rfl; exact rfl; exact (Nat.zero_add _).symm; exact (by omega))
    refine TL.back (by (focus ((repeat (first | assumption | exact Ent.refl _ | apply Ent.tail)); done))) ?_
    refine TA.done (by kernel_rfl) ?_
    refine TK.imp (Δ := DD b c n (swp d (i2) (j2)) :: Γ) (fun _ h => by show all (own _ _ _ _ (nums _ (swp d (i2) (j2)).toList) :: _) _; rw [← swpD]; exact h) ?_
    have hsz : (swp d (i2) (j2)).size = n := (size_swp _ _ _).trans hsz
    clear hcI hcK
    refine m_run ?_
    exact IH (m - 1) _ _ (by omega) ⟨i2 + 1, j2 - 1, _, by omega, by omega, by omega, by omega, hsz, hX, rfl, rfl, congrArg (Value.int .i64) (by rw [i64_in (by omega) (by omega)]; omega), congrArg (Value.int .i64) (by rw [i64_in (by omega) (by omega)]; omega), rfl⟩
end Go.Proofs.Ythbcfamfaicneaa.E.SI
