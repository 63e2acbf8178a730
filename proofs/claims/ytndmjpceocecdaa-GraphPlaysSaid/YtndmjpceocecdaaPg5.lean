/- My own texts, one behind the other: TiA TiB N4 Sow Skb Sin Ss Gra. -/
import Derived.Test.YtndmjpceocecdaaPg4
import Derived.Sort.AssemblyPlain
import Derived.Test.YtndmjpceocecdaaPg3
import Derived.Test.YtndmjpceocecdaaPg1
import Derived.Test.YtndmjpceocecdaaPg2
/- Numbers that are sorted: a row as an array. -/
namespace Go.Proofs.Ytndmjpceocecdaa.E.SI
open Go Go.RowKit Go.Proofs Go.Sort

/-- A row of numbers of one's own, as an array. -/
abbrev DD (b c n : Nat) (d : Array Int) : HP := own 3 1 (.slice (some ⟨b, 0, none⟩) n c) n (nums .i64 d.toList)
theorem cellD {b c n i : Nat} {d : Array Int} {Γ : List HP} (hn : d.size = n) (hi : i < n) : has (DD b c n d :: Γ) (fun m => cellAt m b i (.int .i64 d[i]!)) := by
  have h1 : has (DD b c n d :: Γ) (srcAt 1 (some ⟨b, 0, none⟩) n (nums .i64 d.toList)) := has_at (up_src _ _ _ _) 0 rfl fun _ h => own_src h
  have h2 := has_num h1 (i := i) (by simp; omega)
  have h3 : d.toList[i]'(by simp; omega) = d[i]! := by
    rw [getElem!_pos d i (by omega)]; simp
  rw [Nat.zero_add, h3] at h2
  exact h2
theorem swpD {q : IntKind} {d : Array Int} {i j : Nat} : ((nums q d.toList).set i (.int q d[j]!)).set j (.int q d[i]!) = nums q (swp d i j).toList := by
  unfold nums swp
  rw [Array.toList_setIfInBounds, Array.toList_setIfInBounds, List.map_set, List.map_set]
theorem PV.quoI {P : Program} {S : World → Prop} {ρ : Env} {d : Nat} {ty : TypeId} {pos : String} {after : Array Edge} {t t' : TypeId} {x y : Operand} {n m : Nat} {b : Int} (ea : ev ρ x = .int .i64 (n : Int)) (eb : ev ρ y = .int .i64 b) (hb : b = (m : Int)) (hm : m ≠ 0) (hn : n < 9223372036854775808) : PV P ρ S ⟨some d, .binOp .quo t x y t', ty, pos, after, none⟩ (.int .i64 ((n / m : Nat) : Int)) := fun w hw => by
  subst hb
  have h1 := PV.quo (P := P) (S := S) (d := d) (ty := ty) (pos := pos) (after := after) (t := t) (t' := t') ea eb (by omega) w hw
  have h2 : n / m ≤ n := Nat.div_le_self _ _
  rw [h1, show (n : Int).tdiv (m : Int) = ((n / m : Nat) : Int) from rfl, i64_nat (by omega)]
attribute [local irreducible] TK TL TQ TA TB Fn PV Sort.insInner Sort.heapBuild Sort.heapPop Sort.scanDown Sort.shiftDown Sort.partialIns
theorem nanI_t (x : Int) (Γ : List HP) : FnV Try.prog 130 [.int .i64 x] Γ fun v Γ' => v = .bool false ∧ Γ' = Γ := by
  refine Fn.enter Try.func130 rfl rfl rfl fun E => ?_
  refine m_run ?_
  (apply TK.ret1; exact rfl; exact rfl; exact rfl)
  exact ⟨_, rfl, congrArg Value.bool (by simp), rfl⟩
theorem less_t (x y : Int) (Γ : List HP) : FnV Try.prog 123 [.int .i64 x, .int .i64 y] Γ fun v Γ' => v = .bool (decide (x < y)) ∧ Γ' = Γ := by
  refine Fn.enter Try.func123 rfl rfl rfl fun E => ?_
  refine m_run ?_
  (apply TL.callV; exact rfl; exact callB_of (by kernel_rfl); exact rfl; exact fun _ h => h)
  exact nanI_t x Γ
  rintro _ Γ ⟨rfl, rfl⟩
  refine m_run ?_
  (apply TK.ret1; exact rfl; exact rfl; exact rfl)
  exact ⟨_, rfl, rfl, rfl⟩
set_option maxRecDepth 100000 in
set_option maxHeartbeats 4000000 in
theorem ins_t (b c n a e : Nat) (d0 : Array Int) (Γ : List HP) (hsz0 : d0.size = n) (ha : a ≤ n) (he : e ≤ n) (hn : n ≤ 1000000000) :
    FnV Try.prog 117 [.slice (some ⟨b, 0, none⟩) n c, .int .i64 (a : Int), .int .i64 (e : Int)] (DD b c n d0 :: Γ) fun v Γ' => v = .tuple #[] ∧ Γ' = DD b c n (insertionSort ltInt d0 a e) :: Γ := by
  refine Fn.enter Try.func117 rfl rfl rfl fun E => ?_
  unfold insertionSort
  generalize hX : insOuter ltInt a e (a + 1) d0 = X
  refine m_run ?_
  apply TK.iter (fun j ρ' Γ' => ∃ (i : Nat) (d : Array Int), i + j = e + a + 1 ∧ a + 1 ≤ i ∧ i ≤ n + 1 ∧ d.size = n ∧ insOuter ltInt a e i d = X ∧ lk ρ' 0 = .slice (some ⟨b, 0, none⟩) n c ∧ lk ρ' 1 = .int .i64 (a : Int) ∧ lk ρ' 2 = .int .i64 (e : Int) ∧ lk ρ' 6 = .int .i64 (i : Int) ∧ Γ' = DD b c n d :: Γ) e
  · exact ⟨a + 1, d0, by omega, Nat.le_refl _, by omega, hsz0, hX, rfl, rfl, rfl, congrArg (Value.int .i64) (by rw [i64_in (by omega) (by omega)]; omega), rfl⟩
  rintro j IH ρ' _ ⟨i, d, hij, hi1, hin, hsz, hX, e0, e1, e2, e6, rfl⟩
  refine TK.know4 e0 e1 e2 e6 ?_
  by_cases hi : i < e
  · rw [Sort.insOuter, if_pos hi] at hX
    refine m_run ?_
    generalize hY : insInner ltInt a i d = Y at hX
    apply TK.iter (fun j ρ' Γ' => ∃ (d : Array Int), j ≤ i ∧ d.size = n ∧ insInner ltInt a j d = Y ∧ lk ρ' 0 = .slice (some ⟨b, 0, none⟩) n c ∧ lk ρ' 1 = .int .i64 (a : Int) ∧ lk ρ' 2 = .int .i64 (e : Int) ∧ lk ρ' 6 = .int .i64 (i : Int) ∧ lk ρ' 7 = .int .i64 (j : Int) ∧ Γ' = DD b c n d :: Γ) i
    · exact ⟨d, Nat.le_refl _, hsz, hY, rfl, rfl, rfl, rfl, rfl, rfl⟩
    clear hY hsz
    rintro q IH2 ρ2 _ ⟨d, hqi, hsz, hY, f0, f1, f2, f6, f7, rfl⟩
    refine TK.know5 f0 f1 f2 f6 f7 ?_
    have hfin : d = Y → Y.size = n ∧ insOuter ltInt a e (i + 1) Y = X := fun h => ⟨h ▸ hsz, hX⟩
    by_cases hk : a < q
    · obtain ⟨p, rfl⟩ : ∃ p, q = p + 1 := ⟨q - 1, by omega⟩
      rw [Sort.insInner] at hY
      have hc1 := cellD (b := b) (c := c) (Γ := Γ) hsz (show p + 1 < n by omega)
      have hc2 := cellD (b := b) (c := c) (Γ := Γ) hsz (show p < n by omega)
      refine m_run ?_
      refine TK.drawS mixed rfl ?_
      refine m_take (At.mk : At 0) ?_; refine m_take (At.mk : At 1) ?_; refine m_take (At.mk : At 2) ?_
      refine TA.isT 18 rfl (decide_eq_true (by omega)) ?_
      refine m_take (At.mk : At 3) ?_; refine m_take (At.mk : At 4) ?_; refine m_take (At.mk : At 5) ?_; refine m_take (At.mk : At 6) ?_; refine m_take (At.mk : At 7) ?_; refine m_take (At.mk : At 8) ?_; refine m_take (At.mk : At 9) ?_; refine m_take (At.mk : At 10) ?_
      refine TA.know (t := 26) (v := .int .i64 ((p : Nat) : Int)) (congrArg (Value.int .i64) (by rw [i64_in (by omega) (by omega)]; omega)) ?_
      refine m_take (At.mk : At 11) ?_; refine m_take (At.mk : At 12) ?_
      (apply TA.one 13; kernel_rfl; exact rfl)
      refine m_rrun ?_
      (apply TL.callV; exact rfl; exact callB_of (by kernel_rfl); exact rfl; exact fun _ h => h)
      exact less_t _ _ _
      rintro _ _ ⟨rfl, rfl⟩
      refine TL.back (by (focus ((repeat (first | assumption | exact Ent.refl _ | apply Ent.tail)); done))) ?_
      refine m_take (At.mk : At 14) ?_
      by_cases hlt : d[p + 1]! < d[p]!
      · rw [if_pos (by simp [ltInt, hlt]; omega)] at hY
        refine TA.isT 30 rfl (decide_eq_true hlt) ?_
        refine TA.done (by kernel_rfl) ?_
        refine m_run ?_
        have hcI := cellD (b := b) (c := c) (Γ := Γ) hsz (show p + 1 < n by omega)
        have hcK := cellD (b := b) (c := c) (Γ := Γ) hsz (show p < n by omega)
        refine TK.drawB mixed rfl 15 (DD b c n d :: Γ) (Γ) ?_
        refine m_bake (At.mk : At 0) ?_; refine m_bake (At.mk : At 1) ?_; refine m_bake (At.mk : At 2) ?_; refine m_bake (At.mk : At 3) ?_; refine m_bake (At.mk : At 4) ?_
        refine TB.know (t := 37) (v := .int .i64 ((p : Nat) : Int)) (congrArg (Value.int .i64) (by rw [i64_in (by omega) (by omega)]; omega)) ?_
        refine m_bake (At.mk : At 5) ?_; refine m_bake (At.mk : At 6) ?_; refine m_bake (At.mk : At 7) ?_
        refine TB.know (t := 40) (v := .int .i64 ((p : Nat) : Int)) (congrArg (Value.int .i64) (by rw [i64_in (by omega) (by omega)]; omega)) ?_
        refine m_bake (At.mk : At 8) ?_; refine m_bake (At.mk : At 9) ?_; refine m_bake (At.mk : At 10) ?_; refine m_bake (At.mk : At 11) ?_; refine m_bake (At.mk : At 12) ?_; refine m_bake (At.mk : At 13) ?_; refine m_bake (At.mk : At 14) ?_
        (apply TB.last; kernel_rfl; exact rfl)
        (apply TL.storeOwn 0 (p + 1); exact rfl; exact rfl; exact rfl; exact rfl; exact tb rfl; exact rfl; exact (Nat.zero_add _).symm; exact (by omega))
        refine TL.back (by (focus ((repeat (first | assumption | exact Ent.refl _ | apply Ent.tail)); done))) ?_
        refine m_take (At.mk : At 16) ?_
        (apply TA.one 17; kernel_rfl; exact rfl)
        (apply TL.storeOwn 0 (p); exact rfl; exact rfl; exact rfl; exact rfl; exact tb rfl; exact rfl; exact (Nat.zero_add _).symm; exact (by omega))
        refine TL.back (by (focus ((repeat (first | assumption | exact Ent.refl _ | apply Ent.tail)); done))) ?_
        refine TA.done (by kernel_rfl) ?_
        refine TK.imp (Δ := DD b c n (swp d (p + 1) (p)) :: Γ) (fun _ h => by show all (own _ _ _ _ (nums _ (swp d (p + 1) (p)).toList) :: _) _; rw [← swpD]; exact h) ?_
        have hsz : (swp d (p + 1) (p)).size = n := (size_swp _ _ _).trans hsz
        clear hcI hcK
        clear hc1 hc2
        refine m_run ?_
        exact IH2 p _ _ (by omega) ⟨_, by omega, hsz, hY, rfl, rfl, rfl, rfl, congrArg (Value.int .i64) (by rw [i64_in (by omega) (by omega)]; omega), rfl⟩
      · rw [if_neg (by simp [ltInt, hlt])] at hY
        obtain ⟨g1, g2⟩ := hfin hY
        refine TA.isF 30 rfl (decide_eq_false hlt) ?_
        refine TA.done (by kernel_rfl) ?_
        rw [hY]
        refine m_run ?_
        exact IH (j - 1) _ _ (by omega) ⟨i + 1, Y, by omega, by omega, by omega, g1, g2, rfl, rfl, rfl, congrArg (Value.int .i64) (i64_succ i (by omega)), rfl⟩
    · have hY2 : d = Y := by
        rw [← hY]
        cases q with
        | zero => rw [Sort.insInner]
        | succ p => rw [Sort.insInner, if_neg (by simp; omega)]
      obtain ⟨g1, g2⟩ := hfin hY2
      rw [hY2]
      refine m_run ?_
      refine TK.drawS mixed rfl ?_
      refine m_take (At.mk : At 0) ?_; refine m_take (At.mk : At 1) ?_; refine m_take (At.mk : At 2) ?_
      refine TA.isF 18 rfl (decide_eq_false (by omega)) ?_
      refine m_take (At.mk : At 3) ?_; refine m_take (At.mk : At 4) ?_; refine m_take (At.mk : At 5) ?_; refine m_take (At.mk : At 6) ?_; refine m_take (At.mk : At 7) ?_; refine m_take (At.mk : At 8) ?_; refine m_take (At.mk : At 9) ?_; refine m_take (At.mk : At 10) ?_; refine m_take (At.mk : At 11) ?_; refine m_take (At.mk : At 12) ?_; refine m_take (At.mk : At 13) ?_; refine m_take (At.mk : At 14) ?_
      refine TA.done (by kernel_rfl) ?_
      refine m_run ?_
      exact IH (j - 1) _ _ (by omega) ⟨i + 1, Y, by omega, by omega, by omega, g1, g2, rfl, rfl, rfl, congrArg (Value.int .i64) (i64_succ i (by omega)), rfl⟩
  rw [Sort.insOuter, if_neg hi] at hX
  rw [hX]
  refine m_run ?_
  exact TK.over0 rfl rfl ⟨_, rfl, rfl, rfl⟩

set_option maxRecDepth 100000 in
set_option maxHeartbeats 4000000 in
theorem order2_t (b c n s p q : Nat) (z : Int) (d : Array Int) (Γ : List HP) (hsz : d.size = n) (hp : p < n) (hq : q < n) :
    FnV Try.prog 131 [.slice (some ⟨b, 0, none⟩) n c, .int .i64 (p : Int), .int .i64 (q : Int), .pointer (some ⟨s, 0, none⟩)] (row s [.int .i64 z] 3 :: DD b c n d :: Γ) fun v Γ' => ∃ (x y : Nat) (z' : Int), (x = p ∧ y = q ∨ x = q ∧ y = p) ∧ v = .tuple #[.int .i64 (x : Int), .int .i64 (y : Int)] ∧ Γ' = row s [.int .i64 z'] 3 :: DD b c n d :: Γ := by
  refine Fn.enter Try.func131 rfl rfl rfl fun E => ?_
  have hc1 := has_tlc (K := row s [.int .i64 z] 3) (cellD (b := b) (c := c) (Γ := Γ) hsz hp)
  have hc2 := has_tlc (K := row s [.int .i64 z] 3) (cellD (b := b) (c := c) (Γ := Γ) hsz hq)
  refine m_run ?_
  refine TK.drawS mixed rfl ?_
  refine m_take (At.mk : At 0) ?_; refine m_take (At.mk : At 1) ?_; refine m_take (At.mk : At 2) ?_; refine m_take (At.mk : At 3) ?_; refine m_take (At.mk : At 4) ?_; refine m_take (At.mk : At 5) ?_; refine m_take (At.mk : At 6) ?_; refine m_take (At.mk : At 7) ?_
  (apply TA.one 8; kernel_rfl; exact rfl)
  (apply TL.callV; exact rfl; exact callB_of (by kernel_rfl); exact rfl; exact fun _ h => h)
  exact less_t _ _ _
  rintro _ _ ⟨rfl, rfl⟩
  refine TL.back (by (focus ((repeat (first | assumption | exact Ent.refl _ | apply Ent.tail)); done))) ?_
  refine TA.done (by kernel_rfl) ?_
  by_cases h : d[q]! < d[p]!
  · rw [decide_eq_true h]
    refine m_run ?_
    (apply TK.ret2; exact rfl; exact rfl; (exact m_val); (exact m_val))
    exact ⟨_, rfl, q, p, _, .inr ⟨rfl, rfl⟩, rfl, rfl⟩
  · rw [decide_eq_false h]
    refine m_run ?_
    (apply TK.ret2; exact rfl; exact rfl; (exact m_val); (exact m_val))
    exact ⟨_, rfl, p, q, _, .inl ⟨rfl, rfl⟩, rfl, rfl⟩
set_option maxRecDepth 100000 in
set_option maxHeartbeats 4000000 in
theorem median_t (b c n s p q r : Nat) (z : Int) (d : Array Int) (Γ : List HP) (hsz : d.size = n) (hp : p < n) (hq : q < n) (hr : r < n) :
    FnV Try.prog 129 [.slice (some ⟨b, 0, none⟩) n c, .int .i64 (p : Int), .int .i64 (q : Int), .int .i64 (r : Int), .pointer (some ⟨s, 0, none⟩)] (row s [.int .i64 z] 3 :: DD b c n d :: Γ) fun v Γ' => ∃ (x : Nat) (z' : Int), (x = p ∨ x = q ∨ x = r) ∧ v = .int .i64 (x : Int) ∧ Γ' = row s [.int .i64 z'] 3 :: DD b c n d :: Γ := by
  refine Fn.enter Try.func129 rfl rfl rfl fun E => ?_
  refine m_run ?_
  (apply TL.callV; exact rfl; exact callB_of (by kernel_rfl); exact rfl; exact fun _ h => h)
  exact order2_t b c n s p q z d Γ hsz hp hq
  rintro _ _ ⟨x1, y1, z1, h1, rfl, rfl⟩
  refine m_run ?_
  (apply TL.callV; exact rfl; exact callB_of (by kernel_rfl); exact rfl; exact fun _ h => h)
  exact order2_t b c n s y1 r z1 d Γ hsz (by omega) hr
  rintro _ _ ⟨x2, y2, z2, h2, rfl, rfl⟩
  refine m_run ?_
  (apply TL.callV; exact rfl; exact callB_of (by kernel_rfl); exact rfl; exact fun _ h => h)
  exact order2_t b c n s x1 x2 z2 d Γ hsz (by omega) (by omega)
  rintro _ _ ⟨x3, y3, z3, h3, rfl, rfl⟩
  refine m_run ?_
  (apply TK.ret1; exact rfl; exact rfl; (exact m_val))
  exact ⟨_, rfl, y3, z3, by omega, rfl, rfl⟩
set_option maxRecDepth 100000 in
set_option maxHeartbeats 4000000 in
theorem medAdj_t (b c n s p : Nat) (z : Int) (d : Array Int) (Γ : List HP) (hsz : d.size = n) (h1 : 1 ≤ p) (hp : p + 1 < n) (hn : n ≤ 1000000000) :
    FnV Try.prog 128 [.slice (some ⟨b, 0, none⟩) n c, .int .i64 (p : Int), .pointer (some ⟨s, 0, none⟩)] (row s [.int .i64 z] 3 :: DD b c n d :: Γ) fun v Γ' => ∃ (x : Nat) (z' : Int), (x + 1 = p ∨ x = p ∨ x = p + 1) ∧ v = .int .i64 (x : Int) ∧ Γ' = row s [.int .i64 z'] 3 :: DD b c n d :: Γ := by
  refine Fn.enter Try.func128 rfl rfl rfl fun E => ?_
  refine m_run ?_
  refine TL.know (t := 9) (v := .int .i64 ((p - 1 : Nat) : Int)) (congrArg (Value.int .i64) (by rw [i64_in (by omega) (by omega)]; omega)) ?_
  refine m_run ?_
  refine TL.know (t := 12) (v := .int .i64 ((p + 1 : Nat) : Int)) (congrArg (Value.int .i64) (by rw [i64_in (by omega) (by omega)]; omega)) ?_
  (apply TL.callV; exact rfl; exact callB_of (by kernel_rfl); exact rfl; exact fun _ h => h)
  exact median_t b c n s (p - 1) p (p + 1) z d Γ hsz (by omega) (by omega) hp
  rintro _ _ ⟨x, z1, h, rfl, rfl⟩
  refine m_run ?_
  (apply TK.ret1; exact rfl; exact rfl; (exact m_val))
  exact ⟨_, rfl, x, z1, by omega, rfl, rfl⟩
set_option maxRecDepth 100000 in
set_option maxHeartbeats 4000000 in
theorem pivot_t (b c n a e : Nat) (d : Array Int) (Γ : List HP) (hsz : d.size = n) (hae : a + 12 < e) (he : e ≤ n) (hn : n ≤ 1000000000) :
    FnV Try.prog 120 [.slice (some ⟨b, 0, none⟩) n c, .int .i64 (a : Int), .int .i64 (e : Int)] (DD b c n d :: Γ) fun v Γ' => ∃ (x : Nat) (z : Int), a ≤ x ∧ x < e ∧ (z = 0 ∨ z = 1 ∨ z = 2) ∧ v = .tuple #[.int .i64 (x : Int), .int .i64 z] ∧ Γ' = DD b c n d :: Γ := by
  refine Fn.enter Try.func120 rfl rfl rfl fun E => ?_
  have hq1 : (e - a) / 4 * 4 ≤ e - a := Nat.div_mul_le_self _ _
  have hq3 : 3 ≤ (e - a) / 4 := by omega
  have hqt : IntKind.i64.wrap (((e - a : Nat) : Int).tdiv 4) = (((e - a) / 4 : Nat) : Int) := by
    rw [show ((e - a : Nat) : Int).tdiv 4 = (((e - a) / 4 : Nat) : Int) from rfl, i64_in (by omega) (by omega)]
  have hq50 : 50 ≤ e - a → 12 ≤ (e - a) / 4 := by omega
  generalize (e - a) / 4 = q at *
  refine m_run ?_
  refine TL.know (t := 8) (v := .int .i64 ((e - a : Nat) : Int)) (congrArg (Value.int .i64) (by rw [i64_in (by omega) (by omega)]; omega)) ?_
  refine m_run ?_
  (apply TL.alloc; exact rfl; exact tb rfl; (exact m_lst))
  intro s
  refine m_run ?_
  refine TK.know (t := 10) (v := .int .i64 ((a + q * 1 : Nat) : Int)) (congrArg (Value.int .i64) (by rw [hqt, i64_in (x := (q : Int) * 1) (by omega) (by omega), i64_in (by omega) (by omega)]; omega)) ?_
  refine TK.know (t := 11) (v := .int .i64 ((a + q * 2 : Nat) : Int)) (congrArg (Value.int .i64) (by rw [hqt, i64_in (x := (q : Int) * 2) (by omega) (by omega), i64_in (by omega) (by omega)]; omega)) ?_
  refine TK.know (t := 12) (v := .int .i64 ((a + q * 3 : Nat) : Int)) (congrArg (Value.int .i64) (by rw [hqt, i64_in (x := (q : Int) * 3) (by omega) (by omega), i64_in (by omega) (by omega)]; omega)) ?_
  refine TK.imp (Δ := row s [.int .i64 0] 3 :: DD b c n d :: Γ) (fun _ h => h) ?_
  by_cases h50 : 50 ≤ e - a
  · have hbig := hq50 h50
    refine m_run ?_
    (apply TL.callV; exact rfl; exact callB_of (by kernel_rfl); exact rfl; exact fun _ h => h)
    exact medAdj_t b c n s (a + q * 1) 0 d Γ hsz (by omega) (by omega) hn
    rintro _ _ ⟨x1, z1, h1, rfl, rfl⟩
    refine m_run ?_
    (apply TL.callV; exact rfl; exact callB_of (by kernel_rfl); exact rfl; exact fun _ h => h)
    exact medAdj_t b c n s (a + q * 2) z1 d Γ hsz (by omega) (by omega) hn
    rintro _ _ ⟨x2, z2, h2, rfl, rfl⟩
    refine m_run ?_
    (apply TL.callV; exact rfl; exact callB_of (by kernel_rfl); exact rfl; exact fun _ h => h)
    exact medAdj_t b c n s (a + q * 3) z2 d Γ hsz (by omega) (by omega) hn
    rintro _ _ ⟨x3, z3, h3, rfl, rfl⟩
    refine m_run ?_
    (apply TL.callV; exact rfl; exact callB_of (by kernel_rfl); exact rfl; exact fun _ h => h)
    exact median_t b c n s x1 x2 x3 z3 d Γ hsz (by omega) (by omega) (by omega)
    rintro _ _ ⟨x, z, h, rfl, rfl⟩
    by_cases hz : z = 0
    · refine m_run ?_
      (apply TK.retS2; exact rfl; exact rfl; (exact m_val); (exact m_val))
      · exact ⟨_, rfl, x, 1, by omega, by omega, .inr (.inl rfl), rfl, rfl⟩
      · (repeat (first | exact List.Sublist.refl _ | apply List.Sublist.cons_cons | apply List.Sublist.cons))
    · by_cases hz2 : z = 12
      · refine m_run ?_
        (apply TK.retS2; exact rfl; exact rfl; (exact m_val); (exact m_val))
        · exact ⟨_, rfl, x, 2, by omega, by omega, .inr (.inr rfl), rfl, rfl⟩
        · (repeat (first | exact List.Sublist.refl _ | apply List.Sublist.cons_cons | apply List.Sublist.cons))
      · refine m_run ?_
        (apply TK.retS2; exact rfl; exact rfl; (exact m_val); (exact m_val))
        · exact ⟨_, rfl, x, 0, by omega, by omega, .inl rfl, rfl, rfl⟩
        · (repeat (first | exact List.Sublist.refl _ | apply List.Sublist.cons_cons | apply List.Sublist.cons))
  · refine m_run ?_
    (apply TL.callV; exact rfl; exact callB_of (by kernel_rfl); exact rfl; exact fun _ h => h)
    exact median_t b c n s (a + q * 1) (a + q * 2) (a + q * 3) 0 d Γ hsz (by omega) (by omega) (by omega)
    rintro _ _ ⟨x, z, h, rfl, rfl⟩
    by_cases hz : z = 0
    · refine m_run ?_
      (apply TK.retS2; exact rfl; exact rfl; (exact m_val); (exact m_val))
      · exact ⟨_, rfl, x, 1, by omega, by omega, .inr (.inl rfl), rfl, rfl⟩
      · (repeat (first | exact List.Sublist.refl _ | apply List.Sublist.cons_cons | apply List.Sublist.cons))
    · by_cases hz2 : z = 12
      · refine m_run ?_
        (apply TK.retS2; exact rfl; exact rfl; (exact m_val); (exact m_val))
        · exact ⟨_, rfl, x, 2, by omega, by omega, .inr (.inr rfl), rfl, rfl⟩
        · (repeat (first | exact List.Sublist.refl _ | apply List.Sublist.cons_cons | apply List.Sublist.cons))
      · refine m_run ?_
        (apply TK.retS2; exact rfl; exact rfl; (exact m_val); (exact m_val))
        · exact ⟨_, rfl, x, 0, by omega, by omega, .inl rfl, rfl, rfl⟩
        · (repeat (first | exact List.Sublist.refl _ | apply List.Sublist.cons_cons | apply List.Sublist.cons))
set_option maxRecDepth 100000 in
set_option maxHeartbeats 4000000 in
theorem rev_t (b c n a e : Nat) (d0 : Array Int) (Γ : List HP) (hsz0 : d0.size = n) (hae : a < e) (he : e ≤ n) (hn : n ≤ 1000000000) :
    FnV Try.prog 121 [.slice (some ⟨b, 0, none⟩) n c, .int .i64 (a : Int), .int .i64 (e : Int)] (DD b c n d0 :: Γ) fun v Γ' => v = .tuple #[] ∧ Γ' = DD b c n (reverseRange d0 a e) :: Γ := by
  refine Fn.enter Try.func121 rfl rfl rfl fun E => ?_
  unfold reverseRange
  generalize hX : reverseLoop a (e - 1) d0 = X
  refine m_run ?_
  apply TK.iter (fun m ρ' Γ' => ∃ (i j : Nat) (d : Array Int), j + 1 - i ≤ m ∧ i ≤ n ∧ j < n ∧ d.size = n ∧ reverseLoop i j d = X ∧ lk ρ' 0 = .slice (some ⟨b, 0, none⟩) n c ∧ lk ρ' 6 = .int .i64 (i : Int) ∧ lk ρ' 7 = .int .i64 (j : Int) ∧ Γ' = DD b c n d :: Γ) n
  · exact ⟨a, e - 1, d0, by omega, by omega, by omega, hsz0, hX, rfl, rfl, congrArg (Value.int .i64) (by rw [i64_in (by omega) (by omega)]; omega), rfl⟩
  rintro m IH ρ' _ ⟨i, j, d, hm, hi, hj, hsz, hX, e0, e6, e7, rfl⟩
  refine TK.know3 e0 e6 e7 ?_
  by_cases hij : i < j
  · rw [Sort.reverseLoop, if_pos hij] at hX
    refine m_run ?_
    have hcI := cellD (b := b) (c := c) (Γ := Γ) hsz (show i < n by omega)
    have hcK := cellD (b := b) (c := c) (Γ := Γ) hsz (show j < n by omega)
    refine TK.drawB mixed rfl 13 (DD b c n d :: Γ) (Γ) ?_
    refine m_bake (At.mk : At 0) ?_; refine m_bake (At.mk : At 1) ?_; refine m_bake (At.mk : At 2) ?_; refine m_bake (At.mk : At 3) ?_; refine m_bake (At.mk : At 4) ?_; refine m_bake (At.mk : At 5) ?_; refine m_bake (At.mk : At 6) ?_; refine m_bake (At.mk : At 7) ?_; refine m_bake (At.mk : At 8) ?_; refine m_bake (At.mk : At 9) ?_; refine m_bake (At.mk : At 10) ?_; refine m_bake (At.mk : At 11) ?_; refine m_bake (At.mk : At 12) ?_
    (apply TB.last; kernel_rfl; exact rfl)
    (apply TL.storeOwn 0 (i); exact rfl; exact rfl; exact rfl; exact rfl; exact tb rfl; exact rfl; exact (Nat.zero_add _).symm; exact (by omega))
    refine TL.back (by (focus ((repeat (first | assumption | exact Ent.refl _ | apply Ent.tail)); done))) ?_
    refine m_take (At.mk : At 14) ?_
    (apply TA.one 15; kernel_rfl; exact rfl)
    (apply TL.storeOwn 0 (j); exact rfl; exact rfl; exact rfl; exact rfl; exact tb rfl; exact rfl; exact (Nat.zero_add _).symm; exact (by omega))
    refine TL.back (by (focus ((repeat (first | assumption | exact Ent.refl _ | apply Ent.tail)); done))) ?_
    refine TA.done (by kernel_rfl) ?_
    refine TK.imp (Δ := DD b c n (swp d (i) (j)) :: Γ) (fun _ h => by show all (own _ _ _ _ (nums _ (swp d (i) (j)).toList) :: _) _; rw [← swpD]; exact h) ?_
    have hsz : (swp d (i) (j)).size = n := (size_swp _ _ _).trans hsz
    clear hcI hcK
    refine m_run ?_
    exact IH (m - 1) _ _ (by omega) ⟨i + 1, j - 1, _, by omega, by omega, by omega, hsz, hX, rfl, congrArg (Value.int .i64) (by rw [i64_in (by omega) (by omega)]; omega), congrArg (Value.int .i64) (by rw [i64_in (by omega) (by omega)]; omega), rfl⟩
  rw [Sort.reverseLoop, if_neg hij] at hX
  rw [hX]
  refine m_run ?_
  exact TK.over0 rfl rfl ⟨_, rfl, rfl, rfl⟩

set_option maxRecDepth 100000 in
set_option maxHeartbeats 4000000 in
theorem sift_t (b c n lo hi first : Nat) (d0 : Array Int) (Γ : List HP) (hsz0 : d0.size = n) (hlo : lo ≤ hi) (hf : first + hi ≤ n) (hn : n ≤ 1000000000) :
    FnV Try.prog 127 [.slice (some ⟨b, 0, none⟩) n c, .int .i64 (lo : Int), .int .i64 (hi : Int), .int .i64 (first : Int)] (DD b c n d0 :: Γ) fun v Γ' => v = .tuple #[] ∧ Γ' = DD b c n (siftDown ltInt hi first lo d0) :: Γ := by
  refine Fn.enter Try.func127 rfl rfl rfl fun E => ?_
  generalize hX : siftDown ltInt hi first lo d0 = X
  refine m_run ?_
  apply TK.iter (fun m ρ' Γ' => ∃ (root : Nat) (d : Array Int), hi - root ≤ m ∧ root ≤ hi ∧ d.size = n ∧ siftDown ltInt hi first root d = X ∧ lk ρ' 0 = .slice (some ⟨b, 0, none⟩) n c ∧ lk ρ' 2 = .int .i64 (hi : Int) ∧ lk ρ' 3 = .int .i64 (first : Int) ∧ lk ρ' 8 = .int .i64 (root : Int) ∧ Γ' = DD b c n d :: Γ) hi
  · exact ⟨lo, d0, by omega, hlo, hsz0, hX, rfl, rfl, rfl, rfl, rfl⟩
  rintro m IH ρ' _ ⟨root, d, hm, hrt, hsz, hX, e0, e2, e3, e8, rfl⟩
  refine TK.know4 e0 e2 e3 e8 ?_
  rw [Sort.siftDown] at hX
  by_cases hch : 2 * root + 1 ≥ hi
  · rw [dif_pos hch] at hX
    rw [hX]
    have hw : IntKind.i64.wrap (IntKind.i64.wrap (2 * (root : Int)) + 1) = ((2 * root + 1 : Nat) : Int) := by rw [i64_in (x := 2 * (root : Int)) (by omega) (by omega), i64_in (by omega) (by omega)]; omega
    refine m_run ?_
    refine TK.know (t := 16) (v := .bool true) (congrArg Value.bool (by rw [hw]; exact decide_eq_true (by omega))) ?_
    refine m_run ?_
    exact TK.over0 rfl rfl ⟨_, rfl, rfl, rfl⟩
  · rw [dif_neg hch] at hX
    have hw : IntKind.i64.wrap (IntKind.i64.wrap (2 * (root : Int)) + 1) = ((2 * root + 1 : Nat) : Int) := by rw [i64_in (x := 2 * (root : Int)) (by omega) (by omega), i64_in (by omega) (by omega)]; omega
    refine m_run ?_
    refine TK.know (t := 16) (v := .bool false) (congrArg Value.bool (by rw [hw]; exact decide_eq_false (by omega))) ?_
    refine TK.know (t := 9) (v := .int .i64 ((2 * root + 1 : Nat) : Int)) (congrArg (Value.int .i64) hw) ?_
    refine m_run ?_
    by_cases hr : 2 * root + 1 + 1 < hi
    · have hc1 := cellD (b := b) (c := c) (Γ := Γ) hsz (show first + (2 * root + 1) < n by omega)
      have hc2 := cellD (b := b) (c := c) (Γ := Γ) hsz (show first + (2 * root + 1) + 1 < n by omega)
      refine TK.drawS mixed rfl ?_
      refine m_take (At.mk : At 0) ?_; refine m_take (At.mk : At 1) ?_
      refine TA.know (t := 18) (v := .int .i64 ((2 * root + 1 + 1 : Nat) : Int)) (congrArg (Value.int .i64) (by rw [i64_in (by omega) (by omega)]; omega)) ?_
      refine m_take (At.mk : At 2) ?_; refine m_take (At.mk : At 3) ?_
      refine TA.isT 20 rfl (decide_eq_true (by omega)) ?_
      refine m_take (At.mk : At 4) ?_; refine m_take (At.mk : At 5) ?_; refine m_take (At.mk : At 6) ?_; refine m_take (At.mk : At 7) ?_; refine m_take (At.mk : At 8) ?_
      refine TA.know (t := 25) (v := .int .i64 ((first + (2 * root + 1) : Nat) : Int)) (congrArg (Value.int .i64) (by rw [i64_in (by omega) (by omega)]; omega)) ?_
      refine m_take (At.mk : At 9) ?_; refine m_take (At.mk : At 10) ?_; refine m_take (At.mk : At 11) ?_; refine m_take (At.mk : At 12) ?_; refine m_take (At.mk : At 13) ?_; refine m_take (At.mk : At 14) ?_
      refine TA.know (t := 31) (v := .int .i64 ((first + (2 * root + 1) : Nat) : Int)) (congrArg (Value.int .i64) (by rw [i64_in (by omega) (by omega)]; omega)) ?_
      refine m_take (At.mk : At 15) ?_
      refine TA.know (t := 32) (v := .int .i64 ((first + (2 * root + 1) + 1 : Nat) : Int)) (congrArg (Value.int .i64) (by rw [i64_in (by omega) (by omega)]; omega)) ?_
      refine m_take (At.mk : At 16) ?_; refine m_take (At.mk : At 17) ?_
      (apply TA.one 18; kernel_rfl; exact rfl)
      refine m_rrun ?_
      (apply TL.callV; exact rfl; exact callB_of (by kernel_rfl); exact rfl; exact fun _ h => h)
      exact less_t _ _ _
      rintro _ _ ⟨rfl, rfl⟩
      refine TL.back (by (focus ((repeat (first | assumption | exact Ent.refl _ | apply Ent.tail)); done))) ?_
      refine m_take (At.mk : At 19) ?_
      by_cases h1 : d[first + (2 * root + 1)]! < d[first + (2 * root + 1) + 1]!
      · rw [if_pos (by simp [ltInt, h1]; omega)] at hX
        refine TA.isT 36 rfl (decide_eq_true h1) ?_
        refine TA.done (by kernel_rfl) ?_
        clear hc1 hc2
        refine m_run ?_
        refine TK.know (t := 9) (v := .int .i64 ((2 * root + 2 : Nat) : Int)) (congrArg (Value.int .i64) (by rw [i64_in (by omega) (by omega)]; omega)) ?_
        have hc3 := cellD (b := b) (c := c) (Γ := Γ) hsz (show first + root < n by omega)
        have hc4 := cellD (b := b) (c := c) (Γ := Γ) hsz (show first + (2 * root + 2) < n by omega)
        refine m_run ?_
        refine TK.drawS mixed rfl ?_
        refine m_take (At.mk : At 0) ?_; refine m_take (At.mk : At 1) ?_; refine m_take (At.mk : At 2) ?_; refine m_take (At.mk : At 3) ?_
        refine TA.know (t := 42) (v := .int .i64 ((first + root : Nat) : Int)) (congrArg (Value.int .i64) (by rw [i64_in (by omega) (by omega)]; omega)) ?_
        refine m_take (At.mk : At 4) ?_; refine m_take (At.mk : At 5) ?_; refine m_take (At.mk : At 6) ?_; refine m_take (At.mk : At 7) ?_; refine m_take (At.mk : At 8) ?_; refine m_take (At.mk : At 9) ?_
        refine TA.know (t := 48) (v := .int .i64 ((first + (2 * root + 2) : Nat) : Int)) (congrArg (Value.int .i64) (by rw [i64_in (by omega) (by omega)]; omega)) ?_
        refine m_take (At.mk : At 10) ?_; refine m_take (At.mk : At 11) ?_
        (apply TA.one 12; kernel_rfl; exact rfl)
        (apply TL.callV; exact rfl; exact callB_of (by kernel_rfl); exact rfl; exact fun _ h => h)
        exact less_t _ _ _
        rintro _ _ ⟨rfl, rfl⟩
        refine TL.back (by (focus ((repeat (first | assumption | exact Ent.refl _ | apply Ent.tail)); done))) ?_
        refine m_take (At.mk : At 13) ?_
        by_cases h2 : d[first + root]! < d[first + (2 * root + 2)]!
        · refine TA.isF 52 rfl (not_f (decide_eq_true h2)) ?_
          refine TA.done (by kernel_rfl) ?_
          rw [if_neg (by simp [ltInt, h2])] at hX
          rw [dif_pos (by omega)] at hX
          clear hc3 hc4
          refine m_run ?_
          have hcI := cellD (b := b) (c := c) (Γ := Γ) hsz (show first + root < n by omega)
          have hcK := cellD (b := b) (c := c) (Γ := Γ) hsz (show first + (2 * root + 2) < n by omega)
          refine TK.drawB mixed rfl 21 (DD b c n d :: Γ) (Γ) ?_
          refine m_bake (At.mk : At 0) ?_; refine m_bake (At.mk : At 1) ?_; refine m_bake (At.mk : At 2) ?_; refine m_bake (At.mk : At 3) ?_
          refine TB.know (t := 56) (v := .int .i64 ((first + root : Nat) : Int)) (congrArg (Value.int .i64) (by rw [i64_in (by omega) (by omega)]; omega)) ?_
          refine m_bake (At.mk : At 4) ?_; refine m_bake (At.mk : At 5) ?_; refine m_bake (At.mk : At 6) ?_; refine m_bake (At.mk : At 7) ?_
          refine TB.know (t := 60) (v := .int .i64 ((first + (2 * root + 2) : Nat) : Int)) (congrArg (Value.int .i64) (by rw [i64_in (by omega) (by omega)]; omega)) ?_
          refine m_bake (At.mk : At 8) ?_; refine m_bake (At.mk : At 9) ?_; refine m_bake (At.mk : At 10) ?_; refine m_bake (At.mk : At 11) ?_
          refine TB.know (t := 64) (v := .int .i64 ((first + (2 * root + 2) : Nat) : Int)) (congrArg (Value.int .i64) (by rw [i64_in (by omega) (by omega)]; omega)) ?_
          refine m_bake (At.mk : At 12) ?_; refine m_bake (At.mk : At 13) ?_; refine m_bake (At.mk : At 14) ?_; refine m_bake (At.mk : At 15) ?_; refine m_bake (At.mk : At 16) ?_; refine m_bake (At.mk : At 17) ?_
          refine TB.know (t := 70) (v := .int .i64 ((first + root : Nat) : Int)) (congrArg (Value.int .i64) (by rw [i64_in (by omega) (by omega)]; omega)) ?_
          refine m_bake (At.mk : At 18) ?_; refine m_bake (At.mk : At 19) ?_; refine m_bake (At.mk : At 20) ?_
          (apply TB.last; kernel_rfl; exact rfl)
          (apply TL.storeOwn 0 (first + root); exact rfl; exact rfl; exact rfl; exact rfl; exact tb rfl; exact rfl; exact (Nat.zero_add _).symm; exact (by omega))
          refine TL.back (by (focus ((repeat (first | assumption | exact Ent.refl _ | apply Ent.tail)); done))) ?_
          refine m_take (At.mk : At 22) ?_
          (apply TA.one 23; kernel_rfl; exact rfl)
          (apply TL.storeOwn 0 (first + (2 * root + 2)); exact rfl; exact rfl; exact rfl; exact rfl; exact tb rfl; exact rfl; exact (Nat.zero_add _).symm; exact (by omega))
          refine TL.back (by (focus ((repeat (first | assumption | exact Ent.refl _ | apply Ent.tail)); done))) ?_
          refine TA.done (by kernel_rfl) ?_
          refine TK.imp (Δ := DD b c n (swp d (first + root) (first + (2 * root + 2))) :: Γ) (fun _ h => by show all (own _ _ _ _ (nums _ (swp d (first + root) (first + (2 * root + 2))).toList) :: _) _; rw [← swpD]; exact h) ?_
          have hsz : (swp d (first + root) (first + (2 * root + 2))).size = n := (size_swp _ _ _).trans hsz
          clear hcI hcK
          refine m_run ?_
          exact IH (m - 1) _ _ (by omega) ⟨2 * root + 2, _, by omega, by omega, hsz, hX, rfl, rfl, rfl, rfl, rfl⟩
        · refine TA.isT 52 rfl (not_t (decide_eq_false h2)) ?_
          refine TA.done (by kernel_rfl) ?_
          rw [if_pos (by simp [ltInt, h2])] at hX
          rw [hX]
          refine m_run ?_
          (apply TK.ret0; exact rfl; exact rfl)
          exact ⟨_, rfl, rfl, rfl⟩
      · rw [if_neg (by simp [ltInt, h1])] at hX
        refine TA.isF 36 rfl (decide_eq_false h1) ?_
        refine TA.done (by kernel_rfl) ?_
        clear hc1 hc2
        have hc3 := cellD (b := b) (c := c) (Γ := Γ) hsz (show first + root < n by omega)
        have hc4 := cellD (b := b) (c := c) (Γ := Γ) hsz (show first + (2 * root + 1) < n by omega)
        refine m_run ?_
        refine TK.drawS mixed rfl ?_
        refine m_take (At.mk : At 0) ?_; refine m_take (At.mk : At 1) ?_; refine m_take (At.mk : At 2) ?_; refine m_take (At.mk : At 3) ?_
        refine TA.know (t := 42) (v := .int .i64 ((first + root : Nat) : Int)) (congrArg (Value.int .i64) (by rw [i64_in (by omega) (by omega)]; omega)) ?_
        refine m_take (At.mk : At 4) ?_; refine m_take (At.mk : At 5) ?_; refine m_take (At.mk : At 6) ?_; refine m_take (At.mk : At 7) ?_; refine m_take (At.mk : At 8) ?_; refine m_take (At.mk : At 9) ?_
        refine TA.know (t := 48) (v := .int .i64 ((first + (2 * root + 1) : Nat) : Int)) (congrArg (Value.int .i64) (by rw [i64_in (by omega) (by omega)]; omega)) ?_
        refine m_take (At.mk : At 10) ?_; refine m_take (At.mk : At 11) ?_
        (apply TA.one 12; kernel_rfl; exact rfl)
        (apply TL.callV; exact rfl; exact callB_of (by kernel_rfl); exact rfl; exact fun _ h => h)
        exact less_t _ _ _
        rintro _ _ ⟨rfl, rfl⟩
        refine TL.back (by (focus ((repeat (first | assumption | exact Ent.refl _ | apply Ent.tail)); done))) ?_
        refine m_take (At.mk : At 13) ?_
        by_cases h2 : d[first + root]! < d[first + (2 * root + 1)]!
        · refine TA.isF 52 rfl (not_f (decide_eq_true h2)) ?_
          refine TA.done (by kernel_rfl) ?_
          rw [if_neg (by simp [ltInt, h2])] at hX
          skip
          clear hc3 hc4
          refine m_run ?_
          have hcI := cellD (b := b) (c := c) (Γ := Γ) hsz (show first + root < n by omega)
          have hcK := cellD (b := b) (c := c) (Γ := Γ) hsz (show first + (2 * root + 1) < n by omega)
          refine TK.drawB mixed rfl 21 (DD b c n d :: Γ) (Γ) ?_
          refine m_bake (At.mk : At 0) ?_; refine m_bake (At.mk : At 1) ?_; refine m_bake (At.mk : At 2) ?_; refine m_bake (At.mk : At 3) ?_
          refine TB.know (t := 56) (v := .int .i64 ((first + root : Nat) : Int)) (congrArg (Value.int .i64) (by rw [i64_in (by omega) (by omega)]; omega)) ?_
          refine m_bake (At.mk : At 4) ?_; refine m_bake (At.mk : At 5) ?_; refine m_bake (At.mk : At 6) ?_; refine m_bake (At.mk : At 7) ?_
          refine TB.know (t := 60) (v := .int .i64 ((first + (2 * root + 1) : Nat) : Int)) (congrArg (Value.int .i64) (by rw [i64_in (by omega) (by omega)]; omega)) ?_
          refine m_bake (At.mk : At 8) ?_; refine m_bake (At.mk : At 9) ?_; refine m_bake (At.mk : At 10) ?_; refine m_bake (At.mk : At 11) ?_
          refine TB.know (t := 64) (v := .int .i64 ((first + (2 * root + 1) : Nat) : Int)) (congrArg (Value.int .i64) (by rw [i64_in (by omega) (by omega)]; omega)) ?_
          refine m_bake (At.mk : At 12) ?_; refine m_bake (At.mk : At 13) ?_; refine m_bake (At.mk : At 14) ?_; refine m_bake (At.mk : At 15) ?_; refine m_bake (At.mk : At 16) ?_; refine m_bake (At.mk : At 17) ?_
          refine TB.know (t := 70) (v := .int .i64 ((first + root : Nat) : Int)) (congrArg (Value.int .i64) (by rw [i64_in (by omega) (by omega)]; omega)) ?_
          refine m_bake (At.mk : At 18) ?_; refine m_bake (At.mk : At 19) ?_; refine m_bake (At.mk : At 20) ?_
          (apply TB.last; kernel_rfl; exact rfl)
          (apply TL.storeOwn 0 (first + root); exact rfl; exact rfl; exact rfl; exact rfl; exact tb rfl; exact rfl; exact (Nat.zero_add _).symm; exact (by omega))
          refine TL.back (by (focus ((repeat (first | assumption | exact Ent.refl _ | apply Ent.tail)); done))) ?_
          refine m_take (At.mk : At 22) ?_
          (apply TA.one 23; kernel_rfl; exact rfl)
          (apply TL.storeOwn 0 (first + (2 * root + 1)); exact rfl; exact rfl; exact rfl; exact rfl; exact tb rfl; exact rfl; exact (Nat.zero_add _).symm; exact (by omega))
          refine TL.back (by (focus ((repeat (first | assumption | exact Ent.refl _ | apply Ent.tail)); done))) ?_
          refine TA.done (by kernel_rfl) ?_
          refine TK.imp (Δ := DD b c n (swp d (first + root) (first + (2 * root + 1))) :: Γ) (fun _ h => by show all (own _ _ _ _ (nums _ (swp d (first + root) (first + (2 * root + 1))).toList) :: _) _; rw [← swpD]; exact h) ?_
          have hsz : (swp d (first + root) (first + (2 * root + 1))).size = n := (size_swp _ _ _).trans hsz
          clear hcI hcK
          refine m_run ?_
          exact IH (m - 1) _ _ (by omega) ⟨2 * root + 1, _, by omega, by omega, hsz, hX, rfl, rfl, rfl, rfl, rfl⟩
        · refine TA.isT 52 rfl (not_t (decide_eq_false h2)) ?_
          refine TA.done (by kernel_rfl) ?_
          rw [if_pos (by simp [ltInt, h2])] at hX
          rw [hX]
          refine m_run ?_
          (apply TK.ret0; exact rfl; exact rfl)
          exact ⟨_, rfl, rfl, rfl⟩
    · rw [if_neg (by simp; omega)] at hX
      refine TK.drawS mixed rfl ?_
      refine m_take (At.mk : At 0) ?_; refine m_take (At.mk : At 1) ?_
      refine TA.know (t := 18) (v := .int .i64 ((2 * root + 1 + 1 : Nat) : Int)) (congrArg (Value.int .i64) (by rw [i64_in (by omega) (by omega)]; omega)) ?_
      refine m_take (At.mk : At 2) ?_; refine m_take (At.mk : At 3) ?_
      refine TA.isF 20 rfl (decide_eq_false (by omega)) ?_
      refine m_take (At.mk : At 4) ?_; refine m_take (At.mk : At 5) ?_; refine m_take (At.mk : At 6) ?_; refine m_take (At.mk : At 7) ?_; refine m_take (At.mk : At 8) ?_; refine m_take (At.mk : At 9) ?_; refine m_take (At.mk : At 10) ?_; refine m_take (At.mk : At 11) ?_; refine m_take (At.mk : At 12) ?_; refine m_take (At.mk : At 13) ?_; refine m_take (At.mk : At 14) ?_; refine m_take (At.mk : At 15) ?_; refine m_take (At.mk : At 16) ?_; refine m_take (At.mk : At 17) ?_; refine m_take (At.mk : At 18) ?_; refine m_take (At.mk : At 19) ?_
      refine TA.done (by kernel_rfl) ?_
      have hc3 := cellD (b := b) (c := c) (Γ := Γ) hsz (show first + root < n by omega)
      have hc4 := cellD (b := b) (c := c) (Γ := Γ) hsz (show first + (2 * root + 1) < n by omega)
      refine m_run ?_
      refine TK.drawS mixed rfl ?_
      refine m_take (At.mk : At 0) ?_; refine m_take (At.mk : At 1) ?_; refine m_take (At.mk : At 2) ?_; refine m_take (At.mk : At 3) ?_
      refine TA.know (t := 42) (v := .int .i64 ((first + root : Nat) : Int)) (congrArg (Value.int .i64) (by rw [i64_in (by omega) (by omega)]; omega)) ?_
      refine m_take (At.mk : At 4) ?_; refine m_take (At.mk : At 5) ?_; refine m_take (At.mk : At 6) ?_; refine m_take (At.mk : At 7) ?_; refine m_take (At.mk : At 8) ?_; refine m_take (At.mk : At 9) ?_
      refine TA.know (t := 48) (v := .int .i64 ((first + (2 * root + 1) : Nat) : Int)) (congrArg (Value.int .i64) (by rw [i64_in (by omega) (by omega)]; omega)) ?_
      refine m_take (At.mk : At 10) ?_; refine m_take (At.mk : At 11) ?_
      (apply TA.one 12; kernel_rfl; exact rfl)
      (apply TL.callV; exact rfl; exact callB_of (by kernel_rfl); exact rfl; exact fun _ h => h)
      exact less_t _ _ _
      rintro _ _ ⟨rfl, rfl⟩
      refine TL.back (by (focus ((repeat (first | assumption | exact Ent.refl _ | apply Ent.tail)); done))) ?_
      refine m_take (At.mk : At 13) ?_
      by_cases h2 : d[first + root]! < d[first + (2 * root + 1)]!
      · refine TA.isF 52 rfl (not_f (decide_eq_true h2)) ?_
        refine TA.done (by kernel_rfl) ?_
        rw [if_neg (by simp [ltInt, h2])] at hX
        skip
        clear hc3 hc4
        refine m_run ?_
        have hcI := cellD (b := b) (c := c) (Γ := Γ) hsz (show first + root < n by omega)
        have hcK := cellD (b := b) (c := c) (Γ := Γ) hsz (show first + (2 * root + 1) < n by omega)
        refine TK.drawB mixed rfl 21 (DD b c n d :: Γ) (Γ) ?_
        refine m_bake (At.mk : At 0) ?_; refine m_bake (At.mk : At 1) ?_; refine m_bake (At.mk : At 2) ?_; refine m_bake (At.mk : At 3) ?_
        refine TB.know (t := 56) (v := .int .i64 ((first + root : Nat) : Int)) (congrArg (Value.int .i64) (by rw [i64_in (by omega) (by omega)]; omega)) ?_
        refine m_bake (At.mk : At 4) ?_; refine m_bake (At.mk : At 5) ?_; refine m_bake (At.mk : At 6) ?_; refine m_bake (At.mk : At 7) ?_
        refine TB.know (t := 60) (v := .int .i64 ((first + (2 * root + 1) : Nat) : Int)) (congrArg (Value.int .i64) (by rw [i64_in (by omega) (by omega)]; omega)) ?_
        refine m_bake (At.mk : At 8) ?_; refine m_bake (At.mk : At 9) ?_; refine m_bake (At.mk : At 10) ?_; refine m_bake (At.mk : At 11) ?_
        refine TB.know (t := 64) (v := .int .i64 ((first + (2 * root + 1) : Nat) : Int)) (congrArg (Value.int .i64) (by rw [i64_in (by omega) (by omega)]; omega)) ?_
        refine m_bake (At.mk : At 12) ?_; refine m_bake (At.mk : At 13) ?_; refine m_bake (At.mk : At 14) ?_; refine m_bake (At.mk : At 15) ?_; refine m_bake (At.mk : At 16) ?_; refine m_bake (At.mk : At 17) ?_
        refine TB.know (t := 70) (v := .int .i64 ((first + root : Nat) : Int)) (congrArg (Value.int .i64) (by rw [i64_in (by omega) (by omega)]; omega)) ?_
        refine m_bake (At.mk : At 18) ?_; refine m_bake (At.mk : At 19) ?_; refine m_bake (At.mk : At 20) ?_
        (apply TB.last; kernel_rfl; exact rfl)
        (apply TL.storeOwn 0 (first + root); exact rfl; exact rfl; exact rfl; exact rfl; exact tb rfl; exact rfl; exact (Nat.zero_add _).symm; exact (by omega))
        refine TL.back (by (focus ((repeat (first | assumption | exact Ent.refl _ | apply Ent.tail)); done))) ?_
        refine m_take (At.mk : At 22) ?_
        (apply TA.one 23; kernel_rfl; exact rfl)
        (apply TL.storeOwn 0 (first + (2 * root + 1)); exact rfl; exact rfl; exact rfl; exact rfl; exact tb rfl; exact rfl; exact (Nat.zero_add _).symm; exact (by omega))
        refine TL.back (by (focus ((repeat (first | assumption | exact Ent.refl _ | apply Ent.tail)); done))) ?_
        refine TA.done (by kernel_rfl) ?_
        refine TK.imp (Δ := DD b c n (swp d (first + root) (first + (2 * root + 1))) :: Γ) (fun _ h => by show all (own _ _ _ _ (nums _ (swp d (first + root) (first + (2 * root + 1))).toList) :: _) _; rw [← swpD]; exact h) ?_
        have hsz : (swp d (first + root) (first + (2 * root + 1))).size = n := (size_swp _ _ _).trans hsz
        clear hcI hcK
        refine m_run ?_
        exact IH (m - 1) _ _ (by omega) ⟨2 * root + 1, _, by omega, by omega, hsz, hX, rfl, rfl, rfl, rfl, rfl⟩
      · refine TA.isT 52 rfl (not_t (decide_eq_false h2)) ?_
        refine TA.done (by kernel_rfl) ?_
        rw [if_pos (by simp [ltInt, h2])] at hX
        rw [hX]
        refine m_run ?_
        (apply TK.ret0; exact rfl; exact rfl)
        exact ⟨_, rfl, rfl, rfl⟩

theorem sift_size (hi first root : Nat) (d : Array Int) (h : first + hi ≤ d.size) : (siftDown ltInt hi first root d).size = d.size := by
  have key : ∀ (N root : Nat) (d : Array Int), hi - root ≤ N → (siftDown ltInt hi first root d).size = d.size := by
    intro N
    induction N with
    | zero => intro root d hN; rw [Sort.siftDown, dif_pos (by omega)]
    | succ N ih =>
      intro root d hN
      rw [Sort.siftDown]
      split
      · rfl
      · split
        · split
          · rfl
          · split
            · rw [ih _ _ (by omega), size_swp]
            · rfl
        · split
          · rfl
          · rw [ih _ _ (by omega), size_swp]
  exact key _ root d (Nat.le_refl _)
set_option maxRecDepth 100000 in
set_option maxHeartbeats 4000000 in
theorem heap_t (b c n a e : Nat) (d0 : Array Int) (Γ : List HP) (hsz0 : d0.size = n) (hae : a < e) (he : e ≤ n) (hn : n ≤ 1000000000) :
    FnV Try.prog 118 [.slice (some ⟨b, 0, none⟩) n c, .int .i64 (a : Int), .int .i64 (e : Int)] (DD b c n d0 :: Γ) fun v Γ' => v = .tuple #[] ∧ Γ' = DD b c n (heapSort ltInt d0 a e) :: Γ := by
  refine Fn.enter Try.func118 rfl rfl rfl fun E => ?_
  unfold heapSort
  generalize hB : heapBuild ltInt (e - a) a ((e - a - 1) / 2 + 1) d0 = B
  generalize hX : heapPop ltInt a (e - a) B = X
  have hq : IntKind.i64.wrap ((IntKind.i64.wrap (((e - a : Nat) : Int) - 1)).tdiv 2) = (((e - a - 1) / 2 : Nat) : Int) := by
    rw [i64_in (x := ((e - a : Nat) : Int) - 1) (by omega) (by omega), show ((e - a : Nat) : Int) - 1 = ((e - a - 1 : Nat) : Int) by omega, show ((e - a - 1 : Nat) : Int).tdiv 2 = (((e - a - 1) / 2 : Nat) : Int) from rfl, i64_in (by omega) (by omega)]
  refine m_run ?_
  refine TK.know (t := 8) (v := .int .i64 ((e - a : Nat) : Int)) (congrArg (Value.int .i64) (by rw [i64_in (by omega) (by omega)]; omega)) ?_
  refine m_run ?_
  apply TK.iter (fun m ρ' Γ' => ∃ (d : Array Int), m ≤ (e - a - 1) / 2 + 1 ∧ d.size = n ∧ heapBuild ltInt (e - a) a m d = B ∧ lk ρ' 0 = .slice (some ⟨b, 0, none⟩) n c ∧ lk ρ' 6 = .int .i64 (a : Int) ∧ lk ρ' 7 = .int .i64 0 ∧ lk ρ' 8 = .int .i64 ((e - a : Nat) : Int) ∧ lk ρ' 9 = .int .i64 ((m : Int) - 1) ∧ Γ' = DD b c n d :: Γ) ((e - a - 1) / 2 + 1)
  · exact ⟨d0, Nat.le_refl _, hsz0, hB, rfl, rfl, rfl, rfl, congrArg (Value.int .i64) (by
      rw [show IntKind.i64.wrap ((e : Int) - (a : Int)) = ((e - a : Nat) : Int) by rw [i64_in (by omega) (by omega)]; omega, hq]; omega), rfl⟩
  clear hB
  rintro m IH ρ' _ ⟨d, hm, hsz, hB, e0, e6, e7, e8, e9, rfl⟩
  refine TK.know5 e0 e6 e7 e8 e9 ?_
  cases m with
  | succ m =>
    rw [Sort.heapBuild] at hB
    refine TK.know (t := 9) (v := .int .i64 (m : Int)) (congrArg (Value.int .i64) (by omega)) ?_
    refine m_run ?_
    (apply TL.callV; exact rfl; exact callB_of (by kernel_rfl); exact rfl; exact fun _ h => h)
    exact sift_t b c n m (e - a) a d Γ hsz (by omega) (by omega) hn
    rintro _ _ ⟨rfl, rfl⟩
    have hsz : (siftDown ltInt (e - a) a m d).size = n := (sift_size _ _ _ _ (by omega)).trans hsz
    refine m_run ?_
    exact IH m _ _ (by omega) ⟨_, by omega, hsz, hB, rfl, rfl, rfl, rfl, congrArg (Value.int .i64) (by rw [i64_in (by omega) (by omega)]), rfl⟩
  | zero =>
    rw [Sort.heapBuild] at hB
    rw [hB]
    refine TK.know (t := 9) (v := .int .i64 (-1)) (congrArg (Value.int .i64) (by omega)) ?_
    have hszB : B.size = n := hB ▸ hsz
    clear IH hB hsz
    refine m_run ?_
    apply TK.iter (fun m ρ' Γ' => ∃ (d : Array Int), m ≤ e - a ∧ d.size = n ∧ heapPop ltInt a m d = X ∧ lk ρ' 0 = .slice (some ⟨b, 0, none⟩) n c ∧ lk ρ' 6 = .int .i64 (a : Int) ∧ lk ρ' 7 = .int .i64 0 ∧ lk ρ' 10 = .int .i64 ((m : Int) - 1) ∧ Γ' = DD b c n d :: Γ) (e - a)
    · exact ⟨B, Nat.le_refl _, hszB, hX, rfl, rfl, rfl, congrArg (Value.int .i64) (by rw [i64_in (by omega) (by omega)]), rfl⟩
    clear hX
    rintro m IH ρ' _ ⟨d, hm, hsz, hX, e0, e6, e7, e10, rfl⟩
    refine TK.know4 e0 e6 e7 e10 ?_
    cases m with
    | succ m =>
      rw [Sort.heapPop] at hX
      refine TK.know (t := 10) (v := .int .i64 (m : Int)) (congrArg (Value.int .i64) (by omega)) ?_
      refine m_run ?_
      have hcI := cellD (b := b) (c := c) (Γ := Γ) hsz (show a < n by omega)
      have hcK := cellD (b := b) (c := c) (Γ := Γ) hsz (show a + m < n by omega)
      refine TK.drawB mixed rfl 17 (DD b c n d :: Γ) (Γ) ?_
      refine m_bake (At.mk : At 0) ?_; refine m_bake (At.mk : At 1) ?_; refine m_bake (At.mk : At 2) ?_; refine m_bake (At.mk : At 3) ?_; refine m_bake (At.mk : At 4) ?_; refine m_bake (At.mk : At 5) ?_
      refine TB.know (t := 38) (v := .int .i64 ((a + m : Nat) : Int)) (congrArg (Value.int .i64) (by rw [i64_in (by omega) (by omega)]; omega)) ?_
      refine m_bake (At.mk : At 6) ?_; refine m_bake (At.mk : At 7) ?_; refine m_bake (At.mk : At 8) ?_; refine m_bake (At.mk : At 9) ?_
      refine TB.know (t := 42) (v := .int .i64 ((a + m : Nat) : Int)) (congrArg (Value.int .i64) (by rw [i64_in (by omega) (by omega)]; omega)) ?_
      refine m_bake (At.mk : At 10) ?_; refine m_bake (At.mk : At 11) ?_; refine m_bake (At.mk : At 12) ?_; refine m_bake (At.mk : At 13) ?_; refine m_bake (At.mk : At 14) ?_; refine m_bake (At.mk : At 15) ?_; refine m_bake (At.mk : At 16) ?_
      (apply TB.last; kernel_rfl; exact rfl)
      (apply TL.storeOwn 0 (a); exact rfl; exact rfl; exact rfl; exact rfl; exact tb rfl; exact rfl; exact (Nat.zero_add _).symm; exact (by omega))
      refine TL.back (by (focus ((repeat (first | assumption | exact Ent.refl _ | apply Ent.tail)); done))) ?_
      refine m_take (At.mk : At 18) ?_
      (apply TA.one 19; kernel_rfl; exact rfl)
      (apply TL.storeOwn 0 (a + m); exact rfl; exact rfl; exact rfl; exact rfl; exact tb rfl; exact rfl; exact (Nat.zero_add _).symm; exact (by omega))
      refine TL.back (by (focus ((repeat (first | assumption | exact Ent.refl _ | apply Ent.tail)); done))) ?_
      refine TA.done (by kernel_rfl) ?_
      refine TK.imp (Δ := DD b c n (swp d (a) (a + m)) :: Γ) (fun _ h => by show all (own _ _ _ _ (nums _ (swp d (a) (a + m)).toList) :: _) _; rw [← swpD]; exact h) ?_
      have hsz : (swp d (a) (a + m)).size = n := (size_swp _ _ _).trans hsz
      clear hcI hcK
      refine m_run ?_
      (apply TL.callV; exact rfl; exact callB_of (by kernel_rfl); exact rfl; exact fun _ h => h)
      exact sift_t b c n 0 m a _ Γ hsz (by omega) (by omega) hn
      rintro _ _ ⟨rfl, rfl⟩
      have hsz : (siftDown ltInt m a 0 (swp d a (a + m))).size = n := (sift_size _ _ _ _ (by omega)).trans hsz
      refine m_run ?_
      exact IH m _ _ (by omega) ⟨_, by omega, hsz, hX, rfl, rfl, rfl, congrArg (Value.int .i64) (by rw [i64_in (by omega) (by omega)]), rfl⟩
    | zero =>
      rw [Sort.heapPop] at hX
      rw [hX]
      refine TK.know (t := 10) (v := .int .i64 (-1)) (congrArg (Value.int .i64) (by omega)) ?_
      refine m_run ?_
      exact TK.over0 rfl rfl ⟨_, rfl, rfl, rfl⟩

set_option maxRecDepth 100000 in
set_option maxHeartbeats 4000000 in
theorem partEq_t (b c n a e p : Nat) (d0 : Array Int) (Γ : List HP) (hsz0 : d0.size = n) (hap : a ≤ p) (hpe : p < e) (he : e ≤ n) (hn : n ≤ 1000000000) :
    FnV Try.prog 124 [.slice (some ⟨b, 0, none⟩) n c, .int .i64 (a : Int), .int .i64 (e : Int), .int .i64 (p : Int)] (DD b c n d0 :: Γ) fun v Γ' => v = .int .i64 ((partitionEqual ltInt d0 a e p).1 : Int) ∧ Γ' = DD b c n (partitionEqual ltInt d0 a e p).2 :: Γ := by
  refine Fn.enter Try.func124 rfl rfl rfl fun E => ?_
  unfold partitionEqual
  generalize hX : partEqLoop ltInt a (a + 1) (e - 1) (swp d0 a p) = X
  have hsz := hsz0
  refine m_run ?_
  have hcI := cellD (b := b) (c := c) (Γ := Γ) hsz (show a < n by omega)
  have hcK := cellD (b := b) (c := c) (Γ := Γ) hsz (show p < n by omega)
  refine TK.drawB mixed rfl 13 (DD b c n d0 :: Γ) (Γ) ?_
  refine m_bake (At.mk : At 0) ?_; refine m_bake (At.mk : At 1) ?_; refine m_bake (At.mk : At 2) ?_; refine m_bake (At.mk : At 3) ?_; refine m_bake (At.mk : At 4) ?_; refine m_bake (At.mk : At 5) ?_; refine m_bake (At.mk : At 6) ?_; refine m_bake (At.mk : At 7) ?_; refine m_bake (At.mk : At 8) ?_; refine m_bake (At.mk : At 9) ?_; refine m_bake (At.mk : At 10) ?_; refine m_bake (At.mk : At 11) ?_; refine m_bake (At.mk : At 12) ?_
  (apply TB.last; kernel_rfl; exact rfl)
  (apply TL.storeOwn 0 (a); exact rfl; exact rfl; exact rfl; exact rfl; exact tb rfl; exact rfl; exact (Nat.zero_add _).symm; exact (by omega))
  refine TL.back (by (focus ((repeat (first | assumption | exact Ent.refl _ | apply Ent.tail)); done))) ?_
  refine m_take (At.mk : At 14) ?_
  (apply TA.one 15; kernel_rfl; exact rfl)
  (apply TL.storeOwn 0 (p); exact rfl; exact rfl; exact rfl; exact rfl; exact tb rfl; exact rfl; exact (Nat.zero_add _).symm; exact (by omega))
  refine TL.back (by (focus ((repeat (first | assumption | exact Ent.refl _ | apply Ent.tail)); done))) ?_
  refine TA.done (by kernel_rfl) ?_
  refine TK.imp (Δ := DD b c n (swp d0 (a) (p)) :: Γ) (fun _ h => by show all (own _ _ _ _ (nums _ (swp d0 (a) (p)).toList) :: _) _; rw [← swpD]; exact h) ?_
  have hsz : (swp d0 (a) (p)).size = n := (size_swp _ _ _).trans hsz
  clear hcI hcK
  refine m_run ?_
  apply TK.iter (fun m ρ' Γ' => ∃ (i j : Nat) (d : Array Int), j + 1 - i ≤ m ∧ a + 1 ≤ i ∧ i ≤ j + 1 ∧ j < n ∧ d.size = n ∧ partEqLoop ltInt a i j d = X ∧ lk ρ' 0 = .slice (some ⟨b, 0, none⟩) n c ∧ lk ρ' 1 = .int .i64 (a : Int) ∧ lk ρ' 9 = .int .i64 (i : Int) ∧ lk ρ' 10 = .int .i64 (j : Int) ∧ Γ' = DD b c n d :: Γ) n
  · exact ⟨a + 1, e - 1, _, by omega, by omega, by omega, by omega, hsz, hX, rfl, rfl, congrArg (Value.int .i64) (by rw [i64_in (by omega) (by omega)]; omega), congrArg (Value.int .i64) (by rw [i64_in (by omega) (by omega)]; omega), rfl⟩
  clear hX hsz
  rintro m IH ρ' _ ⟨i, j, d, hm, hi1, hij, hjn, hsz, hX, e0, e1, e9, e10, rfl⟩
  refine TK.know4 e0 e1 e9 e10 ?_
  rw [partEqLoop_eq] at hX
  (repeat (first | refine TK.seq ?_ | refine TK.skip ?_))
  refine TK.block ?_
  (repeat (first | refine TK.seq ?_ | refine TK.skip ?_))
  apply TK.cut (fun ρ' Γ' => lk ρ' 0 = .slice (some ⟨b, 0, none⟩) n c ∧ lk ρ' 1 = .int .i64 (a : Int) ∧ lk ρ' 9 = .int .i64 ((scanUp (fun x => !ltInt d[a]! x) d (j) (i) : Nat) : Int) ∧ lk ρ' 10 = .int .i64 (j : Int) ∧ Γ' = DD b c n d :: Γ)
  · intro k' hk'
    generalize hS : scanUp (fun x => !ltInt d[a]! x) d (j) (i) = I at hk'
    refine m_run ?_
    apply TK.iter (fun m ρ' Γ' => ∃ (x : Nat), (j) + 1 - x ≤ m ∧ (i) ≤ x ∧ x ≤ (j) + 1 ∧ scanUp (fun x => !ltInt d[a]! x) d (j) x = I ∧ lk ρ' 0 = .slice (some ⟨b, 0, none⟩) n c ∧ lk ρ' 1 = .int .i64 (a : Int) ∧ lk ρ' 9 = .int .i64 (x : Int) ∧ lk ρ' 10 = .int .i64 (j : Int) ∧ Γ' = DD b c n d :: Γ) ((j) + 1)
    · exact ⟨i, by omega, Nat.le_refl _, by omega, hS, rfl, rfl, rfl, rfl, rfl⟩
    clear hS
    rintro m IH ρ' _ ⟨x, hm, hx1, hx2, hS, e0, e1, ei, ej, rfl⟩
    refine TK.know4 e0 e1 ei ej ?_
    rw [Sort.scanUp] at hS
    by_cases hx : x ≤ j
    · have hc1 := cellD (b := b) (c := c) (Γ := Γ) hsz (show x < n by omega)
      have hc2 := cellD (b := b) (c := c) (Γ := Γ) hsz (show a < n by omega)
      refine m_run ?_
      refine TK.drawS mixed rfl ?_
      refine m_take (At.mk : At 0) ?_; refine m_take (At.mk : At 1) ?_; refine m_take (At.mk : At 2) ?_
      refine TA.isT 31 rfl (decide_eq_true (by omega)) ?_
      refine m_take (At.mk : At 3) ?_; refine m_take (At.mk : At 4) ?_; refine m_take (At.mk : At 5) ?_; refine m_take (At.mk : At 6) ?_; refine m_take (At.mk : At 7) ?_; refine m_take (At.mk : At 8) ?_; refine m_take (At.mk : At 9) ?_; refine m_take (At.mk : At 10) ?_; refine m_take (At.mk : At 11) ?_
      (apply TA.one 12; kernel_rfl; exact rfl)
      refine m_rrun ?_
      (apply TL.callV; exact rfl; exact callB_of (by kernel_rfl); exact rfl; exact fun _ h => h)
      exact less_t _ _ _
      rintro _ _ ⟨rfl, rfl⟩
      refine TL.back (by (focus ((repeat (first | assumption | exact Ent.refl _ | apply Ent.tail)); done))) ?_
      refine m_take (At.mk : At 13) ?_; refine m_take (At.mk : At 14) ?_
      by_cases h : d[a]! < d[x]!
      · rw [if_neg (by simp [ltInt, h])] at hS
        refine TA.isF 43 rfl (not_f (decide_eq_true h)) ?_
        refine TA.done (by kernel_rfl) ?_
        clear hc1 hc2
        refine m_run ?_
        exact hk' _ _ ⟨rfl, rfl, congrArg (fun z : Nat => Value.int .i64 (z : Int)) hS, rfl, rfl⟩
      · rw [if_pos (by simp [ltInt, h]; omega)] at hS
        refine TA.isT 43 rfl (not_t (decide_eq_false h)) ?_
        refine TA.done (by kernel_rfl) ?_
        clear hc1 hc2
        refine m_run ?_
        exact IH (m - 1) _ _ (by omega) ⟨x + 1, by omega, by omega, by omega, hS, rfl, rfl, congrArg (Value.int .i64) (i64_succ x (by omega)), rfl, rfl⟩
    · rw [if_neg (by simp; omega)] at hS
      refine m_run ?_
      refine TK.drawS mixed rfl ?_
      refine m_take (At.mk : At 0) ?_; refine m_take (At.mk : At 1) ?_; refine m_take (At.mk : At 2) ?_
      refine TA.isF 31 rfl (decide_eq_false (by omega)) ?_
      refine m_take (At.mk : At 3) ?_; refine m_take (At.mk : At 4) ?_; refine m_take (At.mk : At 5) ?_; refine m_take (At.mk : At 6) ?_; refine m_take (At.mk : At 7) ?_; refine m_take (At.mk : At 8) ?_; refine m_take (At.mk : At 9) ?_; refine m_take (At.mk : At 10) ?_; refine m_take (At.mk : At 11) ?_; refine m_take (At.mk : At 12) ?_; refine m_take (At.mk : At 13) ?_; refine m_take (At.mk : At 14) ?_
      refine TA.done (by kernel_rfl) ?_
      refine m_run ?_
      exact hk' _ _ ⟨rfl, rfl, congrArg (fun z : Nat => Value.int .i64 (z : Int)) hS, rfl, rfl⟩
  rintro ρ' _ ⟨e0, e1, ei, ej, rfl⟩
  refine TK.know4 e0 e1 ei ej ?_
  obtain ⟨hs1, hs2, _, hs4⟩ := scanUp_spec (fun x => !ltInt d[a]! x) d j _ i rfl
  have hs2 := hs2 hij
  generalize hI : scanUp (fun x => !ltInt d[a]! x) d j i = i2 at *
  (repeat (first | refine TK.seq ?_ | refine TK.skip ?_))
  apply TK.cut (fun ρ' Γ' => lk ρ' 0 = .slice (some ⟨b, 0, none⟩) n c ∧ lk ρ' 1 = .int .i64 (a : Int) ∧ lk ρ' 9 = .int .i64 (i2 : Int) ∧ lk ρ' 10 = .int .i64 ((scanDown (fun x => ltInt d[a]! x) d (i2) (j) : Nat) : Int) ∧ Γ' = DD b c n d :: Γ)
  · intro k' hk'
    generalize hS : scanDown (fun x => ltInt d[a]! x) d (i2) (j) = J at hk'
    refine m_run ?_
    apply TK.iter (fun m ρ' Γ' => m ≤ j ∧ (i2) ≤ m + 1 ∧ scanDown (fun x => ltInt d[a]! x) d (i2) m = J ∧ lk ρ' 0 = .slice (some ⟨b, 0, none⟩) n c ∧ lk ρ' 1 = .int .i64 (a : Int) ∧ lk ρ' 9 = .int .i64 (i2 : Int) ∧ lk ρ' 10 = .int .i64 (m : Int) ∧ Γ' = DD b c n d :: Γ) (j)
    · exact ⟨Nat.le_refl _, by omega, hS, rfl, rfl, rfl, rfl, rfl⟩
    clear hS
    rintro x IH ρ' _ ⟨hx1, hx2, hS, e0, e1, ei, ej, rfl⟩
    refine TK.know4 e0 e1 ei ej ?_
    by_cases hx : i2 ≤ x
    · obtain ⟨w, rfl⟩ : ∃ w, x = w + 1 := ⟨x - 1, by omega⟩
      rw [Sort.scanDown] at hS
      have hc1 := cellD (b := b) (c := c) (Γ := Γ) hsz (show w + 1 < n by omega)
      have hc2 := cellD (b := b) (c := c) (Γ := Γ) hsz (show a < n by omega)
      refine m_run ?_
      refine TK.drawS mixed rfl ?_
      refine m_take (At.mk : At 0) ?_; refine m_take (At.mk : At 1) ?_; refine m_take (At.mk : At 2) ?_
      refine TA.isT 48 rfl (decide_eq_true (by omega)) ?_
      refine m_take (At.mk : At 3) ?_; refine m_take (At.mk : At 4) ?_; refine m_take (At.mk : At 5) ?_; refine m_take (At.mk : At 6) ?_; refine m_take (At.mk : At 7) ?_; refine m_take (At.mk : At 8) ?_; refine m_take (At.mk : At 9) ?_; refine m_take (At.mk : At 10) ?_; refine m_take (At.mk : At 11) ?_
      (apply TA.one 12; kernel_rfl; exact rfl)
      refine m_rrun ?_
      (apply TL.callV; exact rfl; exact callB_of (by kernel_rfl); exact rfl; exact fun _ h => h)
      exact less_t _ _ _
      rintro _ _ ⟨rfl, rfl⟩
      refine TL.back (by (focus ((repeat (first | assumption | exact Ent.refl _ | apply Ent.tail)); done))) ?_
      refine m_take (At.mk : At 13) ?_
      by_cases h : d[a]! < d[w + 1]!
      · rw [if_pos (by simp [ltInt, h]; omega)] at hS
        refine TA.isT 59 rfl (decide_eq_true h) ?_
        refine TA.done (by kernel_rfl) ?_
        clear hc1 hc2
        refine m_run ?_
        exact IH w _ _ (by omega) ⟨by omega, by omega, hS, rfl, rfl, rfl, congrArg (Value.int .i64) (by rw [i64_in (by omega) (by omega)]; omega), rfl⟩
      · rw [if_neg (by simp [ltInt, h])] at hS
        refine TA.isF 59 rfl (decide_eq_false h) ?_
        refine TA.done (by kernel_rfl) ?_
        clear hc1 hc2
        refine m_run ?_
        exact hk' _ _ ⟨rfl, rfl, rfl, congrArg (fun z : Nat => Value.int .i64 (z : Int)) hS, rfl⟩
    · have hS : x = J := by
        rw [← hS]
        cases x with
        | zero => rw [Sort.scanDown]
        | succ w => rw [Sort.scanDown, if_neg (by simp; omega)]
      refine m_run ?_
      refine TK.drawS mixed rfl ?_
      refine m_take (At.mk : At 0) ?_; refine m_take (At.mk : At 1) ?_; refine m_take (At.mk : At 2) ?_
      refine TA.isF 48 rfl (decide_eq_false (by omega)) ?_
      refine m_take (At.mk : At 3) ?_; refine m_take (At.mk : At 4) ?_; refine m_take (At.mk : At 5) ?_; refine m_take (At.mk : At 6) ?_; refine m_take (At.mk : At 7) ?_; refine m_take (At.mk : At 8) ?_; refine m_take (At.mk : At 9) ?_; refine m_take (At.mk : At 10) ?_; refine m_take (At.mk : At 11) ?_; refine m_take (At.mk : At 12) ?_; refine m_take (At.mk : At 13) ?_
      refine TA.done (by kernel_rfl) ?_
      refine m_run ?_
      exact hk' _ _ ⟨rfl, rfl, rfl, congrArg (fun z : Nat => Value.int .i64 (z : Int)) hS, rfl⟩
  rintro ρ' _ ⟨e0, e1, ei, ej, rfl⟩
  refine TK.know4 e0 e1 ei ej ?_
  obtain ⟨ht1, ht2, _, ht4⟩ := scanDown_spec (fun x => ltInt d[a]! x) d i2 j
  have ht2 := ht2 hs2
  generalize hJ : scanDown (fun x => ltInt d[a]! x) d i2 j = j2 at *
  by_cases hgt : i2 > j2
  · rw [if_pos hgt] at hX
    rw [← hX]
    refine m_run ?_
    (apply TK.ret1; exact rfl; exact rfl; (exact m_val))
    exact ⟨_, rfl, rfl, rfl⟩
  · rw [if_neg hgt] at hX
    have hne : i2 ≠ j2 := fun e => by
      have h1 := hs4 (by omega)
      have h2 := ht4 (by omega) (by omega)
      rw [← e] at h2
      simp only [h2] at h1
      cases h1
    refine m_run ?_
    have hcI := cellD (b := b) (c := c) (Γ := Γ) hsz (show i2 < n by omega)
    have hcK := cellD (b := b) (c := c) (Γ := Γ) hsz (show j2 < n by omega)
    refine TK.drawB mixed rfl 13 (DD b c n d :: Γ) (Γ) ?_
    refine m_bake (At.mk : At 0) ?_; refine m_bake (At.mk : At 1) ?_; refine m_bake (At.mk : At 2) ?_; refine m_bake (At.mk : At 3) ?_; refine m_bake (At.mk : At 4) ?_; refine m_bake (At.mk : At 5) ?_; refine m_bake (At.mk : At 6) ?_; refine m_bake (At.mk : At 7) ?_; refine m_bake (At.mk : At 8) ?_; refine m_bake (At.mk : At 9) ?_; refine m_bake (At.mk : At 10) ?_; refine m_bake (At.mk : At 11) ?_; refine m_bake (At.mk : At 12) ?_
    (apply TB.last; kernel_rfl; exact rfl)
    (apply TL.storeOwn 0 (i2); exact rfl; exact rfl; exact rfl; exact rfl; exact tb rfl; exact rfl; exact (Nat.zero_add _).symm; exact (by omega))
    refine TL.back (by (focus ((repeat (first | assumption | exact Ent.refl _ | apply Ent.tail)); done))) ?_
    refine m_take (At.mk : At 14) ?_
    (apply TA.one 15; kernel_rfl; exact rfl)
    (apply TL.storeOwn 0 (j2); exact rfl; exact rfl; exact rfl; exact rfl; exact tb rfl; exact rfl; exact (Nat.zero_add _).symm; exact (by omega))
    refine TL.back (by (focus ((repeat (first | assumption | exact Ent.refl _ | apply Ent.tail)); done))) ?_
    refine TA.done (by kernel_rfl) ?_
    refine TK.imp (Δ := DD b c n (swp d (i2) (j2)) :: Γ) (fun _ h => by show all (own _ _ _ _ (nums _ (swp d (i2) (j2)).toList) :: _) _; rw [← swpD]; exact h) ?_
    have hsz : (swp d (i2) (j2)).size = n := (size_swp _ _ _).trans hsz
    clear hcI hcK
    refine m_run ?_
    exact IH (m - 1) _ _ (by omega) ⟨i2 + 1, j2 - 1, _, by omega, by omega, by omega, by omega, hsz, hX, rfl, rfl, congrArg (Value.int .i64) (by rw [i64_in (by omega) (by omega)]; omega), congrArg (Value.int .i64) (by rw [i64_in (by omega) (by omega)]; omega), rfl⟩
end Go.Proofs.Ytndmjpceocecdaa.E.SI

/- Parted by a pivot. -/
namespace Go.Proofs.Ytndmjpceocecdaa.E.SI
open Go Go.RowKit Go.Proofs Go.Sort
attribute [local irreducible] TK TL TQ TA TB Fn PV Sort.insInner Sort.heapBuild Sort.heapPop Sort.scanDown Sort.shiftDown Sort.partialIns
set_option maxRecDepth 100000 in
set_option maxHeartbeats 4000000 in
theorem part_t (b c n a e p : Nat) (d0 : Array Int) (Γ : List HP) (hsz0 : d0.size = n) (hap : a ≤ p) (hpe : p < e) (he : e ≤ n) (hn : n ≤ 1000000000) :
    FnV Try.prog 125 [.slice (some ⟨b, 0, none⟩) n c, .int .i64 (a : Int), .int .i64 (e : Int), .int .i64 (p : Int)] (DD b c n d0 :: Γ) fun v Γ' => v = .tuple #[.int .i64 ((Sort.partition ltInt d0 a e p).1 : Int), .bool (Sort.partition ltInt d0 a e p).2.1] ∧ Γ' = DD b c n (Sort.partition ltInt d0 a e p).2.2 :: Γ := by
  refine Fn.enter Try.func125 rfl rfl rfl fun E => ?_
  generalize hX : Sort.partition ltInt d0 a e p = X
  unfold Sort.partition at hX
  have hsz := hsz0
  refine m_run ?_
  have hcI := cellD (b := b) (c := c) (Γ := Γ) hsz (show a < n by omega)
  have hcK := cellD (b := b) (c := c) (Γ := Γ) hsz (show p < n by omega)
  refine TK.drawB mixed rfl 13 (DD b c n d0 :: Γ) (Γ) ?_
  refine m_bake (At.mk : At 0) ?_; refine m_bake (At.mk : At 1) ?_; refine m_bake (At.mk : At 2) ?_; refine m_bake (At.mk : At 3) ?_; refine m_bake (At.mk : At 4) ?_; refine m_bake (At.mk : At 5) ?_; refine m_bake (At.mk : At 6) ?_; refine m_bake (At.mk : At 7) ?_; refine m_bake (At.mk : At 8) ?_; refine m_bake (At.mk : At 9) ?_; refine m_bake (At.mk : At 10) ?_; refine m_bake (At.mk : At 11) ?_; refine m_bake (At.mk : At 12) ?_
  (apply TB.last; kernel_rfl; exact rfl)
  (apply TL.storeOwn 0 (a); exact rfl; exact rfl; exact rfl; exact rfl; exact tb rfl; exact rfl; exact (Nat.zero_add _).symm; exact (by omega))
  refine TL.back (by (focus ((repeat (first | assumption | exact Ent.refl _ | apply Ent.tail)); done))) ?_
  refine m_take (At.mk : At 14) ?_
  (apply TA.one 15; kernel_rfl; exact rfl)
  (apply TL.storeOwn 0 (p); exact rfl; exact rfl; exact rfl; exact rfl; exact tb rfl; exact rfl; exact (Nat.zero_add _).symm; exact (by omega))
  refine TL.back (by (focus ((repeat (first | assumption | exact Ent.refl _ | apply Ent.tail)); done))) ?_
  refine TA.done (by kernel_rfl) ?_
  refine TK.imp (Δ := DD b c n (swp d0 (a) (p)) :: Γ) (fun _ h => by show all (own _ _ _ _ (nums _ (swp d0 (a) (p)).toList) :: _) _; rw [← swpD]; exact h) ?_
  have hsz : (swp d0 (a) (p)).size = n := (size_swp _ _ _).trans hsz
  clear hcI hcK
  simp only [] at hX
  generalize swp d0 a p = d at *
  (repeat (first | refine TK.seq ?_ | refine TK.skip ?_))
  refine TK.region ?_
  refine m_rrun ?_
  refine TL.nil ?_
  (repeat (first | refine TK.seq ?_ | refine TK.skip ?_))
  refine TK.know (t := 10) (v := .int .i64 ((a + 1 : Nat) : Int)) (congrArg (Value.int .i64) (by rw [i64_in (by omega) (by omega)]; omega)) ?_
  refine TK.know (t := 11) (v := .int .i64 ((e - 1 : Nat) : Int)) (congrArg (Value.int .i64) (by rw [i64_in (by omega) (by omega)]; omega)) ?_
  have hij : a + 1 ≤ (e - 1) + 1 := by omega
  have hjn : e - 1 < n := by omega
  generalize hi1 : a + 1 = i at hij hX ⊢
  replace hi1 : a + 1 ≤ i := by omega
  generalize e - 1 = j at hij hjn hX ⊢
  apply TK.cut (fun ρ' Γ' => lk ρ' 0 = .slice (some ⟨b, 0, none⟩) n c ∧ lk ρ' 1 = .int .i64 (a : Int) ∧ lk ρ' 10 = .int .i64 ((scanUp (fun x => ltInt x d[a]!) d (j) (i) : Nat) : Int) ∧ lk ρ' 11 = .int .i64 (j : Int) ∧ Γ' = DD b c n d :: Γ)
  · intro k' hk'
    generalize hS : scanUp (fun x => ltInt x d[a]!) d (j) (i) = I at hk'
    refine m_run ?_
    apply TK.iter (fun m ρ' Γ' => ∃ (x : Nat), (j) + 1 - x ≤ m ∧ (i) ≤ x ∧ x ≤ (j) + 1 ∧ scanUp (fun x => ltInt x d[a]!) d (j) x = I ∧ lk ρ' 0 = .slice (some ⟨b, 0, none⟩) n c ∧ lk ρ' 1 = .int .i64 (a : Int) ∧ lk ρ' 10 = .int .i64 (x : Int) ∧ lk ρ' 11 = .int .i64 (j : Int) ∧ Γ' = DD b c n d :: Γ) ((j) + 1)
    · exact ⟨i, by omega, Nat.le_refl _, by omega, hS, rfl, rfl, rfl, rfl, rfl⟩
    clear hS
    rintro m IH ρ' _ ⟨x, hm, hx1, hx2, hS, e0, e1, ei, ej, rfl⟩
    refine TK.know4 e0 e1 ei ej ?_
    rw [Sort.scanUp] at hS
    by_cases hx : x ≤ j
    · have hc1 := cellD (b := b) (c := c) (Γ := Γ) hsz (show x < n by omega)
      have hc2 := cellD (b := b) (c := c) (Γ := Γ) hsz (show a < n by omega)
      refine m_run ?_
      refine TK.drawS mixed rfl ?_
      refine m_take (At.mk : At 0) ?_; refine m_take (At.mk : At 1) ?_; refine m_take (At.mk : At 2) ?_
      refine TA.isT 32 rfl (decide_eq_true (by omega)) ?_
      refine m_take (At.mk : At 3) ?_; refine m_take (At.mk : At 4) ?_; refine m_take (At.mk : At 5) ?_; refine m_take (At.mk : At 6) ?_; refine m_take (At.mk : At 7) ?_; refine m_take (At.mk : At 8) ?_; refine m_take (At.mk : At 9) ?_; refine m_take (At.mk : At 10) ?_; refine m_take (At.mk : At 11) ?_
      (apply TA.one 12; kernel_rfl; exact rfl)
      refine m_rrun ?_
      (apply TL.callV; exact rfl; exact callB_of (by kernel_rfl); exact rfl; exact fun _ h => h)
      exact less_t _ _ _
      rintro _ _ ⟨rfl, rfl⟩
      refine TL.back (by (focus ((repeat (first | assumption | exact Ent.refl _ | apply Ent.tail)); done))) ?_
      refine m_take (At.mk : At 13) ?_
      by_cases h : d[x]! < d[a]!
      · rw [if_pos (by simp [ltInt, h]; omega)] at hS
        refine TA.isT 43 rfl (decide_eq_true h) ?_
        refine TA.done (by kernel_rfl) ?_
        clear hc1 hc2
        refine m_run ?_
        exact IH (m - 1) _ _ (by omega) ⟨x + 1, by omega, by omega, by omega, hS, rfl, rfl, congrArg (Value.int .i64) (i64_succ x (by omega)), rfl, rfl⟩
      · rw [if_neg (by simp [ltInt, h])] at hS
        refine TA.isF 43 rfl (decide_eq_false h) ?_
        refine TA.done (by kernel_rfl) ?_
        clear hc1 hc2
        refine m_run ?_
        exact hk' _ _ ⟨rfl, rfl, congrArg (fun z : Nat => Value.int .i64 (z : Int)) hS, rfl, rfl⟩
    · rw [if_neg (by simp; omega)] at hS
      refine m_run ?_
      refine TK.drawS mixed rfl ?_
      refine m_take (At.mk : At 0) ?_; refine m_take (At.mk : At 1) ?_; refine m_take (At.mk : At 2) ?_
      refine TA.isF 32 rfl (decide_eq_false (by omega)) ?_
      refine m_take (At.mk : At 3) ?_; refine m_take (At.mk : At 4) ?_; refine m_take (At.mk : At 5) ?_; refine m_take (At.mk : At 6) ?_; refine m_take (At.mk : At 7) ?_; refine m_take (At.mk : At 8) ?_; refine m_take (At.mk : At 9) ?_; refine m_take (At.mk : At 10) ?_; refine m_take (At.mk : At 11) ?_; refine m_take (At.mk : At 12) ?_; refine m_take (At.mk : At 13) ?_
      refine TA.done (by kernel_rfl) ?_
      refine m_run ?_
      exact hk' _ _ ⟨rfl, rfl, congrArg (fun z : Nat => Value.int .i64 (z : Int)) hS, rfl, rfl⟩
  rintro ρ' _ ⟨e0, e1, ei, ej, rfl⟩
  refine TK.know4 e0 e1 ei ej ?_
  obtain ⟨hs1, hs2, _, hs4⟩ := scanUp_spec (fun x => ltInt x d[a]!) d j _ i rfl
  have hs2 := hs2 hij
  generalize hI : scanUp (fun x => ltInt x d[a]!) d j i = i2 at *
  (repeat (first | refine TK.seq ?_ | refine TK.skip ?_))
  apply TK.cut (fun ρ' Γ' => lk ρ' 0 = .slice (some ⟨b, 0, none⟩) n c ∧ lk ρ' 1 = .int .i64 (a : Int) ∧ lk ρ' 10 = .int .i64 (i2 : Int) ∧ lk ρ' 11 = .int .i64 ((scanDown (fun x => !ltInt x d[a]!) d (i2) (j) : Nat) : Int) ∧ Γ' = DD b c n d :: Γ)
  · intro k' hk'
    generalize hS : scanDown (fun x => !ltInt x d[a]!) d (i2) (j) = J at hk'
    refine m_run ?_
    apply TK.iter (fun m ρ' Γ' => m ≤ j ∧ (i2) ≤ m + 1 ∧ scanDown (fun x => !ltInt x d[a]!) d (i2) m = J ∧ lk ρ' 0 = .slice (some ⟨b, 0, none⟩) n c ∧ lk ρ' 1 = .int .i64 (a : Int) ∧ lk ρ' 10 = .int .i64 (i2 : Int) ∧ lk ρ' 11 = .int .i64 (m : Int) ∧ Γ' = DD b c n d :: Γ) (j)
    · exact ⟨Nat.le_refl _, by omega, hS, rfl, rfl, rfl, rfl, rfl⟩
    clear hS
    rintro x IH ρ' _ ⟨hx1, hx2, hS, e0, e1, ei, ej, rfl⟩
    refine TK.know4 e0 e1 ei ej ?_
    by_cases hx : i2 ≤ x
    · obtain ⟨w, rfl⟩ : ∃ w, x = w + 1 := ⟨x - 1, by omega⟩
      rw [Sort.scanDown] at hS
      have hc1 := cellD (b := b) (c := c) (Γ := Γ) hsz (show w + 1 < n by omega)
      have hc2 := cellD (b := b) (c := c) (Γ := Γ) hsz (show a < n by omega)
      refine m_run ?_
      refine TK.drawS mixed rfl ?_
      refine m_take (At.mk : At 0) ?_; refine m_take (At.mk : At 1) ?_; refine m_take (At.mk : At 2) ?_
      refine TA.isT 48 rfl (decide_eq_true (by omega)) ?_
      refine m_take (At.mk : At 3) ?_; refine m_take (At.mk : At 4) ?_; refine m_take (At.mk : At 5) ?_; refine m_take (At.mk : At 6) ?_; refine m_take (At.mk : At 7) ?_; refine m_take (At.mk : At 8) ?_; refine m_take (At.mk : At 9) ?_; refine m_take (At.mk : At 10) ?_; refine m_take (At.mk : At 11) ?_
      (apply TA.one 12; kernel_rfl; exact rfl)
      refine m_rrun ?_
      (apply TL.callV; exact rfl; exact callB_of (by kernel_rfl); exact rfl; exact fun _ h => h)
      exact less_t _ _ _
      rintro _ _ ⟨rfl, rfl⟩
      refine TL.back (by (focus ((repeat (first | assumption | exact Ent.refl _ | apply Ent.tail)); done))) ?_
      refine m_take (At.mk : At 13) ?_; refine m_take (At.mk : At 14) ?_
      by_cases h : d[w + 1]! < d[a]!
      · rw [if_neg (by simp [ltInt, h])] at hS
        refine TA.isF 60 rfl (not_f (decide_eq_true h)) ?_
        refine TA.done (by kernel_rfl) ?_
        clear hc1 hc2
        refine m_run ?_
        exact hk' _ _ ⟨rfl, rfl, rfl, congrArg (fun z : Nat => Value.int .i64 (z : Int)) hS, rfl⟩
      · rw [if_pos (by simp [ltInt, h]; omega)] at hS
        refine TA.isT 60 rfl (not_t (decide_eq_false h)) ?_
        refine TA.done (by kernel_rfl) ?_
        clear hc1 hc2
        refine m_run ?_
        exact IH w _ _ (by omega) ⟨by omega, by omega, hS, rfl, rfl, rfl, congrArg (Value.int .i64) (by rw [i64_in (by omega) (by omega)]; omega), rfl⟩
    · have hS : x = J := by
        rw [← hS]
        cases x with
        | zero => rw [Sort.scanDown]
        | succ w => rw [Sort.scanDown, if_neg (by simp; omega)]
      refine m_run ?_
      refine TK.drawS mixed rfl ?_
      refine m_take (At.mk : At 0) ?_; refine m_take (At.mk : At 1) ?_; refine m_take (At.mk : At 2) ?_
      refine TA.isF 48 rfl (decide_eq_false (by omega)) ?_
      refine m_take (At.mk : At 3) ?_; refine m_take (At.mk : At 4) ?_; refine m_take (At.mk : At 5) ?_; refine m_take (At.mk : At 6) ?_; refine m_take (At.mk : At 7) ?_; refine m_take (At.mk : At 8) ?_; refine m_take (At.mk : At 9) ?_; refine m_take (At.mk : At 10) ?_; refine m_take (At.mk : At 11) ?_; refine m_take (At.mk : At 12) ?_; refine m_take (At.mk : At 13) ?_; refine m_take (At.mk : At 14) ?_
      refine TA.done (by kernel_rfl) ?_
      refine m_run ?_
      exact hk' _ _ ⟨rfl, rfl, rfl, congrArg (fun z : Nat => Value.int .i64 (z : Int)) hS, rfl⟩
  rintro ρ' _ ⟨e0, e1, ei, ej, rfl⟩
  refine TK.know4 e0 e1 ei ej ?_
  obtain ⟨ht1, ht2, _, ht4⟩ := scanDown_spec (fun x => !ltInt x d[a]!) d i2 j
  have ht2 := ht2 hs2
  generalize hJ : scanDown (fun x => !ltInt x d[a]!) d i2 j = j2 at *
  by_cases hgt : i2 > j2
  · rw [if_pos hgt] at hX
    rw [← hX]
    refine m_run ?_
    have hcI := cellD (b := b) (c := c) (Γ := Γ) hsz (show j2 < n by omega)
    have hcK := cellD (b := b) (c := c) (Γ := Γ) hsz (show a < n by omega)
    refine TK.drawB mixed rfl 13 (DD b c n d :: Γ) (Γ) ?_
    refine m_bake (At.mk : At 0) ?_; refine m_bake (At.mk : At 1) ?_; refine m_bake (At.mk : At 2) ?_; refine m_bake (At.mk : At 3) ?_; refine m_bake (At.mk : At 4) ?_; refine m_bake (At.mk : At 5) ?_; refine m_bake (At.mk : At 6) ?_; refine m_bake (At.mk : At 7) ?_; refine m_bake (At.mk : At 8) ?_; refine m_bake (At.mk : At 9) ?_; refine m_bake (At.mk : At 10) ?_; refine m_bake (At.mk : At 11) ?_; refine m_bake (At.mk : At 12) ?_
    (apply TB.last; kernel_rfl; exact rfl)
    (apply TL.storeOwn 0 (j2); exact rfl; exact rfl; exact rfl; exact rfl; exact tb rfl; exact rfl; exact (Nat.zero_add _).symm; exact (by omega))
    refine TL.back (by (focus ((repeat (first | assumption | exact Ent.refl _ | apply Ent.tail)); done))) ?_
    refine m_take (At.mk : At 14) ?_
    (apply TA.one 15; kernel_rfl; exact rfl)
    (apply TL.storeOwn 0 (a); exact rfl; exact rfl; exact rfl; exact rfl; exact tb rfl; exact rfl; exact (Nat.zero_add _).symm; exact (by omega))
    refine TL.back (by (focus ((repeat (first | assumption | exact Ent.refl _ | apply Ent.tail)); done))) ?_
    refine TA.done (by kernel_rfl) ?_
    refine TK.imp (Δ := DD b c n (swp d (j2) (a)) :: Γ) (fun _ h => by show all (own _ _ _ _ (nums _ (swp d (j2) (a)).toList) :: _) _; rw [← swpD]; exact h) ?_
    have hsz : (swp d (j2) (a)).size = n := (size_swp _ _ _).trans hsz
    clear hcI hcK
    refine m_run ?_
    (apply TK.ret2; exact rfl; exact rfl; (exact m_val); (exact m_val))
    exact ⟨_, rfl, rfl, rfl⟩
  · rw [if_neg hgt] at hX
    have hne : i2 ≠ j2 := fun e => by
      have h1 := hs4 (by omega)
      have h2 := ht4 (by omega) (by omega)
      rw [← e] at h2
      simp only [h1] at h2
      cases h2
    refine m_run ?_
    have hcI := cellD (b := b) (c := c) (Γ := Γ) hsz (show i2 < n by omega)
    have hcK := cellD (b := b) (c := c) (Γ := Γ) hsz (show j2 < n by omega)
    refine TK.drawB mixed rfl 13 (DD b c n d :: Γ) (Γ) ?_
    refine m_bake (At.mk : At 0) ?_; refine m_bake (At.mk : At 1) ?_; refine m_bake (At.mk : At 2) ?_; refine m_bake (At.mk : At 3) ?_; refine m_bake (At.mk : At 4) ?_; refine m_bake (At.mk : At 5) ?_; refine m_bake (At.mk : At 6) ?_; refine m_bake (At.mk : At 7) ?_; refine m_bake (At.mk : At 8) ?_; refine m_bake (At.mk : At 9) ?_; refine m_bake (At.mk : At 10) ?_; refine m_bake (At.mk : At 11) ?_; refine m_bake (At.mk : At 12) ?_
    (apply TB.last; kernel_rfl; exact rfl)
    (apply TL.storeOwn 0 (i2); exact rfl; exact rfl; exact rfl; exact rfl; exact tb rfl; exact rfl; exact (Nat.zero_add _).symm; exact (by omega))
    refine TL.back (by (focus ((repeat (first | assumption | exact Ent.refl _ | apply Ent.tail)); done))) ?_
    refine m_take (At.mk : At 14) ?_
    (apply TA.one 15; kernel_rfl; exact rfl)
    (apply TL.storeOwn 0 (j2); exact rfl; exact rfl; exact rfl; exact rfl; exact tb rfl; exact rfl; exact (Nat.zero_add _).symm; exact (by omega))
    refine TL.back (by (focus ((repeat (first | assumption | exact Ent.refl _ | apply Ent.tail)); done))) ?_
    refine TA.done (by kernel_rfl) ?_
    refine TK.imp (Δ := DD b c n (swp d (i2) (j2)) :: Γ) (fun _ h => by show all (own _ _ _ _ (nums _ (swp d (i2) (j2)).toList) :: _) _; rw [← swpD]; exact h) ?_
    have hsz : (swp d (i2) (j2)).size = n := (size_swp _ _ _).trans hsz
    clear hcI hcK
    generalize swp d i2 j2 = d1 at *
    clear hs4 ht4 hI hJ
    generalize hR : partLoop ltInt a (i2 + 1) (j2 - 1) d1 = R at hX
    refine m_run ?_
    apply TK.iter (fun m ρ' Γ' => ∃ (i j : Nat) (d : Array Int), j + 1 - i ≤ m ∧ a + 1 ≤ i ∧ i ≤ j + 1 ∧ j < n ∧ d.size = n ∧ partLoop ltInt a i j d = R ∧ lk ρ' 0 = .slice (some ⟨b, 0, none⟩) n c ∧ lk ρ' 1 = .int .i64 (a : Int) ∧ lk ρ' 10 = .int .i64 (i : Int) ∧ lk ρ' 11 = .int .i64 (j : Int) ∧ Γ' = DD b c n d :: Γ) n
    · exact ⟨i2 + 1, j2 - 1, _, by omega, by omega, by omega, by omega, hsz, hR, rfl, rfl, congrArg (Value.int .i64) (by rw [i64_in (by omega) (by omega)]; omega), congrArg (Value.int .i64) (by rw [i64_in (by omega) (by omega)]; omega), rfl⟩
    clear hR hsz hne hgt ht1 ht2 hs1 hs2 hij hi1 hjn
    rintro m IH ρ' _ ⟨i, j, d, hm, hi1, hij, hjn, hsz, hR, e0, e1, e10, e11, rfl⟩
    refine TK.know4 e0 e1 e10 e11 ?_
    rw [partLoop_eq] at hR
    (repeat (first | refine TK.seq ?_ | refine TK.skip ?_))
    refine TK.block ?_
    (repeat (first | refine TK.seq ?_ | refine TK.skip ?_))
    apply TK.cut (fun ρ' Γ' => lk ρ' 0 = .slice (some ⟨b, 0, none⟩) n c ∧ lk ρ' 1 = .int .i64 (a : Int) ∧ lk ρ' 10 = .int .i64 ((scanUp (fun x => ltInt x d[a]!) d (j) (i) : Nat) : Int) ∧ lk ρ' 11 = .int .i64 (j : Int) ∧ Γ' = DD b c n d :: Γ)
    · intro k' hk'
      generalize hS : scanUp (fun x => ltInt x d[a]!) d (j) (i) = I at hk'
      refine m_run ?_
      apply TK.iter (fun m ρ' Γ' => ∃ (x : Nat), (j) + 1 - x ≤ m ∧ (i) ≤ x ∧ x ≤ (j) + 1 ∧ scanUp (fun x => ltInt x d[a]!) d (j) x = I ∧ lk ρ' 0 = .slice (some ⟨b, 0, none⟩) n c ∧ lk ρ' 1 = .int .i64 (a : Int) ∧ lk ρ' 10 = .int .i64 (x : Int) ∧ lk ρ' 11 = .int .i64 (j : Int) ∧ Γ' = DD b c n d :: Γ) ((j) + 1)
      · exact ⟨i, by omega, Nat.le_refl _, by omega, hS, rfl, rfl, rfl, rfl, rfl⟩
      clear hS
      rintro m IH ρ' _ ⟨x, hm, hx1, hx2, hS, e0, e1, ei, ej, rfl⟩
      refine TK.know4 e0 e1 ei ej ?_
      rw [Sort.scanUp] at hS
      by_cases hx : x ≤ j
      · have hc1 := cellD (b := b) (c := c) (Γ := Γ) hsz (show x < n by omega)
        have hc2 := cellD (b := b) (c := c) (Γ := Γ) hsz (show a < n by omega)
        refine m_run ?_
        refine TK.drawS mixed rfl ?_
        refine m_take (At.mk : At 0) ?_; refine m_take (At.mk : At 1) ?_; refine m_take (At.mk : At 2) ?_
        refine TA.isT 101 rfl (decide_eq_true (by omega)) ?_
        refine m_take (At.mk : At 3) ?_; refine m_take (At.mk : At 4) ?_; refine m_take (At.mk : At 5) ?_; refine m_take (At.mk : At 6) ?_; refine m_take (At.mk : At 7) ?_; refine m_take (At.mk : At 8) ?_; refine m_take (At.mk : At 9) ?_; refine m_take (At.mk : At 10) ?_; refine m_take (At.mk : At 11) ?_
        (apply TA.one 12; kernel_rfl; exact rfl)
        refine m_rrun ?_
        (apply TL.callV; exact rfl; exact callB_of (by kernel_rfl); exact rfl; exact fun _ h => h)
        exact less_t _ _ _
        rintro _ _ ⟨rfl, rfl⟩
        refine TL.back (by (focus ((repeat (first | assumption | exact Ent.refl _ | apply Ent.tail)); done))) ?_
        refine m_take (At.mk : At 13) ?_
        by_cases h : d[x]! < d[a]!
        · rw [if_pos (by simp [ltInt, h]; omega)] at hS
          refine TA.isT 112 rfl (decide_eq_true h) ?_
          refine TA.done (by kernel_rfl) ?_
          clear hc1 hc2
          refine m_run ?_
          exact IH (m - 1) _ _ (by omega) ⟨x + 1, by omega, by omega, by omega, hS, rfl, rfl, congrArg (Value.int .i64) (i64_succ x (by omega)), rfl, rfl⟩
        · rw [if_neg (by simp [ltInt, h])] at hS
          refine TA.isF 112 rfl (decide_eq_false h) ?_
          refine TA.done (by kernel_rfl) ?_
          clear hc1 hc2
          refine m_run ?_
          exact hk' _ _ ⟨rfl, rfl, congrArg (fun z : Nat => Value.int .i64 (z : Int)) hS, rfl, rfl⟩
      · rw [if_neg (by simp; omega)] at hS
        refine m_run ?_
        refine TK.drawS mixed rfl ?_
        refine m_take (At.mk : At 0) ?_; refine m_take (At.mk : At 1) ?_; refine m_take (At.mk : At 2) ?_
        refine TA.isF 101 rfl (decide_eq_false (by omega)) ?_
        refine m_take (At.mk : At 3) ?_; refine m_take (At.mk : At 4) ?_; refine m_take (At.mk : At 5) ?_; refine m_take (At.mk : At 6) ?_; refine m_take (At.mk : At 7) ?_; refine m_take (At.mk : At 8) ?_; refine m_take (At.mk : At 9) ?_; refine m_take (At.mk : At 10) ?_; refine m_take (At.mk : At 11) ?_; refine m_take (At.mk : At 12) ?_; refine m_take (At.mk : At 13) ?_
        refine TA.done (by kernel_rfl) ?_
        refine m_run ?_
        exact hk' _ _ ⟨rfl, rfl, congrArg (fun z : Nat => Value.int .i64 (z : Int)) hS, rfl, rfl⟩
    rintro ρ' _ ⟨e0, e1, ei, ej, rfl⟩
    refine TK.know4 e0 e1 ei ej ?_
    obtain ⟨hs1, hs2, _, hs4⟩ := scanUp_spec (fun x => ltInt x d[a]!) d j _ i rfl
    have hs2 := hs2 hij
    generalize hI : scanUp (fun x => ltInt x d[a]!) d j i = i2 at *
    (repeat (first | refine TK.seq ?_ | refine TK.skip ?_))
    apply TK.cut (fun ρ' Γ' => lk ρ' 0 = .slice (some ⟨b, 0, none⟩) n c ∧ lk ρ' 1 = .int .i64 (a : Int) ∧ lk ρ' 10 = .int .i64 (i2 : Int) ∧ lk ρ' 11 = .int .i64 ((scanDown (fun x => !ltInt x d[a]!) d (i2) (j) : Nat) : Int) ∧ Γ' = DD b c n d :: Γ)
    · intro k' hk'
      generalize hS : scanDown (fun x => !ltInt x d[a]!) d (i2) (j) = J at hk'
      refine m_run ?_
      apply TK.iter (fun m ρ' Γ' => m ≤ j ∧ (i2) ≤ m + 1 ∧ scanDown (fun x => !ltInt x d[a]!) d (i2) m = J ∧ lk ρ' 0 = .slice (some ⟨b, 0, none⟩) n c ∧ lk ρ' 1 = .int .i64 (a : Int) ∧ lk ρ' 10 = .int .i64 (i2 : Int) ∧ lk ρ' 11 = .int .i64 (m : Int) ∧ Γ' = DD b c n d :: Γ) (j)
      · exact ⟨Nat.le_refl _, by omega, hS, rfl, rfl, rfl, rfl, rfl⟩
      clear hS
      rintro x IH ρ' _ ⟨hx1, hx2, hS, e0, e1, ei, ej, rfl⟩
      refine TK.know4 e0 e1 ei ej ?_
      by_cases hx : i2 ≤ x
      · obtain ⟨w, rfl⟩ : ∃ w, x = w + 1 := ⟨x - 1, by omega⟩
        rw [Sort.scanDown] at hS
        have hc1 := cellD (b := b) (c := c) (Γ := Γ) hsz (show w + 1 < n by omega)
        have hc2 := cellD (b := b) (c := c) (Γ := Γ) hsz (show a < n by omega)
        refine m_run ?_
        refine TK.drawS mixed rfl ?_
        refine m_take (At.mk : At 0) ?_; refine m_take (At.mk : At 1) ?_; refine m_take (At.mk : At 2) ?_
        refine TA.isT 117 rfl (decide_eq_true (by omega)) ?_
        refine m_take (At.mk : At 3) ?_; refine m_take (At.mk : At 4) ?_; refine m_take (At.mk : At 5) ?_; refine m_take (At.mk : At 6) ?_; refine m_take (At.mk : At 7) ?_; refine m_take (At.mk : At 8) ?_; refine m_take (At.mk : At 9) ?_; refine m_take (At.mk : At 10) ?_; refine m_take (At.mk : At 11) ?_
        (apply TA.one 12; kernel_rfl; exact rfl)
        refine m_rrun ?_
        (apply TL.callV; exact rfl; exact callB_of (by kernel_rfl); exact rfl; exact fun _ h => h)
        exact less_t _ _ _
        rintro _ _ ⟨rfl, rfl⟩
        refine TL.back (by (focus ((repeat (first | assumption | exact Ent.refl _ | apply Ent.tail)); done))) ?_
        refine m_take (At.mk : At 13) ?_; refine m_take (At.mk : At 14) ?_
        by_cases h : d[w + 1]! < d[a]!
        · rw [if_neg (by simp [ltInt, h])] at hS
          refine TA.isF 129 rfl (not_f (decide_eq_true h)) ?_
          refine TA.done (by kernel_rfl) ?_
          clear hc1 hc2
          refine m_run ?_
          exact hk' _ _ ⟨rfl, rfl, rfl, congrArg (fun z : Nat => Value.int .i64 (z : Int)) hS, rfl⟩
        · rw [if_pos (by simp [ltInt, h]; omega)] at hS
          refine TA.isT 129 rfl (not_t (decide_eq_false h)) ?_
          refine TA.done (by kernel_rfl) ?_
          clear hc1 hc2
          refine m_run ?_
          exact IH w _ _ (by omega) ⟨by omega, by omega, hS, rfl, rfl, rfl, congrArg (Value.int .i64) (by rw [i64_in (by omega) (by omega)]; omega), rfl⟩
      · have hS : x = J := by
          rw [← hS]
          cases x with
          | zero => rw [Sort.scanDown]
          | succ w => rw [Sort.scanDown, if_neg (by simp; omega)]
        refine m_run ?_
        refine TK.drawS mixed rfl ?_
        refine m_take (At.mk : At 0) ?_; refine m_take (At.mk : At 1) ?_; refine m_take (At.mk : At 2) ?_
        refine TA.isF 117 rfl (decide_eq_false (by omega)) ?_
        refine m_take (At.mk : At 3) ?_; refine m_take (At.mk : At 4) ?_; refine m_take (At.mk : At 5) ?_; refine m_take (At.mk : At 6) ?_; refine m_take (At.mk : At 7) ?_; refine m_take (At.mk : At 8) ?_; refine m_take (At.mk : At 9) ?_; refine m_take (At.mk : At 10) ?_; refine m_take (At.mk : At 11) ?_; refine m_take (At.mk : At 12) ?_; refine m_take (At.mk : At 13) ?_; refine m_take (At.mk : At 14) ?_
        refine TA.done (by kernel_rfl) ?_
        refine m_run ?_
        exact hk' _ _ ⟨rfl, rfl, rfl, congrArg (fun z : Nat => Value.int .i64 (z : Int)) hS, rfl⟩
    rintro ρ' _ ⟨e0, e1, ei, ej, rfl⟩
    refine TK.know4 e0 e1 ei ej ?_
    obtain ⟨ht1, ht2, _, ht4⟩ := scanDown_spec (fun x => !ltInt x d[a]!) d i2 j
    have ht2 := ht2 hs2
    generalize hJ : scanDown (fun x => !ltInt x d[a]!) d i2 j = j2 at *
    by_cases hgt : i2 > j2
    · rw [if_pos hgt] at hR
      subst hR
      rw [← hX]
      refine m_run ?_
      have hcI := cellD (b := b) (c := c) (Γ := Γ) hsz (show j2 < n by omega)
      have hcK := cellD (b := b) (c := c) (Γ := Γ) hsz (show a < n by omega)
      refine TK.drawB mixed rfl 13 (DD b c n d :: Γ) (Γ) ?_
      refine m_bake (At.mk : At 0) ?_; refine m_bake (At.mk : At 1) ?_; refine m_bake (At.mk : At 2) ?_; refine m_bake (At.mk : At 3) ?_; refine m_bake (At.mk : At 4) ?_; refine m_bake (At.mk : At 5) ?_; refine m_bake (At.mk : At 6) ?_; refine m_bake (At.mk : At 7) ?_; refine m_bake (At.mk : At 8) ?_; refine m_bake (At.mk : At 9) ?_; refine m_bake (At.mk : At 10) ?_; refine m_bake (At.mk : At 11) ?_; refine m_bake (At.mk : At 12) ?_
      (apply TB.last; kernel_rfl; exact rfl)
      (apply TL.storeOwn 0 (j2); exact rfl; exact rfl; exact rfl; exact rfl; exact tb rfl; exact rfl; exact (Nat.zero_add _).symm; exact (by omega))
      refine TL.back (by (focus ((repeat (first | assumption | exact Ent.refl _ | apply Ent.tail)); done))) ?_
      refine m_take (At.mk : At 14) ?_
      (apply TA.one 15; kernel_rfl; exact rfl)
      (apply TL.storeOwn 0 (a); exact rfl; exact rfl; exact rfl; exact rfl; exact tb rfl; exact rfl; exact (Nat.zero_add _).symm; exact (by omega))
      refine TL.back (by (focus ((repeat (first | assumption | exact Ent.refl _ | apply Ent.tail)); done))) ?_
      refine TA.done (by kernel_rfl) ?_
      refine TK.imp (Δ := DD b c n (swp d (j2) (a)) :: Γ) (fun _ h => by show all (own _ _ _ _ (nums _ (swp d (j2) (a)).toList) :: _) _; rw [← swpD]; exact h) ?_
      have hsz : (swp d (j2) (a)).size = n := (size_swp _ _ _).trans hsz
      clear hcI hcK
      refine m_run ?_
      (apply TK.ret2; exact rfl; exact rfl; (exact m_val); (exact m_val))
      exact ⟨_, rfl, rfl, rfl⟩
    · rw [if_neg hgt] at hR
      have hne : i2 ≠ j2 := fun e => by
        have h1 := hs4 (by omega)
        have h2 := ht4 (by omega) (by omega)
        rw [← e] at h2
        simp only [h1] at h2
        cases h2
      refine m_run ?_
      have hcI := cellD (b := b) (c := c) (Γ := Γ) hsz (show i2 < n by omega)
      have hcK := cellD (b := b) (c := c) (Γ := Γ) hsz (show j2 < n by omega)
      refine TK.drawB mixed rfl 13 (DD b c n d :: Γ) (Γ) ?_
      refine m_bake (At.mk : At 0) ?_; refine m_bake (At.mk : At 1) ?_; refine m_bake (At.mk : At 2) ?_; refine m_bake (At.mk : At 3) ?_; refine m_bake (At.mk : At 4) ?_; refine m_bake (At.mk : At 5) ?_; refine m_bake (At.mk : At 6) ?_; refine m_bake (At.mk : At 7) ?_; refine m_bake (At.mk : At 8) ?_; refine m_bake (At.mk : At 9) ?_; refine m_bake (At.mk : At 10) ?_; refine m_bake (At.mk : At 11) ?_; refine m_bake (At.mk : At 12) ?_
      (apply TB.last; kernel_rfl; exact rfl)
      (apply TL.storeOwn 0 (i2); exact rfl; exact rfl; exact rfl; exact rfl; exact tb rfl; exact rfl; exact (Nat.zero_add _).symm; exact (by omega))
      refine TL.back (by (focus ((repeat (first | assumption | exact Ent.refl _ | apply Ent.tail)); done))) ?_
      refine m_take (At.mk : At 14) ?_
      (apply TA.one 15; kernel_rfl; exact rfl)
      (apply TL.storeOwn 0 (j2); exact rfl; exact rfl; exact rfl; exact rfl; exact tb rfl; exact rfl; exact (Nat.zero_add _).symm; exact (by omega))
      refine TL.back (by (focus ((repeat (first | assumption | exact Ent.refl _ | apply Ent.tail)); done))) ?_
      refine TA.done (by kernel_rfl) ?_
      refine TK.imp (Δ := DD b c n (swp d (i2) (j2)) :: Γ) (fun _ h => by show all (own _ _ _ _ (nums _ (swp d (i2) (j2)).toList) :: _) _; rw [← swpD]; exact h) ?_
      have hsz : (swp d (i2) (j2)).size = n := (size_swp _ _ _).trans hsz
      clear hcI hcK
      refine m_run ?_
      exact IH (m - 1) _ _ (by omega) ⟨i2 + 1, j2 - 1, _, by omega, by omega, by omega, by omega, hsz, hR, rfl, rfl, congrArg (Value.int .i64) (by rw [i64_in (by omega) (by omega)]; omega), congrArg (Value.int .i64) (by rw [i64_in (by omega) (by omega)]; omega), rfl⟩

theorem shiftDown_size : ∀ (j : Nat) (d : Array Int), (shiftDown ltInt j d).size = d.size
  | 0, d => by rw [Sort.shiftDown]
  | j + 1, d => by
    rw [Sort.shiftDown]
    split
    · rfl
    · rw [shiftDown_size j, size_swp]
theorem shiftUp_size (b j : Nat) (d : Array Int) : (shiftUp ltInt b j d).size = d.size := by
  have key : ∀ (N j : Nat) (d : Array Int), b - j ≤ N → (shiftUp ltInt b j d).size = d.size := by
    intro N
    induction N with
    | zero => intro j d h; rw [Sort.shiftUp, if_neg (by omega)]
    | succ N ih =>
      intro j d h
      rw [Sort.shiftUp]
      split
      · split
        · rfl
        · rw [ih _ _ (by omega), size_swp]
      · rfl
  exact key _ j d (Nat.le_refl _)
theorem scanSorted_le (b : Nat) (d : Array Int) : ∀ (i : Nat), i ≤ b → i ≤ scanSorted ltInt d b i ∧ scanSorted ltInt d b i ≤ b := by
  have key : ∀ (N i : Nat), b - i ≤ N → i ≤ b → i ≤ scanSorted ltInt d b i ∧ scanSorted ltInt d b i ≤ b := by
    intro N
    induction N with
    | zero => intro i h hb; rw [Sort.scanSorted, if_neg (by simp; omega)]; omega
    | succ N ih =>
      intro i h hb
      rw [Sort.scanSorted]
      split
      · rename_i hc
        simp at hc
        have := ih (i + 1) (by omega) (by omega)
        omega
      · omega
  exact fun i => key _ i (Nat.le_refl _)
set_option maxRecDepth 100000 in
set_option maxHeartbeats 4000000 in
theorem partial_t (b c n a e : Nat) (d0 : Array Int) (Γ : List HP) (hsz0 : d0.size = n) (hae : a < e) (he : e ≤ n) (hn : n ≤ 1000000000) :
    FnV Try.prog 122 [.slice (some ⟨b, 0, none⟩) n c, .int .i64 (a : Int), .int .i64 (e : Int)] (DD b c n d0 :: Γ) fun v Γ' => v = .bool (partialInsertionSort ltInt d0 a e).2 ∧ Γ' = DD b c n (partialInsertionSort ltInt d0 a e).1 :: Γ := by
  refine Fn.enter Try.func122 rfl rfl rfl fun E => ?_
  unfold partialInsertionSort
  generalize hX : partialIns ltInt a e 5 (a + 1) d0 = X
  refine m_run ?_
  apply TK.iter (fun m ρ' Γ' => ∃ (i : Nat) (d : Array Int), m ≤ 5 ∧ a + 1 ≤ i ∧ i ≤ e ∧ d.size = n ∧ partialIns ltInt a e m i d = X ∧ lk ρ' 0 = .slice (some ⟨b, 0, none⟩) n c ∧ lk ρ' 1 = .int .i64 (a : Int) ∧ lk ρ' 2 = .int .i64 (e : Int) ∧ lk ρ' 7 = .int .i64 (i : Int) ∧ lk ρ' 8 = .int .i64 ((5 - m : Nat) : Int) ∧ Γ' = DD b c n d :: Γ) 5
  · exact ⟨a + 1, d0, Nat.le_refl _, Nat.le_refl _, by omega, hsz0, hX, rfl, rfl, rfl, congrArg (Value.int .i64) (by rw [i64_in (by omega) (by omega)]; omega), rfl, rfl⟩
  clear hX
  rintro m IH ρ' _ ⟨i, d, hm, hi1, hie, hsz, hR, e0, e1, e2, e7, e8, rfl⟩
  refine TK.know5 e0 e1 e2 e7 e8 ?_
  cases m with
  | zero =>
    rw [Sort.partialIns] at hR
    rw [← hR]
    refine m_run ?_
    (apply TK.ret1; exact rfl; exact rfl; (exact m_val))
    exact ⟨_, rfl, rfl, rfl⟩
  | succ m =>
    rw [partialIns_succ] at hR
    obtain ⟨hs1, hs2⟩ := scanSorted_le e d i hie
    (repeat (first | refine TK.seq ?_ | refine TK.skip ?_))
    refine TK.region ?_
    refine m_rrun ?_
    refine TL.nil ?_
    (repeat (first | refine TK.seq ?_ | refine TK.skip ?_))
    refine TK.condT rfl (decide_eq_true (by omega)) ?_
    (repeat (first | refine TK.seq ?_ | refine TK.skip ?_))
    refine TK.block ?_
    (repeat (first | refine TK.seq ?_ | refine TK.skip ?_))
    apply TK.cut (fun ρ' Γ' => lk ρ' 0 = .slice (some ⟨b, 0, none⟩) n c ∧ lk ρ' 1 = .int .i64 (a : Int) ∧ lk ρ' 2 = .int .i64 (e : Int) ∧ lk ρ' 7 = .int .i64 ((scanSorted ltInt d e i : Nat) : Int) ∧ lk ρ' 8 = .int .i64 ((5 - (m + 1) : Nat) : Int) ∧ Γ' = DD b c n d :: Γ)
    · intro k' hk'
      generalize hS : scanSorted ltInt d e i = I at hk'
      refine m_run ?_
      apply TK.iter (fun q ρ' Γ' => ∃ (x : Nat), e - x ≤ q ∧ i ≤ x ∧ x ≤ e ∧ scanSorted ltInt d e x = I ∧ lk ρ' 0 = .slice (some ⟨b, 0, none⟩) n c ∧ lk ρ' 1 = .int .i64 (a : Int) ∧ lk ρ' 2 = .int .i64 (e : Int) ∧ lk ρ' 7 = .int .i64 (x : Int) ∧ lk ρ' 8 = .int .i64 ((5 - (m + 1) : Nat) : Int) ∧ Γ' = DD b c n d :: Γ) e
      · exact ⟨i, by omega, Nat.le_refl _, hie, hS, rfl, rfl, rfl, rfl, rfl, rfl⟩
      clear hS
      rintro q IH2 ρ2 _ ⟨x, hq, hx1, hx2, hS, f0, f1, f2, f7, f8, rfl⟩
      refine TK.know5 f0 f1 f2 f7 f8 ?_
      rw [Sort.scanSorted] at hS
      by_cases hx : x < e
      · have hc1 := cellD (b := b) (c := c) (Γ := Γ) hsz (show x < n by omega)
        have hc2 := cellD (b := b) (c := c) (Γ := Γ) hsz (show x - 1 < n by omega)
        refine m_run ?_
        refine TK.drawS mixed rfl ?_
        refine m_take (At.mk : At 0) ?_; refine m_take (At.mk : At 1) ?_; refine m_take (At.mk : At 2) ?_
        refine TA.isT 19 rfl (decide_eq_true (by omega)) ?_
        refine m_take (At.mk : At 3) ?_; refine m_take (At.mk : At 4) ?_; refine m_take (At.mk : At 5) ?_; refine m_take (At.mk : At 6) ?_; refine m_take (At.mk : At 7) ?_; refine m_take (At.mk : At 8) ?_; refine m_take (At.mk : At 9) ?_; refine m_take (At.mk : At 10) ?_
        refine TA.know (t := 27) (v := .int .i64 ((x - 1 : Nat) : Int)) (congrArg (Value.int .i64) (by rw [i64_in (by omega) (by omega)]; omega)) ?_
        refine m_take (At.mk : At 11) ?_; refine m_take (At.mk : At 12) ?_
        (apply TA.one 13; kernel_rfl; exact rfl)
        refine m_rrun ?_
        (apply TL.callV; exact rfl; exact callB_of (by kernel_rfl); exact rfl; exact fun _ h => h)
        exact less_t _ _ _
        rintro _ _ ⟨rfl, rfl⟩
        refine TL.back (by (focus ((repeat (first | assumption | exact Ent.refl _ | apply Ent.tail)); done))) ?_
        refine m_take (At.mk : At 14) ?_; refine m_take (At.mk : At 15) ?_
        by_cases h : d[x]! < d[x - 1]!
        · rw [if_neg (by simp [ltInt, h])] at hS
          refine TA.isF 32 rfl (not_f (decide_eq_true h)) ?_
          refine TA.done (by kernel_rfl) ?_
          clear hc1 hc2
          refine m_run ?_
          exact hk' _ _ ⟨rfl, rfl, rfl, congrArg (fun z : Nat => Value.int .i64 (z : Int)) hS, rfl, rfl⟩
        · rw [if_pos (by simp [ltInt, h]; omega)] at hS
          refine TA.isT 32 rfl (not_t (decide_eq_false h)) ?_
          refine TA.done (by kernel_rfl) ?_
          clear hc1 hc2
          refine m_run ?_
          exact IH2 (q - 1) _ _ (by omega) ⟨x + 1, by omega, by omega, by omega, hS, rfl, rfl, rfl, congrArg (Value.int .i64) (i64_succ x (by omega)), rfl, rfl⟩
      · rw [if_neg (by simp; omega)] at hS
        refine m_run ?_
        refine TK.drawS mixed rfl ?_
        refine m_take (At.mk : At 0) ?_; refine m_take (At.mk : At 1) ?_; refine m_take (At.mk : At 2) ?_
        refine TA.isF 19 rfl (decide_eq_false (by omega)) ?_
        refine m_take (At.mk : At 3) ?_; refine m_take (At.mk : At 4) ?_; refine m_take (At.mk : At 5) ?_; refine m_take (At.mk : At 6) ?_; refine m_take (At.mk : At 7) ?_; refine m_take (At.mk : At 8) ?_; refine m_take (At.mk : At 9) ?_; refine m_take (At.mk : At 10) ?_; refine m_take (At.mk : At 11) ?_; refine m_take (At.mk : At 12) ?_; refine m_take (At.mk : At 13) ?_; refine m_take (At.mk : At 14) ?_; refine m_take (At.mk : At 15) ?_
        refine TA.done (by kernel_rfl) ?_
        refine m_run ?_
        exact hk' _ _ ⟨rfl, rfl, rfl, congrArg (fun z : Nat => Value.int .i64 (z : Int)) hS, rfl, rfl⟩
    rintro ρ' _ ⟨e0, e1, e2, e7, e8, rfl⟩
    refine TK.know5 e0 e1 e2 e7 e8 ?_
    have hea : IntKind.i64.wrap ((e : Int) - (a : Int)) = ((e - a : Nat) : Int) := by rw [i64_in (by omega) (by omega)]; omega
    generalize scanSorted ltInt d e i = y at *
    have hya : IntKind.i64.wrap ((y : Int) - (a : Int)) = ((y - a : Nat) : Int) := by rw [i64_in (by omega) (by omega)]; omega
    have hey : IntKind.i64.wrap ((e : Int) - (y : Int)) = ((e - y : Nat) : Int) := by rw [i64_in (by omega) (by omega)]; omega
    by_cases hye : y = e
    · rw [if_pos hye] at hR
      rw [← hR]
      refine m_run ?_
      (apply TK.ret1; exact rfl; exact rfl; (exact m_val))
      exact ⟨_, rfl, rfl, rfl⟩
    rw [if_neg hye] at hR
    by_cases h50 : e - a < 50
    · rw [if_pos h50] at hR
      rw [← hR]
      refine m_run ?_
      refine TK.know (t := 41) (v := .bool true) (congrArg Value.bool (by rw [hea]; exact decide_eq_true (by omega))) ?_
      refine m_run ?_
      (apply TK.ret1; exact rfl; exact rfl; (exact m_val))
      exact ⟨_, rfl, rfl, rfl⟩
    rw [if_neg h50] at hR
    unfold fixUp fixDown at hR
    refine m_run ?_
    refine TK.know (t := 41) (v := .bool false) (congrArg Value.bool (by rw [hea]; exact decide_eq_false (by omega))) ?_
    refine m_run ?_
    have hcI := cellD (b := b) (c := c) (Γ := Γ) hsz (show y < n by omega)
    have hcK := cellD (b := b) (c := c) (Γ := Γ) hsz (show y - 1 < n by omega)
    refine TK.drawB mixed rfl 15 (DD b c n d :: Γ) (Γ) ?_
    refine m_bake (At.mk : At 0) ?_; refine m_bake (At.mk : At 1) ?_; refine m_bake (At.mk : At 2) ?_; refine m_bake (At.mk : At 3) ?_; refine m_bake (At.mk : At 4) ?_
    refine TB.know (t := 46) (v := .int .i64 ((y - 1 : Nat) : Int)) (congrArg (Value.int .i64) (by rw [i64_in (by omega) (by omega)]; omega)) ?_
    refine m_bake (At.mk : At 5) ?_; refine m_bake (At.mk : At 6) ?_; refine m_bake (At.mk : At 7) ?_
    refine TB.know (t := 49) (v := .int .i64 ((y - 1 : Nat) : Int)) (congrArg (Value.int .i64) (by rw [i64_in (by omega) (by omega)]; omega)) ?_
    refine m_bake (At.mk : At 8) ?_; refine m_bake (At.mk : At 9) ?_; refine m_bake (At.mk : At 10) ?_; refine m_bake (At.mk : At 11) ?_; refine m_bake (At.mk : At 12) ?_; refine m_bake (At.mk : At 13) ?_; refine m_bake (At.mk : At 14) ?_
    (apply TB.last; kernel_rfl; exact rfl)
    (apply TL.storeOwn 0 (y); exact rfl; exact rfl; exact rfl; exact rfl; exact tb rfl; exact rfl; exact (Nat.zero_add _).symm; exact (by omega))
    refine TL.back (by (focus ((repeat (first | assumption | exact Ent.refl _ | apply Ent.tail)); done))) ?_
    refine m_take (At.mk : At 16) ?_
    (apply TA.one 17; kernel_rfl; exact rfl)
    (apply TL.storeOwn 0 (y - 1); exact rfl; exact rfl; exact rfl; exact rfl; exact tb rfl; exact rfl; exact (Nat.zero_add _).symm; exact (by omega))
    refine TL.back (by (focus ((repeat (first | assumption | exact Ent.refl _ | apply Ent.tail)); done))) ?_
    refine TA.done (by kernel_rfl) ?_
    refine TK.imp (Δ := DD b c n (swp d (y) (y - 1)) :: Γ) (fun _ h => by show all (own _ _ _ _ (nums _ (swp d (y) (y - 1)).toList) :: _) _; rw [← swpD]; exact h) ?_
    have hsz : (swp d (y) (y - 1)).size = n := (size_swp _ _ _).trans hsz
    clear hcI hcK
    generalize swp d y (y - 1) = d at *
    (repeat (first | refine TK.seq ?_ | refine TK.skip ?_))
    refine TK.region ?_
    refine m_rrun ?_
    refine TL.nil ?_
    (repeat (first | refine TK.seq ?_ | refine TK.skip ?_))
    apply TK.cut (fun ρ' Γ' => lk ρ' 0 = .slice (some ⟨b, 0, none⟩) n c ∧ lk ρ' 1 = .int .i64 (a : Int) ∧ lk ρ' 2 = .int .i64 (e : Int) ∧ lk ρ' 7 = .int .i64 (y : Int) ∧ lk ρ' 8 = .int .i64 ((5 - (m + 1) : Nat) : Int) ∧ Γ' = DD b c n (if y - a ≥ 2 then shiftDown ltInt (y - 1) d else d) :: Γ)
    · intro k' hk'
      by_cases h2 : y - a ≥ 2
      · rw [if_pos h2] at hk'
        refine TK.know (t := 61) (v := .bool true) (congrArg Value.bool (by rw [hya]; exact decide_eq_true (by omega))) ?_
        refine m_run ?_
        generalize hS : shiftDown ltInt (y - 1) d = Y at hk'
        apply TK.iter (fun q ρ' Γ' => ∃ (d : Array Int), q + 1 ≤ y ∧ d.size = n ∧ shiftDown ltInt q d = Y ∧ lk ρ' 0 = .slice (some ⟨b, 0, none⟩) n c ∧ lk ρ' 1 = .int .i64 (a : Int) ∧ lk ρ' 2 = .int .i64 (e : Int) ∧ lk ρ' 7 = .int .i64 (y : Int) ∧ lk ρ' 8 = .int .i64 ((5 - (m + 1) : Nat) : Int) ∧ lk ρ' 9 = .int .i64 (q : Int) ∧ Γ' = DD b c n d :: Γ) (y - 1)
        · exact ⟨d, by omega, hsz, hS, rfl, rfl, rfl, rfl, rfl, congrArg (Value.int .i64) (by rw [i64_in (by omega) (by omega)]; omega), rfl⟩
        clear hS hsz hR
        rintro q IH2 ρ2 _ ⟨d, hq, hsz, hS, f0, f1, f2, f7, f8, f9, rfl⟩
        refine TK.know6 f0 f1 f2 f7 f8 f9 ?_
        cases q with
        | zero =>
          rw [Sort.shiftDown] at hS
          rw [hS]
          refine m_run ?_
          exact hk' _ _ ⟨rfl, rfl, rfl, rfl, rfl, rfl⟩
        | succ w =>
          rw [Sort.shiftDown] at hS
          have hc1 := cellD (b := b) (c := c) (Γ := Γ) hsz (show w + 1 < n by omega)
          have hc2 := cellD (b := b) (c := c) (Γ := Γ) hsz (show w < n by omega)
          refine m_run ?_
          refine TK.drawS mixed rfl ?_
          refine m_take (At.mk : At 0) ?_; refine m_take (At.mk : At 1) ?_; refine m_take (At.mk : At 2) ?_; refine m_take (At.mk : At 3) ?_; refine m_take (At.mk : At 4) ?_; refine m_take (At.mk : At 5) ?_; refine m_take (At.mk : At 6) ?_
          refine TA.know (t := 74) (v := .int .i64 ((w : Nat) : Int)) (congrArg (Value.int .i64) (by rw [i64_in (by omega) (by omega)]; omega)) ?_
          refine m_take (At.mk : At 7) ?_; refine m_take (At.mk : At 8) ?_
          (apply TA.one 9; kernel_rfl; exact rfl)
          (apply TL.callV; exact rfl; exact callB_of (by kernel_rfl); exact rfl; exact fun _ h => h)
          exact less_t _ _ _
          rintro _ _ ⟨rfl, rfl⟩
          refine TL.back (by (focus ((repeat (first | assumption | exact Ent.refl _ | apply Ent.tail)); done))) ?_
          refine m_take (At.mk : At 10) ?_
          by_cases h : d[w + 1]! < d[w]!
          · rw [if_neg (by simp [ltInt, h])] at hS
            refine TA.isF 78 rfl (not_f (decide_eq_true h)) ?_
            refine TA.done (by kernel_rfl) ?_
            clear hc1 hc2
            refine m_run ?_
            have hcI := cellD (b := b) (c := c) (Γ := Γ) hsz (show w + 1 < n by omega)
            have hcK := cellD (b := b) (c := c) (Γ := Γ) hsz (show w < n by omega)
            refine TK.drawB mixed rfl 15 (DD b c n d :: Γ) (Γ) ?_
            refine m_bake (At.mk : At 0) ?_; refine m_bake (At.mk : At 1) ?_; refine m_bake (At.mk : At 2) ?_; refine m_bake (At.mk : At 3) ?_; refine m_bake (At.mk : At 4) ?_
            refine TB.know (t := 83) (v := .int .i64 ((w : Nat) : Int)) (congrArg (Value.int .i64) (by rw [i64_in (by omega) (by omega)]; omega)) ?_
            refine m_bake (At.mk : At 5) ?_; refine m_bake (At.mk : At 6) ?_; refine m_bake (At.mk : At 7) ?_
            refine TB.know (t := 86) (v := .int .i64 ((w : Nat) : Int)) (congrArg (Value.int .i64) (by rw [i64_in (by omega) (by omega)]; omega)) ?_
            refine m_bake (At.mk : At 8) ?_; refine m_bake (At.mk : At 9) ?_; refine m_bake (At.mk : At 10) ?_; refine m_bake (At.mk : At 11) ?_; refine m_bake (At.mk : At 12) ?_; refine m_bake (At.mk : At 13) ?_; refine m_bake (At.mk : At 14) ?_
            (apply TB.last; kernel_rfl; exact rfl)
            (apply TL.storeOwn 0 (w + 1); exact rfl; exact rfl; exact rfl; exact rfl; exact tb rfl; exact rfl; exact (Nat.zero_add _).symm; exact (by omega))
            refine TL.back (by (focus ((repeat (first | assumption | exact Ent.refl _ | apply Ent.tail)); done))) ?_
            refine m_take (At.mk : At 16) ?_
            (apply TA.one 17; kernel_rfl; exact rfl)
            (apply TL.storeOwn 0 (w); exact rfl; exact rfl; exact rfl; exact rfl; exact tb rfl; exact rfl; exact (Nat.zero_add _).symm; exact (by omega))
            refine TL.back (by (focus ((repeat (first | assumption | exact Ent.refl _ | apply Ent.tail)); done))) ?_
            refine TA.done (by kernel_rfl) ?_
            refine TK.imp (Δ := DD b c n (swp d (w + 1) (w)) :: Γ) (fun _ h => by show all (own _ _ _ _ (nums _ (swp d (w + 1) (w)).toList) :: _) _; rw [← swpD]; exact h) ?_
            have hsz : (swp d (w + 1) (w)).size = n := (size_swp _ _ _).trans hsz
            clear hcI hcK
            refine m_run ?_
            exact IH2 w _ _ (by omega) ⟨_, by omega, hsz, hS, rfl, rfl, rfl, rfl, rfl, congrArg (Value.int .i64) (by rw [i64_in (by omega) (by omega)]; omega), rfl⟩
          · rw [if_pos (by simp [ltInt, h])] at hS
            refine TA.isT 78 rfl (not_t (decide_eq_false h)) ?_
            refine TA.done (by kernel_rfl) ?_
            rw [hS]
            refine m_run ?_
            exact hk' _ _ ⟨rfl, rfl, rfl, rfl, rfl, rfl⟩
      · rw [if_neg h2] at hk'
        refine TK.know (t := 61) (v := .bool false) (congrArg Value.bool (by rw [hya]; exact decide_eq_false (by omega))) ?_
        refine m_run ?_
        exact hk' _ _ ⟨rfl, rfl, rfl, rfl, rfl, rfl⟩
    rintro ρ' _ ⟨e0, e1, e2, e7, e8, rfl⟩
    refine TK.know5 e0 e1 e2 e7 e8 ?_
    have hsz : (if y - a ≥ 2 then shiftDown ltInt (y - 1) d else d).size = n := by
      split
      · rw [shiftDown_size]; exact hsz
      · exact hsz
    generalize (if y - a ≥ 2 then shiftDown ltInt (y - 1) d else d) = d at *
    (repeat (first | refine TK.seq ?_ | refine TK.skip ?_))
    refine TK.region ?_
    refine m_rrun ?_
    refine TL.nil ?_
    (repeat (first | refine TK.seq ?_ | refine TK.skip ?_))
    apply TK.cut (fun ρ' Γ' => lk ρ' 0 = .slice (some ⟨b, 0, none⟩) n c ∧ lk ρ' 1 = .int .i64 (a : Int) ∧ lk ρ' 2 = .int .i64 (e : Int) ∧ lk ρ' 7 = .int .i64 (y : Int) ∧ lk ρ' 8 = .int .i64 ((5 - (m + 1) : Nat) : Int) ∧ Γ' = DD b c n (if e - y ≥ 2 then shiftUp ltInt e (y + 1) d else d) :: Γ)
    · intro k' hk'
      by_cases h2 : e - y ≥ 2
      · rw [if_pos h2] at hk'
        refine TK.know (t := 98) (v := .bool true) (congrArg Value.bool (by rw [hey]; exact decide_eq_true (by omega))) ?_
        refine m_run ?_
        generalize hS : shiftUp ltInt e (y + 1) d = Y at hk'
        apply TK.iter (fun q ρ' Γ' => ∃ (x : Nat) (d : Array Int), e - x ≤ q ∧ y + 1 ≤ x ∧ x ≤ e ∧ d.size = n ∧ shiftUp ltInt e x d = Y ∧ lk ρ' 0 = .slice (some ⟨b, 0, none⟩) n c ∧ lk ρ' 1 = .int .i64 (a : Int) ∧ lk ρ' 2 = .int .i64 (e : Int) ∧ lk ρ' 7 = .int .i64 (y : Int) ∧ lk ρ' 8 = .int .i64 ((5 - (m + 1) : Nat) : Int) ∧ lk ρ' 10 = .int .i64 (x : Int) ∧ Γ' = DD b c n d :: Γ) e
        · exact ⟨y + 1, d, by omega, Nat.le_refl _, by omega, hsz, hS, rfl, rfl, rfl, rfl, rfl, congrArg (Value.int .i64) (i64_succ y (by omega)), rfl⟩
        clear hS hsz hR
        rintro q IH2 ρ2 _ ⟨x, d, hq, hx1, hx2, hsz, hS, f0, f1, f2, f7, f8, f10, rfl⟩
        refine TK.know6 f0 f1 f2 f7 f8 f10 ?_
        rw [Sort.shiftUp] at hS
        by_cases hx : x < e
        · rw [if_pos hx] at hS
          have hc1 := cellD (b := b) (c := c) (Γ := Γ) hsz (show x < n by omega)
          have hc2 := cellD (b := b) (c := c) (Γ := Γ) hsz (show x - 1 < n by omega)
          refine m_run ?_
          refine TK.drawS mixed rfl ?_
          refine m_take (At.mk : At 0) ?_; refine m_take (At.mk : At 1) ?_; refine m_take (At.mk : At 2) ?_; refine m_take (At.mk : At 3) ?_; refine m_take (At.mk : At 4) ?_; refine m_take (At.mk : At 5) ?_; refine m_take (At.mk : At 6) ?_
          refine TA.know (t := 112) (v := .int .i64 ((x - 1 : Nat) : Int)) (congrArg (Value.int .i64) (by rw [i64_in (by omega) (by omega)]; omega)) ?_
          refine m_take (At.mk : At 7) ?_; refine m_take (At.mk : At 8) ?_
          (apply TA.one 9; kernel_rfl; exact rfl)
          (apply TL.callV; exact rfl; exact callB_of (by kernel_rfl); exact rfl; exact fun _ h => h)
          exact less_t _ _ _
          rintro _ _ ⟨rfl, rfl⟩
          refine TL.back (by (focus ((repeat (first | assumption | exact Ent.refl _ | apply Ent.tail)); done))) ?_
          refine m_take (At.mk : At 10) ?_
          by_cases h : d[x]! < d[x - 1]!
          · rw [if_neg (by simp [ltInt, h])] at hS
            refine TA.isF 116 rfl (not_f (decide_eq_true h)) ?_
            refine TA.done (by kernel_rfl) ?_
            clear hc1 hc2
            refine m_run ?_
            have hcI := cellD (b := b) (c := c) (Γ := Γ) hsz (show x < n by omega)
            have hcK := cellD (b := b) (c := c) (Γ := Γ) hsz (show x - 1 < n by omega)
            refine TK.drawB mixed rfl 15 (DD b c n d :: Γ) (Γ) ?_
            refine m_bake (At.mk : At 0) ?_; refine m_bake (At.mk : At 1) ?_; refine m_bake (At.mk : At 2) ?_; refine m_bake (At.mk : At 3) ?_; refine m_bake (At.mk : At 4) ?_
            refine TB.know (t := 121) (v := .int .i64 ((x - 1 : Nat) : Int)) (congrArg (Value.int .i64) (by rw [i64_in (by omega) (by omega)]; omega)) ?_
            refine m_bake (At.mk : At 5) ?_; refine m_bake (At.mk : At 6) ?_; refine m_bake (At.mk : At 7) ?_
            refine TB.know (t := 124) (v := .int .i64 ((x - 1 : Nat) : Int)) (congrArg (Value.int .i64) (by rw [i64_in (by omega) (by omega)]; omega)) ?_
            refine m_bake (At.mk : At 8) ?_; refine m_bake (At.mk : At 9) ?_; refine m_bake (At.mk : At 10) ?_; refine m_bake (At.mk : At 11) ?_; refine m_bake (At.mk : At 12) ?_; refine m_bake (At.mk : At 13) ?_; refine m_bake (At.mk : At 14) ?_
            (apply TB.last; kernel_rfl; exact rfl)
            (apply TL.storeOwn 0 (x); exact rfl; exact rfl; exact rfl; exact rfl; exact tb rfl; exact rfl; exact (Nat.zero_add _).symm; exact (by omega))
            refine TL.back (by (focus ((repeat (first | assumption | exact Ent.refl _ | apply Ent.tail)); done))) ?_
            refine m_take (At.mk : At 16) ?_
            (apply TA.one 17; kernel_rfl; exact rfl)
            (apply TL.storeOwn 0 (x - 1); exact rfl; exact rfl; exact rfl; exact rfl; exact tb rfl; exact rfl; exact (Nat.zero_add _).symm; exact (by omega))
            refine TL.back (by (focus ((repeat (first | assumption | exact Ent.refl _ | apply Ent.tail)); done))) ?_
            refine TA.done (by kernel_rfl) ?_
            refine TK.imp (Δ := DD b c n (swp d (x) (x - 1)) :: Γ) (fun _ h => by show all (own _ _ _ _ (nums _ (swp d (x) (x - 1)).toList) :: _) _; rw [← swpD]; exact h) ?_
            have hsz : (swp d (x) (x - 1)).size = n := (size_swp _ _ _).trans hsz
            clear hcI hcK
            refine m_run ?_
            exact IH2 (q - 1) _ _ (by omega) ⟨x + 1, _, by omega, by omega, by omega, hsz, hS, rfl, rfl, rfl, rfl, rfl, congrArg (Value.int .i64) (i64_succ x (by omega)), rfl⟩
          · rw [if_pos (by simp [ltInt, h])] at hS
            refine TA.isT 116 rfl (not_t (decide_eq_false h)) ?_
            refine TA.done (by kernel_rfl) ?_
            rw [hS]
            refine m_run ?_
            exact hk' _ _ ⟨rfl, rfl, rfl, rfl, rfl, rfl⟩
        · rw [if_neg hx] at hS
          rw [hS]
          refine m_run ?_
          exact hk' _ _ ⟨rfl, rfl, rfl, rfl, rfl, rfl⟩
      · rw [if_neg h2] at hk'
        refine TK.know (t := 98) (v := .bool false) (congrArg Value.bool (by rw [hey]; exact decide_eq_false (by omega))) ?_
        refine m_run ?_
        exact hk' _ _ ⟨rfl, rfl, rfl, rfl, rfl, rfl⟩
    rintro ρ' _ ⟨e0, e1, e2, e7, e8, rfl⟩
    refine TK.know5 e0 e1 e2 e7 e8 ?_
    have hsz : (if e - y ≥ 2 then shiftUp ltInt e (y + 1) d else d).size = n := by
      split
      · rw [shiftUp_size]; exact hsz
      · exact hsz
    refine m_run ?_
    exact IH m _ _ (by omega) ⟨y, _, by omega, by omega, by omega, hsz, hR, rfl, rfl, rfl, rfl, congrArg (Value.int .i64) (by rw [i64_in (by omega) (by omega)]; omega), rfl⟩

def okTab (a : ByteArray) : Bool := Nat.beq a.size 256 && (List.range 256).all fun i => Nat.ble (a.get! i).toNat 8 && (Nat.beq i 0 || Nat.ble (2 ^ (a.get! i).toNat) (2 * i))
theorem okTab_spec {a : ByteArray} (h : okTab a = true) {i : Nat} (hi : i < 256) (hs : i < a.size) : (a[i]'hs).toNat ≤ 8 ∧ (0 < i → 2 ^ (a[i]'hs).toNat ≤ 2 * i) := by
  unfold okTab at h
  rw [Bool.and_eq_true] at h
  have h1 := List.all_eq_true.1 h.2 i (List.mem_range.2 hi)
  have e : a.get! i = a[i]'hs := by
    rw [ByteArray.getElem_eq_getElem_data]
    show a.data[i]! = _
    exact getElem!_pos a.data i hs
  rw [e, Bool.and_eq_true, Bool.or_eq_true] at h1
  refine ⟨Nat.le_of_ble_eq_true h1.1, fun h0 => ?_⟩
  rcases h1.2 with h2 | h2
  · have := Nat.eq_of_beq_eq_true h2; omega
  · exact Nat.le_of_ble_eq_true h2
theorem TL.indexTab {cx : Cx} {ops : Array Oper} {K : Act → World → Prop} {rest : List Oper} {ρ : Env} {ds : List Deferred} {Γ : List HP} {d : Nat} {ty t : TypeId} {pos : String} {after : Array Edge} {x y : Operand} {a : ByteArray} {q : IntKind} {i : Nat} {r : TR} (hd : Nat.blt d cx.n = true) (ea : ev ρ x = .string a) (eb : ev ρ y = .int q i) (ht : TabOk cx.P t r) (hq : r.und = .string) (hok : okTab a = true) (hi : i < 256)
    (h : ∀ u : Nat, u ≤ 8 → (0 < i → 2 ^ u ≤ 2 * i) → TL cx ops K rest ((d, .int .u8 (u : Int)) :: ρ) ds Γ) : TL cx ops K (⟨some d, .index t x y, ty, pos, after, none⟩ :: rest) ρ ds Γ := by
  have hs : i < a.size := by
    unfold okTab at hok
    rw [Bool.and_eq_true] at hok
    rw [Nat.eq_of_beq_eq_true hok.1]; exact hi
  obtain ⟨h1, h2⟩ := okTab_spec hok hi hs
  exact TL.pv hd (PV.indexStr ea eb ht hq hs) (h _ h1 h2)
theorem bxor_nat (a b : Int) : ∃ y : Nat, bitsOf .xor .u64 a b = (y : Int) ∧ y < 18446744073709551616 := by
  refine ⟨(BitVec.ofInt 64 a ^^^ BitVec.ofInt 64 b).toNat % 2 ^ 64, ?_, Nat.mod_lt _ (by decide)⟩
  show IntKind.u64.wrap _ = _
  exact wrap_nat rfl _
set_option maxRecDepth 100000 in
set_option maxHeartbeats 4000000 in
theorem len64_t (n : Nat) (hn : n ≤ 1000000000) (Γ : List HP) : FnV Try.prog 107 [.int .u64 (n : Int)] Γ fun v Γ' => ∃ L : Nat, L ≤ 32 ∧ (0 < n → 2 ^ L ≤ 2 * n) ∧ v = .int .i64 (L : Int) ∧ Γ' = Γ := by
  refine Fn.enter Try.func107 rfl rfl rfl fun E => ?_
  by_cases h16 : 65536 ≤ n
  · have h17 : 256 ≤ n / 2 ^ 16 ∨ ¬ 256 ≤ n / 2 ^ 16 := Decidable.em _
    rcases h17 with h8 | h8
    · have hm : n / 2 ^ 16 / 2 ^ 8 < 256 := by omega
      have hm0 : 0 < n / 2 ^ 16 / 2 ^ 8 := by omega
      have hd : n / 2 ^ 16 / 2 ^ 8 * 16777216 ≤ n := by omega
      refine m_run ?_
      generalize n / 2 ^ 16 / 2 ^ 8 = m at *
      refine TL.know (t := 21) (v := .int .u8 ((m : Nat) : Int)) (congrArg (Value.int .u8) (u8_in (by omega) (by omega))) ?_
      (apply TL.indexTab (i := m); exact rfl; exact rfl; exact rfl; exact tb rfl; exact rfl; kernel_rfl; exact (by omega))
      intro u hu hu2
      refine m_run ?_
      refine TK.know (t := 2) (v := .int .i64 ((24 + u : Nat) : Int)) (congrArg (Value.int .i64) (by rw [i64_in (x := (0 : Int) + 16) (by decide) (by decide), i64_in (x := (0 : Int) + 16 + 8) (by decide) (by decide), i64_in (x := (u : Int)) (by omega) (by omega), i64_in (by omega) (by omega)]; omega)) ?_
      (apply TK.ret1; exact rfl; exact rfl; (exact m_val))
      exact ⟨_, rfl, _, by omega, fun h0 => by have := hu2 (by omega); rw [Nat.pow_add]; show 16777216 * 2 ^ u ≤ _; generalize 2 ^ u = w at *; omega, rfl, rfl⟩
    · have hm : n / 2 ^ 16 < 256 := by omega
      have hm0 : 0 < n / 2 ^ 16 := by omega
      have hd : n / 2 ^ 16 * 65536 ≤ n := by omega
      refine m_run ?_
      generalize n / 2 ^ 16 = m at *
      refine TL.know (t := 21) (v := .int .u8 ((m : Nat) : Int)) (congrArg (Value.int .u8) (u8_in (by omega) (by omega))) ?_
      (apply TL.indexTab (i := m); exact rfl; exact rfl; exact rfl; exact tb rfl; exact rfl; kernel_rfl; exact (by omega))
      intro u hu hu2
      refine m_run ?_
      refine TK.know (t := 2) (v := .int .i64 ((16 + u : Nat) : Int)) (congrArg (Value.int .i64) (by rw [i64_in (x := (0 : Int) + 16) (by decide) (by decide), i64_in (x := (u : Int)) (by omega) (by omega), i64_in (by omega) (by omega)]; omega)) ?_
      (apply TK.ret1; exact rfl; exact rfl; (exact m_val))
      exact ⟨_, rfl, _, by omega, fun h0 => by have := hu2 (by omega); rw [Nat.pow_add]; show 65536 * 2 ^ u ≤ _; generalize 2 ^ u = w at *; omega, rfl, rfl⟩
  · by_cases h8 : 256 ≤ n
    · have hm : n / 2 ^ 8 < 256 := by omega
      have hm0 : 0 < n / 2 ^ 8 := by omega
      have hd : n / 2 ^ 8 * 256 ≤ n := by omega
      refine m_run ?_
      generalize n / 2 ^ 8 = m at *
      refine TL.know (t := 21) (v := .int .u8 ((m : Nat) : Int)) (congrArg (Value.int .u8) (u8_in (by omega) (by omega))) ?_
      (apply TL.indexTab (i := m); exact rfl; exact rfl; exact rfl; exact tb rfl; exact rfl; kernel_rfl; exact (by omega))
      intro u hu hu2
      refine m_run ?_
      refine TK.know (t := 2) (v := .int .i64 ((8 + u : Nat) : Int)) (congrArg (Value.int .i64) (by rw [i64_in (x := (0 : Int) + 8) (by decide) (by decide), i64_in (x := (u : Int)) (by omega) (by omega), i64_in (by omega) (by omega)]; omega)) ?_
      (apply TK.ret1; exact rfl; exact rfl; (exact m_val))
      exact ⟨_, rfl, _, by omega, fun h0 => by have := hu2 (by omega); rw [Nat.pow_add]; show 256 * 2 ^ u ≤ _; generalize 2 ^ u = w at *; omega, rfl, rfl⟩
    · refine m_run ?_
      refine TL.know (t := 21) (v := .int .u8 ((n : Nat) : Int)) (congrArg (Value.int .u8) (u8_in (by omega) (by omega))) ?_
      (apply TL.indexTab (i := n); exact rfl; exact rfl; exact rfl; exact tb rfl; exact rfl; kernel_rfl; exact (by omega))
      intro u hu hu2
      refine m_run ?_
      refine TK.know (t := 2) (v := .int .i64 ((0 + u : Nat) : Int)) (congrArg (Value.int .i64) (by rw [i64_in (x := (u : Int)) (by omega) (by omega), i64_in (by omega) (by omega)]; omega)) ?_
      (apply TK.ret1; exact rfl; exact rfl; (exact m_val))
      exact ⟨_, rfl, _, by omega, fun h0 => by rw [Nat.zero_add]; exact hu2 h0, rfl, rfl⟩
set_option maxRecDepth 100000 in
set_option maxHeartbeats 4000000 in
theorem len_t (n : Nat) (hn : n ≤ 1000000000) (Γ : List HP) : FnV Try.prog 91 [.int .u64 (n : Int)] Γ fun v Γ' => ∃ L : Nat, L ≤ 32 ∧ (0 < n → 2 ^ L ≤ 2 * n) ∧ v = .int .i64 (L : Int) ∧ Γ' = Γ := by
  refine Fn.enter Try.func91 rfl rfl rfl fun E => ?_
  refine m_run ?_
  (apply TL.callV; exact rfl; exact callB_of (by kernel_rfl); exact rfl; exact fun _ h => h)
  exact len64_t n hn Γ
  rintro _ Γ ⟨L, h1, h2, rfl, rfl⟩
  refine m_run ?_
  (apply TK.ret1; exact rfl; exact rfl; (exact m_val))
  exact ⟨_, rfl, L, h1, h2, rfl, rfl⟩
set_option maxRecDepth 100000 in
set_option maxHeartbeats 4000000 in
theorem npow_t (n : Nat) (h0 : 0 < n) (hn : n ≤ 1000000000) (Γ : List HP) : FnV Try.prog 112 [.int .i64 (n : Int)] Γ fun v Γ' => ∃ M : Nat, 1 ≤ M ∧ M ≤ 2 * n ∧ v = .int .u64 (M : Int) ∧ Γ' = Γ := by
  refine Fn.enter Try.func112 rfl rfl rfl fun E => ?_
  refine m_run ?_
  refine TL.know (t := 4) (v := .int .u64 (n : Int)) (congrArg (Value.int .u64) (u64_nat (by omega))) ?_
  (apply TL.callV; exact rfl; exact callB_of (by kernel_rfl); exact rfl; exact fun _ h => h)
  exact len_t n hn Γ
  rintro _ Γ ⟨L, h1, h2, rfl, rfl⟩
  have h2 := h2 h0
  have h3 := Nat.two_pow_pos L
  have hw : IntKind.u64.wrap (1 * 2 ^ (min ((L : Int)).toNat IntKind.u64.bits)) = ((2 ^ L : Nat) : Int) := by
    rw [Int.toNat_natCast, Nat.min_eq_left (by show L ≤ 64; omega), Int.one_mul, show (2 : Int) ^ L = ((2 ^ L : Nat) : Int) by simp, u64_nat (by omega)]
  (apply TL.pv; exact rfl; (apply PV.shl; exact rfl; exact rfl; exact (by omega)))
  rw [hw]
  generalize 2 ^ L = M at *
  refine m_run ?_
  (apply TK.ret1; exact rfl; exact rfl; (exact m_val))
  exact ⟨_, rfl, M, h3, h2, rfl, rfl⟩
set_option maxRecDepth 100000 in
set_option maxHeartbeats 4000000 in
theorem next_t (s x : Nat) (Γ : List HP) : FnV Try.prog 113 [.pointer (some ⟨s, 0, none⟩)] (row s [.int .u64 (x : Int)] 160 :: Γ) fun v Γ' => ∃ y : Nat, y < 18446744073709551616 ∧ v = .int .u64 (y : Int) ∧ Γ' = row s [.int .u64 (y : Int)] 160 :: Γ := by
  refine Fn.enter Try.func113 rfl rfl rfl fun E => ?_
  refine m_run ?_
  refine TK.drawB mixed rfl 9 (row s [.int .u64 (x : Int)] 160 :: Γ) Γ ?_
  refine m_bake (At.mk : At 0) ?_; refine m_bake (At.mk : At 1) ?_; refine m_bake (At.mk : At 2) ?_; refine m_bake (At.mk : At 3) ?_; refine m_bake (At.mk : At 4) ?_; refine m_bake (At.mk : At 5) ?_
  (apply TB.takeA (At.mk : At 6); exact rfl; exact rfl; kernel_rfl; exact rfl; ((focus ((repeat (first | assumption | exact Ent.refl _ | apply Ent.tail)); done))); (apply PV.shl; exact rfl; exact rfl; exact (by decide)))
  refine m_bake (At.mk : At 7) ?_; refine m_bake (At.mk : At 8) ?_
  (apply TB.last; kernel_rfl; exact rfl)
  refine m_rrun ?_
  refine TL.back (by (focus ((repeat (first | assumption | exact Ent.refl _ | apply Ent.tail)); done))) ?_
  refine TA.done (by kernel_rfl) ?_
  generalize bitsOf .xor .u64 _ _ = x1
  refine m_run ?_
  refine TK.drawB mixed rfl 9 (row s [.int .u64 x1] 160 :: Γ) Γ ?_
  refine m_bake (At.mk : At 0) ?_; refine m_bake (At.mk : At 1) ?_; refine m_bake (At.mk : At 2) ?_; refine m_bake (At.mk : At 3) ?_; refine m_bake (At.mk : At 4) ?_; refine m_bake (At.mk : At 5) ?_
  (apply TB.takeA (At.mk : At 6); exact rfl; exact rfl; kernel_rfl; exact rfl; ((focus ((repeat (first | assumption | exact Ent.refl _ | apply Ent.tail)); done))); (apply PV.shr; exact rfl; exact rfl; exact (by decide)))
  refine m_bake (At.mk : At 7) ?_; refine m_bake (At.mk : At 8) ?_
  (apply TB.last; kernel_rfl; exact rfl)
  refine m_rrun ?_
  refine TL.back (by (focus ((repeat (first | assumption | exact Ent.refl _ | apply Ent.tail)); done))) ?_
  refine TA.done (by kernel_rfl) ?_
  generalize bitsOf .xor .u64 _ _ = x2
  refine m_run ?_
  refine TK.drawB mixed rfl 9 (row s [.int .u64 x2] 160 :: Γ) Γ ?_
  refine m_bake (At.mk : At 0) ?_; refine m_bake (At.mk : At 1) ?_; refine m_bake (At.mk : At 2) ?_; refine m_bake (At.mk : At 3) ?_; refine m_bake (At.mk : At 4) ?_; refine m_bake (At.mk : At 5) ?_
  (apply TB.takeA (At.mk : At 6); exact rfl; exact rfl; kernel_rfl; exact rfl; ((focus ((repeat (first | assumption | exact Ent.refl _ | apply Ent.tail)); done))); (apply PV.shl; exact rfl; exact rfl; exact (by decide)))
  refine m_bake (At.mk : At 7) ?_
  obtain ⟨y, hy, hy2⟩ := bxor_nat x2 (IntKind.u64.wrap (x2 * 2 ^ min (Int.toNat 17) IntKind.u64.bits))
  refine TB.know (t := 28) (v := .int .u64 (y : Int)) (congrArg (Value.int .u64) hy) ?_
  refine m_bake (At.mk : At 8) ?_
  (apply TB.last; kernel_rfl; exact rfl)
  refine m_rrun ?_
  refine TL.back (by (focus ((repeat (first | assumption | exact Ent.refl _ | apply Ent.tail)); done))) ?_
  refine TA.done (by kernel_rfl) ?_
  refine m_run ?_
  (apply TK.ret1; exact rfl; exact rfl; (exact m_val))
  exact ⟨_, rfl, y, hy2, rfl, rfl⟩
set_option maxRecDepth 100000 in
set_option maxHeartbeats 4000000 in
theorem brk_t (b c n a e : Nat) (d0 : Array Int) (Γ : List HP) (hsz0 : d0.size = n) (hae : a + 12 < e) (he : e ≤ n) (hn : n ≤ 1000000000) :
    FnV Try.prog 119 [.slice (some ⟨b, 0, none⟩) n c, .int .i64 (a : Int), .int .i64 (e : Int)] (DD b c n d0 :: Γ) fun v Γ' => v = .tuple #[] ∧ ∃ d, PermIn a e d0 d ∧ Γ' = DD b c n d :: Γ := by
  refine Fn.enter Try.func119 rfl rfl rfl fun E => ?_
  have hq1 : (e - a) / 4 * 4 ≤ e - a := Nat.div_mul_le_self _ _
  have hq3 : 3 ≤ (e - a) / 4 := by omega
  have hqt : IntKind.i64.wrap (((e - a : Nat) : Int).tdiv 4) = (((e - a) / 4 : Nat) : Int) := by
    rw [show ((e - a : Nat) : Int).tdiv 4 = (((e - a) / 4 : Nat) : Int) from rfl, i64_in (by omega) (by omega)]
  generalize (e - a) / 4 = q at *
  have hea : IntKind.i64.wrap ((e : Int) - (a : Int)) = ((e - a : Nat) : Int) := by rw [i64_in (by omega) (by omega)]; omega
  refine m_run ?_
  refine TL.know (t := 17) (v := .int .u64 ((e - a : Nat) : Int)) (congrArg (Value.int .u64) (by rw [hea]; exact u64_nat (by omega))) ?_
  refine TL.know (t := 6) (v := .int .i64 ((e - a : Nat) : Int)) (congrArg (Value.int .i64) hea) ?_
  obtain ⟨L, hL⟩ : ∃ L, e - a = L := ⟨_, rfl⟩
  rw [hL] at hqt hq1 ⊢
  (apply TL.alloc; exact rfl; exact tb rfl; (exact m_lst))
  intro s
  refine m_run ?_
  refine TL.imp (Δ := row s [.int .u64 (L : Int)] 160 :: DD b c n d0 :: Γ) (fun _ h => h) ?_
  (apply TL.callV; exact rfl; exact callB_of (by kernel_rfl); exact rfl; exact fun _ h => h)
  exact npow_t L (by omega) (by omega) _
  rintro _ _ ⟨M, hM1, hM2, rfl, rfl⟩
  refine m_run ?_
  refine TK.know (t := 9) (v := .int .i64 ((a + q * 2 - 1 : Nat) : Int)) (congrArg (Value.int .i64) (by rw [hqt, i64_in (x := (q : Int) * 2) (by omega) (by omega), i64_in (x := (a : Int) + (q : Int) * 2) (by omega) (by omega), i64_in (by omega) (by omega)]; omega)) ?_
  apply TK.iter (fun m ρ' Γ' => ∃ (x y : Nat) (d : Array Int), x + m = a + q * 2 + 3 ∧ a + q * 2 ≤ x + 1 ∧ y < 18446744073709551616 ∧ PermIn a e d0 d ∧ lk ρ' 0 = .slice (some ⟨b, 0, none⟩) n c ∧ lk ρ' 1 = .int .i64 (a : Int) ∧ lk ρ' 6 = .int .i64 (L : Int) ∧ lk ρ' 7 = .pointer (some ⟨s, 0, none⟩) ∧ lk ρ' 8 = .int .u64 (M : Int) ∧ lk ρ' 9 = .int .i64 (x : Int) ∧ Γ' = row s [.int .u64 (y : Int)] 160 :: DD b c n d :: Γ) 4
  · exact ⟨a + q * 2 - 1, L, d0, by omega, by omega, by omega, permIn_refl _ _ _, rfl, rfl, rfl, rfl, rfl, rfl, rfl⟩
  rintro m IH ρ' _ ⟨x, y, d, hm, hx, hy, hP, e0, e1, e6, e7, e8, e9, rfl⟩
  refine TK.know6 e0 e1 e6 e7 e8 e9 ?_
  have hsz : d.size = n := hP.1.trans hsz0
  have hw : IntKind.i64.wrap (IntKind.i64.wrap ((a : Int) + IntKind.i64.wrap (IntKind.i64.wrap ((L : Int).tdiv 4) * 2)) + 1) = ((a + q * 2 + 1 : Nat) : Int) := by
    rw [hqt, i64_in (x := (q : Int) * 2) (by omega) (by omega), i64_in (x := (a : Int) + (q : Int) * 2) (by omega) (by omega), i64_in (by omega) (by omega)]; omega
  by_cases hx2 : x ≤ a + q * 2 + 1
  · refine m_run ?_
    (apply TL.callV; exact rfl; exact callB_of (by kernel_rfl); exact rfl; exact fun _ h => h)
    exact next_t s y _
    rintro _ _ ⟨z, hz, rfl, rfl⟩
    have hand : bitsOf .and .u64 (z : Int) ((M - 1 : Nat) : Int) = ((z &&& (M - 1) : Nat) : Int) := bits_and rfl hz (show M - 1 < 18446744073709551616 by omega)
    have hle : z &&& (M - 1) ≤ M - 1 := Nat.and_le_right
    have hM' : IntKind.u64.wrap ((M : Int) - 1) = ((M - 1 : Nat) : Int) := by rw [u64_in (by omega) (by omega)]; omega
    refine m_rrun ?_
    refine TL.know (t := 10) (v := .int .i64 ((z &&& (M - 1) : Nat) : Int)) (congrArg (Value.int .i64) (by rw [hM', hand]; exact i64_nat (by omega))) ?_
    generalize z &&& (M - 1) = o at *
    refine TL.nil ?_
    (repeat (first | refine TK.seq ?_ | refine TK.skip ?_))
    refine TK.region ?_
    refine m_rrun ?_
    refine TL.nil ?_
    (repeat (first | refine TK.seq ?_ | refine TK.skip ?_))
    apply TK.cut (fun ρ' Γ' => ∃ p : Nat, p < L ∧ lk ρ' 0 = .slice (some ⟨b, 0, none⟩) n c ∧ lk ρ' 1 = .int .i64 (a : Int) ∧ lk ρ' 6 = .int .i64 (L : Int) ∧ lk ρ' 7 = .pointer (some ⟨s, 0, none⟩) ∧ lk ρ' 8 = .int .u64 (M : Int) ∧ lk ρ' 9 = .int .i64 (x : Int) ∧ lk ρ' 10 = .int .i64 (p : Int) ∧ Γ' = row s [.int .u64 (z : Int)] 160 :: DD b c n d :: Γ)
    · intro k' hk'
      by_cases ho : L ≤ o
      · refine m_run ?_
        exact hk' _ _ ⟨o - L, by omega, rfl, rfl, rfl, rfl, rfl, rfl, congrArg (Value.int .i64) (by rw [i64_in (by omega) (by omega)]; omega), rfl⟩
      · refine m_run ?_
        exact hk' _ _ ⟨o, by omega, rfl, rfl, rfl, rfl, rfl, rfl, rfl, rfl⟩
    rintro ρ' _ ⟨p, hp, e0, e1, e6, e7, e8, e9, e10, rfl⟩
    refine TK.know7 e0 e1 e6 e7 e8 e9 e10 ?_
    refine TK.perm (List.Perm.swap _ _ _) ?_
    refine m_run ?_
    have hcI := cellD (b := b) (c := c) (Γ := row s [.int .u64 (z : Int)] 160 :: Γ) hsz (show x < n by omega)
    have hcK := cellD (b := b) (c := c) (Γ := row s [.int .u64 (z : Int)] 160 :: Γ) hsz (show a + p < n by omega)
    refine TK.drawB mixed rfl 17 (DD b c n d :: row s [.int .u64 (z : Int)] 160 :: Γ) (row s [.int .u64 (z : Int)] 160 :: Γ) ?_
    refine m_bake (At.mk : At 0) ?_; refine m_bake (At.mk : At 1) ?_; refine m_bake (At.mk : At 2) ?_; refine m_bake (At.mk : At 3) ?_; refine m_bake (At.mk : At 4) ?_; refine m_bake (At.mk : At 5) ?_
    refine TB.know (t := 52) (v := .int .i64 ((a + p : Nat) : Int)) (congrArg (Value.int .i64) (by rw [i64_in (by omega) (by omega)]; omega)) ?_
    refine m_bake (At.mk : At 6) ?_; refine m_bake (At.mk : At 7) ?_; refine m_bake (At.mk : At 8) ?_; refine m_bake (At.mk : At 9) ?_
    refine TB.know (t := 56) (v := .int .i64 ((a + p : Nat) : Int)) (congrArg (Value.int .i64) (by rw [i64_in (by omega) (by omega)]; omega)) ?_
    refine m_bake (At.mk : At 10) ?_; refine m_bake (At.mk : At 11) ?_; refine m_bake (At.mk : At 12) ?_; refine m_bake (At.mk : At 13) ?_; refine m_bake (At.mk : At 14) ?_; refine m_bake (At.mk : At 15) ?_; refine m_bake (At.mk : At 16) ?_
    (apply TB.last; kernel_rfl; exact rfl)
    (apply TL.storeOwn 0 (x); exact rfl; exact rfl; exact rfl; exact rfl; exact tb rfl; exact rfl; exact (Nat.zero_add _).symm; exact (by omega))
    refine TL.back (by (focus ((repeat (first | assumption | exact Ent.refl _ | apply Ent.tail)); done))) ?_
    refine m_take (At.mk : At 18) ?_
    (apply TA.one 19; kernel_rfl; exact rfl)
    (apply TL.storeOwn 0 (a + p); exact rfl; exact rfl; exact rfl; exact rfl; exact tb rfl; exact rfl; exact (Nat.zero_add _).symm; exact (by omega))
    refine TL.back (by (focus ((repeat (first | assumption | exact Ent.refl _ | apply Ent.tail)); done))) ?_
    refine TA.done (by kernel_rfl) ?_
    refine TK.imp (Δ := DD b c n (swp d (x) (a + p)) :: row s [.int .u64 (z : Int)] 160 :: Γ) (fun _ h => by show all (own _ _ _ _ (nums _ (swp d (x) (a + p)).toList) :: _) _; rw [← swpD]; exact h) ?_
    have hsz : (swp d (x) (a + p)).size = n := (size_swp _ _ _).trans hsz
    clear hcI hcK
    refine TK.perm (List.Perm.swap _ _ _) ?_
    refine m_run ?_
    exact IH (m - 1) _ _ (by omega) ⟨x + 1, z, _, by omega, by omega, hz, permIn_trans _ _ _ _ _ hP (swp_permIn _ _ _ _ _ (by omega) (by omega) (by omega) (by omega) (by rw [hP.1]; omega)), rfl, rfl, rfl, rfl, rfl, congrArg (Value.int .i64) (i64_succ x (by omega)), rfl⟩
  · refine m_run ?_
    refine TK.sub (Δ := DD b c n d :: Γ) (by (repeat (first | exact List.Sublist.refl _ | apply List.Sublist.cons_cons | apply List.Sublist.cons))) ?_
    exact TK.over0 rfl rfl ⟨_, rfl, rfl, d, hP, rfl⟩

set_option maxRecDepth 100000 in
set_option maxHeartbeats 4000000 in
theorem pdq_t (b c n : Nat) (Γ : List HP) (hn : n ≤ 1000000000) : ∀ (N a e : Nat) (z : Int) (d : Array Int), e - a = N → d.size = n → a ≤ e → e ≤ n → Below ltInt a e d →
    FnV Try.prog 109 [.slice (some ⟨b, 0, none⟩) n c, .int .i64 (a : Int), .int .i64 (e : Int), .int .i64 z] (DD b c n d :: Γ) fun v Γ' => v = .tuple #[] ∧ ∃ d', PermIn a e d d' ∧ SortedIn ltInt a e d' ∧ Γ' = DD b c n d' :: Γ := by
  intro N
  induction N using Nat.strongRecOn with
  | _ N IHN =>
  intro a0 e0 z0 d0 hN hsz0 hae0 he0 hB0
  refine Fn.enter Try.func109 rfl rfl rfl fun E => ?_
  refine m_run ?_
  apply TK.iter (fun m ρ' Γ' => ∃ (a e : Nat) (z : Int) (d : Array Int) (wb wp : Bool), e - a ≤ m ∧ a0 ≤ a ∧ a ≤ e ∧ e ≤ e0 ∧ d.size = n ∧ Below ltInt a e d ∧ (∀ R, PermIn a e d R → SortedIn ltInt a e R → PermIn a0 e0 d0 R ∧ SortedIn ltInt a0 e0 R) ∧ lk ρ' 0 = .slice (some ⟨b, 0, none⟩) n c ∧ lk ρ' 1 = .int .i64 (a : Int) ∧ lk ρ' 2 = .int .i64 (e : Int) ∧ lk ρ' 3 = .int .i64 z ∧ lk ρ' 8 = .bool wb ∧ lk ρ' 9 = .bool wp ∧ Γ' = DD b c n d :: Γ) (e0 - a0)
  · exact ⟨a0, e0, z0, d0, true, true, Nat.le_refl _, Nat.le_refl _, hae0, Nat.le_refl _, hsz0, hB0, fun R h1 h2 => ⟨h1, h2⟩, rfl, rfl, rfl, rfl, rfl, rfl, rfl⟩
  rintro m IH ρ' _ ⟨a, e, z, d, wb, wp, hm, ha0, hae, hee, hsz, hB, hfin, e0_, e1, e2, e3, e8, e9, rfl⟩
  refine TK.know6 e0_ e1 e2 e3 e8 e9 ?_
  have hea : IntKind.i64.wrap ((e : Int) - (a : Int)) = ((e - a : Nat) : Int) := by rw [i64_in (by omega) (by omega)]; omega
  by_cases h12 : e - a ≤ 12
  · refine m_run ?_
    (apply TL.callV; exact rfl; exact callB_of (by kernel_rfl); exact rfl; exact fun _ h => h)
    exact ins_t b c n a e d Γ hsz (by omega) (by omega) hn
    rintro _ _ ⟨rfl, rfl⟩
    obtain ⟨q1, q2⟩ := insertionSort_holds swo_ltInt d a e hae (by omega)
    obtain ⟨r1, r2⟩ := hfin _ q1 q2
    refine m_run ?_
    (apply TK.ret0; exact rfl; exact rfl)
    exact ⟨_, rfl, rfl, _, r1, r2, rfl⟩
  by_cases hz : z = 0
  · refine m_run ?_
    (apply TL.callV; exact rfl; exact callB_of (by kernel_rfl); exact rfl; exact fun _ h => h)
    exact heap_t b c n a e d Γ hsz (by omega) (by omega) hn
    rintro _ _ ⟨rfl, rfl⟩
    obtain ⟨q1, q2⟩ := heapSort_holds swo_ltInt d a e hae (by omega)
    obtain ⟨r1, r2⟩ := hfin _ q1 q2
    refine m_run ?_
    (apply TK.ret0; exact rfl; exact rfl)
    exact ⟨_, rfl, rfl, _, r1, r2, rfl⟩
  (repeat (first | refine TK.seq ?_ | refine TK.skip ?_))
  refine TK.block ?_
  (repeat (first | refine TK.seq ?_ | refine TK.skip ?_))
  refine TK.region ?_
  refine m_rrun ?_
  refine TL.nil ?_
  (repeat (first | refine TK.seq ?_ | refine TK.skip ?_))
  refine TK.know (t := 10) (v := .int .i64 ((e - a : Nat) : Int)) (congrArg (Value.int .i64) hea) ?_
  (repeat (first | refine TK.seq ?_ | refine TK.skip ?_))
  refine TK.region ?_
  refine m_rrun ?_
  refine TL.nil ?_
  (repeat (first | refine TK.seq ?_ | refine TK.skip ?_))
  refine TK.condF rfl (decide_eq_false (by omega)) ?_
  (repeat (first | refine TK.seq ?_ | refine TK.skip ?_))
  refine TK.region ?_
  refine m_rrun ?_
  refine TL.nil ?_
  (repeat (first | refine TK.seq ?_ | refine TK.skip ?_))
  refine TK.condF rfl (beq_eq_false_iff_ne.2 hz) ?_
  (repeat (first | refine TK.seq ?_ | refine TK.skip ?_))
  refine TK.region ?_
  refine m_rrun ?_
  refine TL.nil ?_
  (repeat (first | refine TK.seq ?_ | refine TK.skip ?_))
  apply TK.cut (fun ρ' Γ' => ∃ (z : Int) (d1 : Array Int), PermIn a e d d1 ∧ lk ρ' 0 = .slice (some ⟨b, 0, none⟩) n c ∧ lk ρ' 1 = .int .i64 (a : Int) ∧ lk ρ' 2 = .int .i64 (e : Int) ∧ lk ρ' 8 = .bool wb ∧ lk ρ' 9 = .bool wp ∧ lk ρ' 10 = .int .i64 ((e - a : Nat) : Int) ∧ lk ρ' 3 = .int .i64 z ∧ Γ' = DD b c n d1 :: Γ)
  · intro k' hk'
    cases wb with
    | true =>
      refine m_run ?_
      exact hk' _ _ ⟨z, d, permIn_refl _ _ _, rfl, rfl, rfl, rfl, rfl, rfl, rfl, rfl⟩
    | false =>
      refine m_run ?_
      (apply TL.callV; exact rfl; exact callB_of (by kernel_rfl); exact rfl; exact fun _ h => h)
      exact brk_t b c n a e d Γ hsz (by omega) (by omega) hn
      rintro _ _ ⟨rfl, d1, hP, rfl⟩
      refine m_run ?_
      exact hk' _ _ ⟨_, d1, hP, rfl, rfl, rfl, rfl, rfl, rfl, rfl, rfl⟩
  rintro ρ' _ ⟨z, d1, hP1, e0_, e1, e2, e8, e9, e10, e3, rfl⟩
  refine TK.know7 e0_ e1 e2 e8 e9 e10 e3 ?_
  have hsz1 : d1.size = n := hP1.1.trans hsz
  (repeat (first | refine TK.seq ?_ | refine TK.skip ?_))
  refine TK.region ?_
  refine m_rrun ?_
  (apply TL.callV; exact rfl; exact callB_of (by kernel_rfl); exact rfl; exact fun _ h => h)
  exact pivot_t b c n a e d1 Γ hsz1 (by omega) (by omega) hn
  rintro _ _ ⟨x, h, hx1, hx2, hh, rfl, rfl⟩
  refine m_rrun ?_
  refine TL.nil ?_
  (repeat (first | refine TK.seq ?_ | refine TK.skip ?_))
  refine TK.region ?_
  refine m_rrun ?_
  refine TL.nil ?_
  (repeat (first | refine TK.seq ?_ | refine TK.skip ?_))
  apply TK.cut (fun ρ' Γ' => ∃ (x : Nat) (h : Int) (d2 : Array Int), PermIn a e d1 d2 ∧ a ≤ x ∧ x < e ∧ lk ρ' 0 = .slice (some ⟨b, 0, none⟩) n c ∧ lk ρ' 1 = .int .i64 (a : Int) ∧ lk ρ' 2 = .int .i64 (e : Int) ∧ lk ρ' 8 = .bool wb ∧ lk ρ' 9 = .bool wp ∧ lk ρ' 10 = .int .i64 ((e - a : Nat) : Int) ∧ lk ρ' 3 = .int .i64 z ∧ lk ρ' 11 = .int .i64 (x : Int) ∧ lk ρ' 12 = .int .i64 h ∧ Γ' = DD b c n d2 :: Γ)
  · intro k' hk'
    by_cases hh2 : h = 2
    · refine m_run ?_
      (apply TL.callV; exact rfl; exact callB_of (by kernel_rfl); exact rfl; exact fun _ h => h)
      exact rev_t b c n a e d1 Γ hsz1 (by omega) (by omega) hn
      rintro _ _ ⟨rfl, rfl⟩
      have hP2 := reverseRange_holds d1 a e hae (by omega)
      refine m_run ?_
      exact hk' _ _ ⟨(e - 1) - (x - a), 1, _, hP2, by omega, by omega, rfl, rfl, rfl, rfl, rfl, rfl, rfl, congrArg (Value.int .i64) (by rw [i64_in (x := (e : Int) - 1) (by omega) (by omega), i64_in (x := (x : Int) - (a : Int)) (by omega) (by omega), i64_in (by omega) (by omega)]; omega), rfl, rfl⟩
    · refine m_run ?_
      exact hk' _ _ ⟨x, h, d1, permIn_refl _ _ _, hx1, hx2, rfl, rfl, rfl, rfl, rfl, rfl, rfl, rfl, rfl, rfl⟩
  clear hx1 hx2 hh
  rintro ρ' _ ⟨x, h, d2, hP2, hx1, hx2, e0_, e1, e2, e8, e9, e10, e3, e11, e12, rfl⟩
  refine TK.know9 e0_ e1 e2 e8 e9 e10 e3 e11 e12 ?_
  have hsz2 : d2.size = n := hP2.1.trans hsz1
  (repeat (first | refine TK.seq ?_ | refine TK.skip ?_))
  apply TK.cut (fun ρ' Γ' => ∃ (t : Bool), lk ρ' 0 = .slice (some ⟨b, 0, none⟩) n c ∧ lk ρ' 1 = .int .i64 (a : Int) ∧ lk ρ' 2 = .int .i64 (e : Int) ∧ lk ρ' 8 = .bool wb ∧ lk ρ' 9 = .bool wp ∧ lk ρ' 10 = .int .i64 ((e - a : Nat) : Int) ∧ lk ρ' 3 = .int .i64 z ∧ lk ρ' 11 = .int .i64 (x : Int) ∧ lk ρ' 68 = .bool t ∧ Γ' = DD b c n d2 :: Γ)
  · intro k' hk'
    cases wb <;> cases wp <;> (by_cases h1 : h = 1) <;> (refine m_run ?_; exact hk' _ _ ⟨_, rfl, rfl, rfl, rfl, rfl, rfl, rfl, rfl, rfl, rfl⟩)
  rintro ρ' _ ⟨t, e0_, e1, e2, e8, e9, e10, e3, e11, e68, rfl⟩
  refine TK.know9 e0_ e1 e2 e8 e9 e10 e3 e11 e68 ?_
  (repeat (first | refine TK.seq ?_ | refine TK.skip ?_))
  have hB2 : Below ltInt a e d2 := (hB.perm (by omega) hP1).perm (by omega) hP2
  apply TK.cut (fun ρ' Γ' => ∃ (d3 : Array Int), PermIn a e d2 d3 ∧ lk ρ' 0 = .slice (some ⟨b, 0, none⟩) n c ∧ lk ρ' 1 = .int .i64 (a : Int) ∧ lk ρ' 2 = .int .i64 (e : Int) ∧ lk ρ' 8 = .bool wb ∧ lk ρ' 9 = .bool wp ∧ lk ρ' 10 = .int .i64 ((e - a : Nat) : Int) ∧ lk ρ' 3 = .int .i64 z ∧ lk ρ' 11 = .int .i64 (x : Int) ∧ Γ' = DD b c n d3 :: Γ)
  · intro k' hk'
    cases t with
    | false =>
      refine m_run ?_
      exact hk' _ _ ⟨d2, permIn_refl _ _ _, rfl, rfl, rfl, rfl, rfl, rfl, rfl, rfl, rfl⟩
    | true =>
      refine m_run ?_
      (apply TL.callV; exact rfl; exact callB_of (by kernel_rfl); exact rfl; exact fun _ h => h)
      exact partial_t b c n a e d2 Γ hsz2 (by omega) (by omega) hn
      rintro _ _ ⟨rfl, rfl⟩
      obtain ⟨q1, q2⟩ := partialInsertionSort_holds swo_ltInt d2 a e (by omega) (by omega) hB2
      generalize partialInsertionSort ltInt d2 a e = r at *
      obtain ⟨d3, t⟩ := r
      cases t with
      | true =>
        obtain ⟨r1, r2⟩ := hfin _ (permIn_trans _ _ _ _ _ (permIn_trans _ _ _ _ _ hP1 hP2) q1) (q2 rfl)
        refine m_run ?_
        (apply TK.ret0; exact rfl; exact rfl)
        exact ⟨_, rfl, rfl, _, r1, r2, rfl⟩
      | false =>
        refine m_run ?_
        exact hk' _ _ ⟨d3, q1, rfl, rfl, rfl, rfl, rfl, rfl, rfl, rfl, rfl⟩
  rintro ρ' _ ⟨d3, hP3, e0_, e1, e2, e8, e9, e10, e3, e11, rfl⟩
  refine TK.know8 e0_ e1 e2 e8 e9 e10 e3 e11 ?_
  have hsz3 : d3.size = n := hP3.1.trans hsz2
  have hP : PermIn a e d d3 := permIn_trans _ _ _ _ _ (permIn_trans _ _ _ _ _ hP1 hP2) hP3
  have hB3 : Below ltInt a e d3 := hB2.perm (by omega) hP3
  clear hB2 hB hP1 hP2 hP3
  (repeat (first | refine TK.seq ?_ | refine TK.skip ?_))
  by_cases heq : 0 < a ∧ ¬ d3[a - 1]! < d3[x]!
  · obtain ⟨h0, hnl⟩ := heq
    have hc1 := cellD (b := b) (c := c) (Γ := Γ) hsz3 (show a - 1 < n by omega)
    have hc2 := cellD (b := b) (c := c) (Γ := Γ) hsz3 (show x < n by omega)
    refine TK.drawS mixed rfl ?_
    refine m_take (At.mk : At 0) ?_; refine m_take (At.mk : At 1) ?_
    refine TA.isT 74 rfl (decide_eq_true (by omega)) ?_
    refine m_take (At.mk : At 2) ?_; refine m_take (At.mk : At 3) ?_; refine m_take (At.mk : At 4) ?_; refine m_take (At.mk : At 5) ?_
    refine TA.know (t := 78) (v := .int .i64 ((a - 1 : Nat) : Int)) (congrArg (Value.int .i64) (by rw [i64_in (by omega) (by omega)]; omega)) ?_
    refine m_take (At.mk : At 6) ?_; refine m_take (At.mk : At 7) ?_; refine m_take (At.mk : At 8) ?_; refine m_take (At.mk : At 9) ?_; refine m_take (At.mk : At 10) ?_; refine m_take (At.mk : At 11) ?_
    (apply TA.one 12; kernel_rfl; exact rfl)
    refine m_rrun ?_
    (apply TL.callV; exact rfl; exact callB_of (by kernel_rfl); exact rfl; exact fun _ h => h)
    exact less_t _ _ _
    rintro _ _ ⟨rfl, rfl⟩
    refine TL.back (by (focus ((repeat (first | assumption | exact Ent.refl _ | apply Ent.tail)); done))) ?_
    refine m_take (At.mk : At 13) ?_; refine m_take (At.mk : At 14) ?_
    refine TA.isT 87 rfl (not_t (decide_eq_false hnl)) ?_
    refine TA.done (by kernel_rfl) ?_
    clear hc1 hc2
    refine m_run ?_
    (apply TL.callV; exact rfl; exact callB_of (by kernel_rfl); exact rfl; exact fun _ h => h)
    exact partEq_t b c n a e x d3 Γ hsz3 hx1 hx2 (by omega) hn
    rintro _ _ ⟨rfl, rfl⟩
    obtain ⟨mid, d4, hx⟩ : ∃ mid d4, partitionEqual ltInt d3 a e x = (mid, d4) := ⟨_, _, rfl⟩
    rw [show (partitionEqual ltInt d3 a e x).1 = mid by rw [hx], show (partitionEqual ltInt d3 a e x).2 = d4 by rw [hx]]
    obtain ⟨g1, g2, g3, g4, g5⟩ := round_eq swo_ltInt (partitionEqual_holds ltInt) h0 hx1 hx2 (by omega) hB3 (decide_eq_false hnl) hx
    refine m_run ?_
    exact IH (m - 1) _ _ (by omega) ⟨mid, e, z, d4, wb, wp, by omega, by omega, g2, hee, g3.trans hsz3, g4, fun R r1 r2 => by
      obtain ⟨q1, q2⟩ := g5 R r1 r2
      exact hfin R (permIn_trans _ _ _ _ _ hP q1) q2, rfl, rfl, rfl, rfl, rfl, rfl, rfl⟩
  apply TK.cut (fun ρ' Γ' => lk ρ' 0 = .slice (some ⟨b, 0, none⟩) n c ∧ lk ρ' 1 = .int .i64 (a : Int) ∧ lk ρ' 2 = .int .i64 (e : Int) ∧ lk ρ' 8 = .bool wb ∧ lk ρ' 9 = .bool wp ∧ lk ρ' 10 = .int .i64 ((e - a : Nat) : Int) ∧ lk ρ' 3 = .int .i64 z ∧ lk ρ' 11 = .int .i64 (x : Int) ∧ lk ρ' 87 = .bool false ∧ Γ' = DD b c n d3 :: Γ)
  · intro k' hk'
    by_cases h0 : 0 < a
    · have hlt : d3[a - 1]! < d3[x]! := Decidable.byContradiction fun h => heq ⟨h0, h⟩
      have hc1 := cellD (b := b) (c := c) (Γ := Γ) hsz3 (show a - 1 < n by omega)
      have hc2 := cellD (b := b) (c := c) (Γ := Γ) hsz3 (show x < n by omega)
      refine TK.drawS mixed rfl ?_
      refine m_take (At.mk : At 0) ?_; refine m_take (At.mk : At 1) ?_
      refine TA.isT 74 rfl (decide_eq_true (by omega)) ?_
      refine m_take (At.mk : At 2) ?_; refine m_take (At.mk : At 3) ?_; refine m_take (At.mk : At 4) ?_; refine m_take (At.mk : At 5) ?_
      refine TA.know (t := 78) (v := .int .i64 ((a - 1 : Nat) : Int)) (congrArg (Value.int .i64) (by rw [i64_in (by omega) (by omega)]; omega)) ?_
      refine m_take (At.mk : At 6) ?_; refine m_take (At.mk : At 7) ?_; refine m_take (At.mk : At 8) ?_; refine m_take (At.mk : At 9) ?_; refine m_take (At.mk : At 10) ?_; refine m_take (At.mk : At 11) ?_
      (apply TA.one 12; kernel_rfl; exact rfl)
      refine m_rrun ?_
      (apply TL.callV; exact rfl; exact callB_of (by kernel_rfl); exact rfl; exact fun _ h => h)
      exact less_t _ _ _
      rintro _ _ ⟨rfl, rfl⟩
      refine TL.back (by (focus ((repeat (first | assumption | exact Ent.refl _ | apply Ent.tail)); done))) ?_
      refine m_take (At.mk : At 13) ?_; refine m_take (At.mk : At 14) ?_
      refine TA.isF 87 rfl (not_f (decide_eq_true hlt)) ?_
      refine TA.done (by kernel_rfl) ?_
      exact hk' _ _ ⟨rfl, rfl, rfl, rfl, rfl, rfl, rfl, rfl, rfl, rfl⟩
    · refine TK.drawS mixed rfl ?_
      refine m_take (At.mk : At 0) ?_; refine m_take (At.mk : At 1) ?_
      refine TA.isF 74 rfl (decide_eq_false (by omega)) ?_
      refine m_take (At.mk : At 2) ?_; refine m_take (At.mk : At 3) ?_; refine m_take (At.mk : At 4) ?_; refine m_take (At.mk : At 5) ?_; refine m_take (At.mk : At 6) ?_; refine m_take (At.mk : At 7) ?_; refine m_take (At.mk : At 8) ?_; refine m_take (At.mk : At 9) ?_; refine m_take (At.mk : At 10) ?_; refine m_take (At.mk : At 11) ?_; refine m_take (At.mk : At 12) ?_; refine m_take (At.mk : At 13) ?_; refine m_take (At.mk : At 14) ?_
      refine TA.done (by kernel_rfl) ?_
      exact hk' _ _ ⟨rfl, rfl, rfl, rfl, rfl, rfl, rfl, rfl, rfl, rfl⟩
  rintro ρ' _ ⟨e0_, e1, e2, e8, e9, e10, e3, e11, e87, rfl⟩
  refine TK.know9 e0_ e1 e2 e8 e9 e10 e3 e11 e87 ?_
  clear heq
  refine m_run ?_
  (apply TL.callV; exact rfl; exact callB_of (by kernel_rfl); exact rfl; exact fun _ h => h)
  exact part_t b c n a e x d3 Γ hsz3 hx1 hx2 (by omega) hn
  rintro _ _ ⟨rfl, rfl⟩
  obtain ⟨mid, ap, d4, hx⟩ : ∃ mid ap d4, Sort.partition ltInt d3 a e x = (mid, ap, d4) := ⟨_, _, _, rfl⟩
  rw [show (Sort.partition ltInt d3 a e x).1 = mid by rw [hx], show (Sort.partition ltInt d3 a e x).2.1 = ap by rw [hx], show (Sort.partition ltInt d3 a e x).2.2 = d4 by rw [hx]]
  obtain ⟨g1, g2, g3, gBl, gBr, gL, gR⟩ := round_part swo_ltInt (partition_holds ltInt) hx1 hx2 (by omega) hB3 hx
  have hsz4 : d4.size = n := g3.trans hsz3
  have hma : IntKind.i64.wrap ((mid : Int) - (a : Int)) = ((mid - a : Nat) : Int) := by rw [i64_in (by omega) (by omega)]; omega
  have hme : IntKind.i64.wrap ((e : Int) - (mid : Int)) = ((e - mid : Nat) : Int) := by rw [i64_in (by omega) (by omega)]; omega
  by_cases hlt : mid - a < e - mid
  · refine m_run ?_
    (apply TL.callV; exact rfl; exact callB_of (by kernel_rfl); exact rfl; exact fun _ h => h)
    exact IHN (mid - a) (by omega) a mid z d4 rfl hsz4 g1 (by omega) gBl
    rintro _ _ ⟨rfl, d5, p1, p2, rfl⟩
    obtain ⟨b5, f5⟩ := gL d5 p1 p2
    refine m_run ?_
    exact IH (m - 1) _ _ (by omega) ⟨mid + 1, e, z, d5, _, ap, by omega, by omega, by omega, hee, p1.1.trans hsz4, b5, fun R r1 r2 => by
      obtain ⟨q1, q2⟩ := f5 R r1 r2
      exact hfin R (permIn_trans _ _ _ _ _ hP q1) q2, rfl, congrArg (Value.int .i64) (i64_succ mid (by omega)), rfl, rfl, rfl, rfl, rfl⟩
  · refine m_run ?_
    refine TL.know (t := 129) (v := .int .i64 ((mid + 1 : Nat) : Int)) (congrArg (Value.int .i64) (i64_succ mid (by omega))) ?_
    (apply TL.callV; exact rfl; exact callB_of (by kernel_rfl); exact rfl; exact fun _ h => h)
    exact IHN (e - (mid + 1)) (by omega) (mid + 1) e z d4 rfl hsz4 (by omega) (by omega) gBr
    rintro _ _ ⟨rfl, d5, p1, p2, rfl⟩
    obtain ⟨b5, f5⟩ := gR d5 p1 p2
    refine m_run ?_
    exact IH (m - 1) _ _ (by omega) ⟨a, mid, z, d5, _, ap, by omega, by omega, g1, by omega, p1.1.trans hsz4, b5, fun R r1 r2 => by
      obtain ⟨q1, q2⟩ := f5 R r1 r2
      exact hfin R (permIn_trans _ _ _ _ _ hP q1) q2, rfl, rfl, rfl, rfl, rfl, rfl, rfl⟩

theorem perm_whole {d d' : Array Int} (h : PermIn 0 d.size d d') : d'.toList.Perm d.toList := by
  obtain ⟨h1, _, h3⟩ := h
  have e1 : d'.extract 0 d.size = d' := by rw [← h1]; simp
  have e2 : d.extract 0 d.size = d := by simp
  rw [e1, e2] at h3
  exact h3
theorem sorted_whole {d : Array Int} (h : SortedIn ltInt 0 d.size d) : d.toList.Pairwise (· ≤ ·) := by
  refine List.pairwise_iff_getElem.2 fun i j hi hj hij => ?_
  simp only [Array.length_toList] at hi hj
  have := h i j (Nat.zero_le _) hij hj
  unfold ltInt at this
  have h2 := of_decide_eq_false this
  rw [getElem!_pos d i hi, getElem!_pos d j hj] at h2
  simp only [Array.getElem_toList]
  omega
set_option maxRecDepth 100000 in
set_option maxHeartbeats 4000000 in
theorem ins0_t (A : Option Addr) (c : Nat) (Γ : List HP) : FnV Try.prog 117 [.slice A 0 c, .int .i64 0, .int .i64 0] Γ fun v Γ' => v = .tuple #[] ∧ Γ' = Γ := by
  refine Fn.enter Try.func117 rfl rfl rfl fun E => ?_
  refine m_run ?_
  refine TK.know (t := 6) (v := .int .i64 1) rfl ?_
  apply TK.iter (fun m ρ' Γ' => lk ρ' 2 = .int .i64 0 ∧ lk ρ' 6 = .int .i64 1 ∧ Γ' = Γ) 0
  · exact ⟨rfl, rfl, rfl⟩
  rintro m IH ρ' _ ⟨e2, e6, rfl⟩
  refine TK.know2 e2 e6 ?_
  refine m_run ?_
  exact TK.over0 rfl rfl ⟨_, rfl, rfl, rfl⟩
set_option maxRecDepth 100000 in
set_option maxHeartbeats 4000000 in
theorem pdq0_t (A : Option Addr) (c : Nat) (z : Int) (Γ : List HP) : FnV Try.prog 109 [.slice A 0 c, .int .i64 0, .int .i64 0, .int .i64 z] Γ fun v Γ' => v = .tuple #[] ∧ Γ' = Γ := by
  refine Fn.enter Try.func109 rfl rfl rfl fun E => ?_
  refine m_run ?_
  apply TK.iter (fun m ρ' Γ' => lk ρ' 0 = .slice A 0 c ∧ lk ρ' 1 = .int .i64 0 ∧ lk ρ' 2 = .int .i64 0 ∧ Γ' = Γ) 0
  · exact ⟨rfl, rfl, rfl, rfl⟩
  rintro m IH ρ' _ ⟨e0, e1, e2, rfl⟩
  refine TK.know3 e0 e1 e2 ?_
  have hw : IntKind.i64.wrap ((0 : Int) - 0) = 0 := rfl
  refine m_run ?_
  (apply TL.callV; exact rfl; exact callB_of (by kernel_rfl); exact rfl; exact fun _ h => h)
  exact ins0_t A c _
  rintro _ _ ⟨rfl, rfl⟩
  refine m_run ?_
  (apply TK.ret0; exact rfl; exact rfl)
  exact ⟨_, rfl, rfl, rfl⟩
set_option maxRecDepth 100000 in
set_option maxHeartbeats 4000000 in
theorem sort_t (A : Option Addr) (c : Nat) (D : List Int) (Γ : List HP) (hn : D.length ≤ 1000000000) :
    FnV Try.prog 94 [.slice A D.length c] (own 3 1 (.slice A D.length c) D.length (nums .i64 D) :: Γ)
      fun v Γ' => v = .tuple #[] ∧ ∃ D', D'.Perm D ∧ D'.Pairwise (· ≤ ·) ∧ Γ' = own 3 1 (.slice A D.length c) D.length (nums .i64 D') :: Γ := by
  refine Fn.enter Try.func94 rfl rfl rfl fun E => ?_
  refine m_run ?_
  refine TL.know (t := 8) (v := .int .u64 (D.length : Int)) (congrArg (Value.int .u64) (u64_in (by omega) (by omega))) ?_
  (apply TL.callV; exact rfl; exact callB_of (by kernel_rfl); exact rfl; exact fun _ h => h)
  exact len_t D.length hn _
  rintro _ _ ⟨L, _, _, rfl, rfl⟩
  refine m_run ?_
  by_cases h0 : D.length = 0
  · rw [h0]
    (apply TL.callV; exact rfl; exact callB_of (by kernel_rfl); exact rfl; exact fun _ h => h)
    exact pdq0_t A c _ _
    rintro _ _ ⟨rfl, rfl⟩
    refine m_run ?_
    refine TK.over0 rfl rfl ⟨_, rfl, rfl, D, List.Perm.refl _, ?_, rfl⟩
    rw [List.eq_nil_of_length_eq_zero h0]
    exact List.Pairwise.nil
  refine TL.mem fun m0 hm0 => ?_
  obtain ⟨b, rfl⟩ : ∃ b, A = some ⟨b, 0, none⟩ := by
    obtain ⟨m1, m2, _, _, h1, _⟩ := hm0
    obtain ⟨_, ⟨_, h, _⟩ | ⟨g, cap, cur, hv, _⟩⟩ := h1
    · omega
    · injection hv with hv _ _
      exact ⟨g, hv⟩
  clear hm0 m0
  (apply TL.callV (Δ := DD b c D.length D.toArray :: Γ); exact rfl; exact callB_of (by kernel_rfl); exact rfl; exact fun _ h => h)
  exact pdq_t b c D.length Γ hn D.length 0 D.length L D.toArray rfl rfl (Nat.zero_le _) (Nat.le_refl _) (.inl rfl)
  rintro _ _ ⟨rfl, d', h1, h2, rfl⟩
  refine m_run ?_
  refine TK.over0 rfl rfl ⟨_, rfl, rfl, d'.toList, perm_whole (d := D.toArray) h1, sorted_whole (by rw [show d'.size = D.length from h1.1]; exact h2), rfl⟩
end Go.Proofs.Ytndmjpceocecdaa.E.SI

/- MY OWN LAYER: append(s, make(.., k)...) onto a slice of one's own. -/
namespace Go.Proofs.Ytndmjpceocecdaa.E
open Go Go.RowKit Go.Proofs
theorem zeros_one {z : Value} (hz : z.cells = #[z]) (n : Nat) : (Builtin.zeroCells z.cells n) = (List.replicate n z).toArray := by
  rw [hz]
  apply Array.ext'
  apply List.ext_getElem?
  intro i
  simp [Builtin.zeroCells, List.getElem?_replicate]
  by_cases h : i < n <;> simp [h, Nat.mod_one]
theorem run_appendZ {P : Program} {E : World} {Γ : List HP} {w : World} (hS : Sat E Γ w) {t tn ty e : TypeId} {v : Value} {n k : Nat} {cs : List Value} {r r' rn : TR} {kq kn : IntKind} (i : Nat) (hi : Γ[i]? = some (own e 1 v n cs)) (ht : TabOk P t r) (hq : r.und = .slice e) (ht' : TabOk P e r') (htn : TabOk P tn rn) (hqn : rn.und = .int kn)
    (hsz : r'.size = 1) (hbt : r'.bytes ≤ 16) (hz : r'.zero.cells = #[r'.zero]) (h1 : r'.zero.oneCell' = true) (hlim : n + k ≤ 1099511627776) :
    ∃ A' c' w', n + k ≤ c' ∧ Sat E (Γ.set i (own e 1 (.slice A' (n + k) c') (n + k) (cs ++ List.replicate k r'.zero))) w' ∧ (Builtin.append_ #[t, tn] ty #[v, .int kq (k : Int)]).run P w = .ok (.slice A' (n + k) c') w' := by
  have hu : P.underlying t = some (.slice e) := by rw [← hq]; exact ht.1
  have hun : P.underlying tn = some (.int kn) := by rw [← hqn]; exact htn.1
  obtain ⟨_, inf, hinf, h2, h3, hzi⟩ := id ht'
  have hs1 : inf.size = 1 := by omega
  have hbi : inf.bytes ≤ 16 := by omega
  have hkb : k * inf.bytes ≤ 1099511627776 * 16 := Nat.mul_le_mul (by omega) hbi
  have hnb : (n + k) * inf.bytes ≤ 1099511627776 * 16 := Nat.mul_le_mul hlim hbi
  obtain ⟨m0, hm0, hw0⟩ := hS.mem
  obtain ⟨a0, b0, hd0, rfl, ⟨hcl, hcase⟩, hb0⟩ := all_front hi hm0
  rw [Nat.mul_one] at hcl
  have grow : ∀ (A : Option Addr) (c : Nat), c < n + k → 0 < k → (Builtin.firstCells inf.size n (.slice A n c)).run P w.drew = .ok cs.toArray w.drew →
      ∃ A' c' w', n + k ≤ c' ∧ Sat E (Γ.set i (own e 1 (.slice A' (n + k) c') (n + k) (cs ++ List.replicate k r'.zero))) w' ∧ (Builtin.append_ #[t, tn] ty #[.slice A n c, .int kq (k : Int)]).run P w = .ok (.slice A' (n + k) c') w' := by
    intro A c hc h0 hold
    have hrun := Go.Lib.run_append_grow_zeros (P := P) w t tn ty e inf r'.zero kq kn hu hun hinf hzi A n c cs hold k h0 (by omega) hc (by omega) (by omega) (growslice_fits hc (by omega))
    have hge := grownCap_ge w (n + k) c e
    have h63 := grownCap_le_maxLen w (n + k) c e (by unfold maxLen; omega)
    refine ⟨_, _, _, hge, ?_, hrun⟩
    refine Sat.into hi ?_
    refine (hS.drew.alloc _).imp fun m' hm' => ?_
    refine sep_mono hm' (fun q hq => ?_) (fun _ => id)
    refine ⟨by simp [hcl], .inr ⟨_, grownCap w (n + k) c e, cs ++ List.replicate (grownCap w (n + k) c e - n) r'.zero, rfl, hge, h63, by simp [hcl]; omega, ?_, ?_⟩⟩
    · rw [Nat.mul_one, List.take_append, hcl, List.take_of_length_le (by omega), Nat.add_sub_cancel_left, List.take_replicate, Nat.min_eq_left (by omega)]
    · have e1 : cs.toArray ++ Builtin.zeroCells r'.zero.cells k ++ Builtin.zeroCells r'.zero.cells (grownCap w (n + k) c e - (n + k)) = (cs ++ List.replicate (grownCap w (n + k) c e - n) r'.zero).toArray := by
        rw [zeros_one hz, zeros_one hz]
        simp only [List.append_toArray, List.append_assoc, List.replicate_append_replicate]
        rw [show k + (grownCap w (n + k) c e - (n + k)) = grownCap w (n + k) c e - n by omega]
      rw [e1] at hq
      exact hq
  have hwk : IntKind.i64.wrap (k : Int) = k := by rw [IntKind.wrap_i64]; omega
  have hneg : ¬ ((k : Int) < 0) := by omega
  have h48i : ¬ (281474976710656 < (k : Int) * (inf.bytes : Int)) := by rw [← Int.natCast_mul]; omega
  rcases Nat.eq_zero_or_pos k with rfl | hk
  · obtain ⟨A, c, rfl, hnc⟩ := own_shape (e := e) (sz := 1) (v := v) (n := n) (cs := cs) (m := a0) ⟨by rw [Nat.mul_one]; exact hcl, hcase⟩
    refine ⟨A, c, w, hnc, ?_, ?_⟩
    · obtain ⟨h7, h8⟩ := List.getElem?_eq_some_iff.1 hi
      have h9 : Γ.set i (own e 1 (.slice A (n + 0) c) (n + 0) (cs ++ List.replicate 0 r'.zero)) = Γ := by
        rw [List.replicate_zero, List.append_nil, Nat.add_zero, ← h8]; exact List.set_getElem_self h7
      rw [h9]; exact hS
    · have hw0 : IntKind.i64.wrap 0 = 0 := by decide
      cases A <;> simp [Builtin.append_, run_underlying hu, run_underlying hun, sizeOf, typeInfo, hinf, asInt, asIntOf, hw0, hnc, storeCells]
  have hk0 : k ≠ 0 := by omega
  rcases hcase with ⟨rfl, rfl, hemp⟩ | ⟨g, cap, cur, rfl, hn, hcap, hcl2, htk, hrow⟩
  · have hcs : cs = [] := by simpa using hcl
    subst hcs
    exact grow none 0 (by omega) hk (run_firstCells_none w.drew inf.size 0 0 0)
  · have hblk : w.heap[g]? = some (.cells cur.toArray e (0, 0)) := hw0 g _ (Mem.sub_left a0 b0 g _ (by rw [hrow g]; simp))
    rw [Nat.mul_one] at hcl2 htk
    rcases Nat.lt_or_ge cap (n + k) with hc | hc
    · refine grow _ _ hc hk (run_firstCells_some w.drew inf.size n _ n cap cs (by rw [hs1, Nat.mul_one]; exact hcl) fun j u hj => ?_)
      rw [add_at]
      rw [← htk] at hj
      simp [List.getElem?_take] at hj
      rw [World.cell?_drew]
      simp [World.cell?, hblk, hj.2]
    · have hst := run_storeCells_at P g n e (List.replicate k r'.zero) 0 cur.toArray w hblk (by simp; omega) (by
        intro u hu
        rw [List.eq_of_mem_replicate hu]; exact h1)
      simp only [Nat.add_zero, List.length_replicate] at hst
      have hrun : (Builtin.append_ #[t, tn] ty #[.slice (some ⟨g, 0, none⟩) n cap, .int kq (k : Int)]).run P w = .ok (.slice (some ⟨g, 0, none⟩) (n + k) cap) (w.setRow g (cur.take n ++ List.replicate k r'.zero ++ cur.drop (n + k)).toArray) := by
        simp [Builtin.append_, run_underlying hu, run_underlying hun, sizeOf, typeInfo, zeroValue, hinf, hzi, hs1, asInt, asIntOf, hwk, hneg, h48i, hc, hk0, Addr.add_lit, zeros_one hz] at hst ⊢
        rw [hst]
        rfl
      refine ⟨_, _, _, hc, ?_, hrun⟩
      obtain ⟨cur2, ⟨hcur2, htk2⟩, hS3⟩ := hS.at hi (X := List Value) (φ := fun l => l.length = cap ∧ l.take n = cs) (K := fun l => row g l e) (fun m hm => by
        obtain ⟨_, ⟨hv, _⟩ | ⟨g', cap', cur', hv, _, _, hl', ht', hr'⟩⟩ := hm
        · cases hv
        · injection hv with hv1 _ hv2
          injection hv1 with hv1
          injection hv1 with hv1
          subst hv1; subst hv2
          rw [Nat.mul_one] at hl' ht'
          exact ⟨cur', ⟨hl', ht'⟩, hr'⟩)
      have hrow3 : (Γ.set i (row g cur2 e))[i]? = some (row g cur2 e) := by
        have := (List.getElem?_eq_some_iff.1 hi).1
        simp [this]
      have hblk2 := hS3.block hrow3
      have hcc : cur2 = cur := by
        rw [hblk] at hblk2
        injection hblk2 with hblk2
        injection hblk2 with hblk2 _ _
        simpa using hblk2.symm
      subst hcc
      have hput := hS3.put (w' := w.setRow g (cur2.take n ++ List.replicate k r'.zero ++ cur2.drop (n + k)).toArray) hrow3 rfl rfl rfl (setRow_heap w g _ _ e _ hblk) (fun k hk q hq => (setRow_other w g _ k hk).trans hq)
      simp only [List.set_set] at hput
      have hset : (Γ.set i (pt g (.cells (cur2.take n ++ List.replicate k r'.zero ++ cur2.drop (n + k)).toArray e (0, 0))))[i]? = some (pt g (.cells (cur2.take n ++ List.replicate k r'.zero ++ cur2.drop (n + k)).toArray e (0, 0))) := by
        have := (List.getElem?_eq_some_iff.1 hi).1
        simp [this]
      have := hput.imp fun m' hm' => all_set (K := own e 1 (.slice (some ⟨g, 0, none⟩) (n + k) cap) (n + k) (cs ++ List.replicate k r'.zero)) hset (fun q hq => ⟨by simp [hcl], .inr ⟨g, cap, _, rfl, hc, hcap, ?_, ?_, hq⟩⟩) hm'
      · simpa only [List.set_set] using this
      · simp; omega
      · rw [Nat.mul_one, htk, List.take_append_of_le_length (by simp [hcl]), List.take_of_length_le (by simp [hcl])]
section
variable {cx : Cx} {ops : Array Oper} {K : Act → World → Prop} {rest : List Oper} {ρ : Env} {ds : List Deferred} {Γ : List HP} {d : Nat} {ty : TypeId} {pos : String} {after : Array Edge}
theorem TL.appZo {t tn e : TypeId} {x y : Operand} {v : Value} {n k s : Nat} {cs cs' : List Value} {kq kn : IntKind} {r r' rn : TR} (i : Nat) (hi : Γ[i]? = some (own e 1 v n cs)) (hd : Nat.blt d cx.n = true) (ht : TabOk cx.P t r) (hq : r.und = .slice e) (ht' : TabOk cx.P e r') (htn : TabOk cx.P tn rn) (hqn : rn.und = .int kn) (hsz : r'.size = 1) (hb : r'.bytes ≤ 16) (hz : r'.zero.cells = #[r'.zero]) (h1 : r'.zero.oneCell' = true)
    (ea : ev ρ x = v) (eb : ev ρ y = .int kq (k : Int)) (hlim : n + k ≤ 1099511627776) (hnk : n + k = s) (hcs : cs ++ List.replicate k r'.zero = cs') {Δ : Value → List HP} (hΔ : ∀ v, Γ.set i (own e 1 v s cs') = Δ v)
    (h : ∀ A' c', s ≤ c' → TL cx ops K rest ((d, .slice A' s c') :: ρ) ds (Δ (.slice A' s c'))) : TL cx ops K (⟨some d, .call ⟨.builtin .append, #[x, y], #[t, tn]⟩, ty, pos, after, none⟩ :: rest) ρ ds Γ := by
  subst hnk; subst hcs
  exact .act (X := Option Addr × Nat) (φ := fun p => n + k ≤ p.2) (v := fun p => .slice p.1 (n + k) p.2) (Δ := fun p => Γ.set i (own e 1 (.slice p.1 (n + k) p.2) (n + k) (cs ++ List.replicate k r'.zero))) hd (fun w hS => by
    obtain ⟨A', c', w', h5, h6, h7⟩ := run_appendZ (P := cx.P) (ty := ty) (kq := kq) hS i hi ht hq ht' htn hqn hsz hb hz h1 hlim
    exact ⟨(A', c'), w', h5, h6, by simp [execOp, resolve, invoke, builtin, ea, eb, h7]⟩) (fun p hp => by rw [hΔ]; exact h p.1 p.2 hp)
end
end Go.Proofs.Ytndmjpceocecdaa.E

/- MY OWN LAYER: slices of one's own that begin anywhere in their row (elements of one cell). P is a variable. -/
namespace Go.Proofs.Ytndmjpceocecdaa.E
open Go Go.RowKit Go.Proofs
def ownO (e : TypeId) (v : Value) (n : Nat) (cs : List Value) : HP := fun m =>
  cs.length = n ∧ ((v = .slice none 0 0 ∧ n = 0 ∧ emp m) ∨
    ∃ g o cap cur, v = .slice (some ⟨g, o, none⟩) n cap ∧ n ≤ cap ∧ o + cap ≤ cur.length ∧ cur.length ≤ maxLen ∧ (cur.drop o).take n = cs ∧ row g cur e m)
theorem ownO_nil (e : TypeId) {m : Mem} (h : emp m) : ownO e (.slice none 0 0) 0 [] m := ⟨rfl, .inl ⟨rfl, rfl, h⟩⟩
theorem own_ownO {e n : Nat} {v : Value} {cs : List Value} {m : Mem} (h : own e 1 v n cs m) : ownO e v n cs m := by
  obtain ⟨h1, h2⟩ := h
  rw [Nat.mul_one] at h1
  refine ⟨h1, ?_⟩
  rcases h2 with h2 | ⟨g, cap, cur, hv, hn, hc, hl, ht, hr⟩
  · exact .inl h2
  · rw [Nat.mul_one] at hl ht
    exact .inr ⟨g, 0, cap, cur, hv, hn, by omega, by omega, by simpa using ht, hr⟩
theorem ownO_shape {e n : Nat} {v : Value} {cs : List Value} {m : Mem} (h : ownO e v n cs m) : ∃ A c, v = .slice A n c ∧ n ≤ c := by
  obtain ⟨_, ⟨hv, hn, _⟩ | ⟨g, o, cap, cur, hv, hn, _⟩⟩ := h
  · exact ⟨none, 0, by rw [hv, hn], by omega⟩
  · exact ⟨_, cap, hv, hn⟩
theorem ownO_src {e n c : Nat} {A : Option Addr} {cs : List Value} {m : Mem} (h : ownO e (.slice A n c) n cs m) : srcAt 1 A n cs m := by
  obtain ⟨h1, h2⟩ := h
  refine ⟨by rw [Nat.mul_one]; exact h1, ?_⟩
  rcases h2 with ⟨_, hn, _⟩ | ⟨g, o, cap, cur, hv, hn, _, hl, ht, hr⟩
  · left; subst hn; simpa using h1
  · injection hv with ha _ _
    right
    refine ⟨g, o, ha, fun j v hj => ⟨cur.toArray, e, (0, 0), by rw [hr g]; simp, ?_⟩⟩
    rw [← ht] at hj
    simp [List.getElem?_take] at hj
    simpa using hj.2
/-- The first one is left out. -/
theorem ownO_tail {e n c : Nat} {A : Option Addr} {x : Value} {cs : List Value} {m : Mem} (h : ownO e (.slice A (n + 1) c) (n + 1) (x :: cs) m) :
    ownO e (.slice (if c = 1 then A else A.map fun a => a.add (1 * 1)) n (c - 1)) n cs m := by
  obtain ⟨h1, h2⟩ := h
  refine ⟨by simpa using h1, .inr ?_⟩
  rcases h2 with ⟨_, hn, _⟩ | ⟨g, o, cap, cur, hv, hn, hoc, hl, ht, hr⟩
  · omega
  · injection hv with ha _ hc
    subst ha; subst hc
    by_cases h1c : c = 1
    · obtain rfl : n = 0 := by omega
      refine ⟨g, o, c - 1, cur, by rw [if_pos h1c], by omega, by omega, hl, ?_, hr⟩
      have : cs = [] := by simpa using h1
      rw [this, List.take_zero]
    · refine ⟨g, o + 1, c - 1, cur, by rw [if_neg h1c]; simp [Addr.add], by omega, by omega, hl, ?_, hr⟩
      obtain ⟨y, hy⟩ : ∃ y, cur.drop o = y :: cur.drop (o + 1) := ⟨cur[o]'(by omega), List.drop_eq_getElem_cons (by omega)⟩
      rw [hy, List.take_succ_cons] at ht
      injection ht
theorem run_append_room_O {P : Program} (w : World) (t tx ty e : TypeId) (i : TypeInfo) (ht : P.underlying t = some (.slice e)) (hi : P.info? e = some i) (h1 : i.size = 1) (g o n cap : Nat) (cur : List Value) (x : Value) (m : Nat) (news : List Value) (hs : Src P i.size tx x m news w)
    (hg : w.heap[g]? = some (.cells cur.toArray e (0, 0))) (hroom : n + m ≤ cap) (hl : o + cap ≤ cur.length) :
    (Builtin.append_ #[t, tx] ty #[.slice (some ⟨g, o, none⟩) n cap, x]).run P w = .ok (.slice (some ⟨g, o, none⟩) (n + m) cap) (w.setRow g (cur.take (o + n) ++ news ++ cur.drop (o + n + news.length)).toArray) := by
  have hnl : news.length = m := by have := hs.newsLen; rw [h1, Nat.mul_one] at this; exact this
  have hst := run_storeCells_at P g (o + n) e news 0 cur.toArray w hg (by simp; omega) hs.one
  simp only [Nat.add_zero] at hst
  have hc := hs.cells
  rw [h1] at hc
  rcases hs.kind with ⟨e', hk⟩ | hk <;> simp [Builtin.append_, run_underlying ht, run_underlying hk, sizeOf, typeInfo, hi, hs.len, hroom, hc, Addr.add_lit, hst, h1]
/-- append onto a slice of one's own, wherever it begins. -/
theorem run_appendO {P : Program} {E : World} {Γ : List HP} {w : World} (hS : Sat E Γ w) {t tx ty e : TypeId} {v x : Value} {n m : Nat} {cs news : List Value} {r r' : TR} (i : Nat) (hi : Γ[i]? = some (ownO e v n cs)) (ht : TabOk P t r) (hq : r.und = .slice e) (ht' : TabOk P e r')
    (hsz : r'.size = 1) (hzs : r'.zero.cells.size = r'.size) (hs : Src P r'.size tx x m news w) (hb : (n + m) * r'.bytes ≤ 140737488355328) (h63 : n + m ≤ maxLen) :
    ∃ A' c' w', n + m ≤ c' ∧ Sat E (Γ.set i (ownO e (.slice A' (n + m) c') (n + m) (cs ++ news))) w' ∧ (Builtin.append_ #[t, tx] ty #[v, x]).run P w = .ok (.slice A' (n + m) c') w' := by
  have hu : P.underlying t = some (.slice e) := by rw [← hq]; exact ht.1
  obtain ⟨_, inf, hinf, h2, h3, hz⟩ := id ht'
  have hnl : news.length = m := by have := hs.newsLen; rw [hsz, Nat.mul_one] at this; exact this
  have h63' : ((n + m : Nat) : Int) ≤ 9223372036854775807 := by unfold maxLen at h63; omega
  have grow : ∀ (A : Option Addr) (c : Nat), c < n + m → cs.length = n → (Builtin.firstCells inf.size n (.slice A n c)).run P w.drew = .ok cs.toArray w.drew →
      ∃ A' c' w', n + m ≤ c' ∧ Sat E (Γ.set i (ownO e (.slice A' (n + m) c') (n + m) (cs ++ news))) w' ∧ (Builtin.append_ #[t, tx] ty #[.slice A n c, x]).run P w = .ok (.slice A' (n + m) c') w' := by
    intro A c hc hcl hold
    have hrun := run_append_grow_src (P := P) w t tx ty e inf r'.zero hu hinf hz A n c cs hold x m news (by rw [h2]; exact hs) hc h63' (growslice_fits hc (by rw [h3]; exact hb))
    have hge := grownCap_ge w (n + m) c e
    have hlm := grownCap_le_maxLen w (n + m) c e h63
    refine ⟨_, _, _, hge, ?_, hrun⟩
    refine Sat.into hi ?_
    refine (hS.drew.alloc _).imp fun m' hm' => ?_
    refine sep_mono hm' (fun q hq => own_ownO ?_) (fun _ => id)
    refine ⟨by simp [hcl, hnl], .inr ⟨_, _, (cs ++ news) ++ (Builtin.zeroCells r'.zero.cells (grownCap w (n + m) c e - (n + m))).toList, rfl, hge, hlm, ?_, ?_, ?_⟩⟩
    · rw [List.length_append, List.length_append, size_zeroCells', hcl, hnl, hzs, hsz]
      omega
    · rw [Nat.mul_one, show n + m = (cs ++ news).length by simp [hcl, hnl], List.take_left']
      rfl
    · have e1 : ((cs ++ news) ++ (Builtin.zeroCells r'.zero.cells (grownCap w (n + m) c e - (n + m))).toList).toArray = (cs ++ news).toArray ++ Builtin.zeroCells r'.zero.cells (grownCap w (n + m) c e - (n + m)) := by simp
      show pt _ _ q
      rw [e1]
      exact hq
  obtain ⟨m0, hm0, hw0⟩ := hS.mem
  obtain ⟨a0, b0, hd0, rfl, ⟨hcl, hcase⟩, hb0⟩ := all_front hi hm0
  rcases hcase with ⟨rfl, rfl, hemp⟩ | ⟨g, o, cap, cur, rfl, hn, hoc, hcl2, htk, hrow⟩
  · have hcs : cs = [] := by simpa using hcl
    subst hcs
    rcases Nat.eq_zero_or_pos m with rfl | hm
    · have hnn : news = [] := by simpa using hnl
      subst hnn
      refine ⟨none, 0, w, by omega, ?_, ?_⟩
      · obtain ⟨h7, h8⟩ := List.getElem?_eq_some_iff.1 hi
        have h9 : Γ.set i (ownO e (.slice none (0 + 0) 0) (0 + 0) ([] ++ [])) = Γ := by
          show Γ.set i (ownO e (.slice none 0 0) 0 []) = Γ
          conv => lhs; rw [← h8]
          exact List.set_getElem_self h7
        rw [h9]; exact hS
      · have hsc := hs.cells
        rcases hs.kind with ⟨e', hk⟩ | hk <;> simp [Builtin.append_, run_underlying hu, run_underlying hk, sizeOf, typeInfo, hinf, hs.len, h2, hsc]
    · exact grow none 0 (by omega) (by simp) (run_firstCells_none w.drew inf.size 0 0 0)
  · have hblk : w.heap[g]? = some (.cells cur.toArray e (0, 0)) := hw0 g _ (Mem.sub_left a0 b0 g _ (by rw [hrow g]; simp))
    rcases Nat.lt_or_ge cap (n + m) with hc | hc
    · refine grow _ _ hc hcl (run_firstCells_some w.drew inf.size n _ n cap cs (by rw [h2, hsz, Nat.mul_one]; exact hcl) fun j u hj => ?_)
      rw [add_at]
      rw [← htk] at hj
      simp [List.getElem?_take] at hj
      rw [World.cell?_drew]
      simp [World.cell?, hblk, hj.2]
    · have hrun := run_append_room_O (P := P) w t tx ty e inf hu hinf (by omega) g o n cap cur x m news (by rw [h2]; exact hs) hblk hc hoc
      refine ⟨_, _, _, hc, ?_, hrun⟩
      obtain ⟨cur2, ⟨hcur2, hlm2, htk2⟩, hS3⟩ := hS.at hi (X := List Value) (φ := fun l => o + cap ≤ l.length ∧ l.length ≤ maxLen ∧ (l.drop o).take n = cs) (K := fun l => row g l e) (fun m hm => by
        obtain ⟨_, ⟨hv, _⟩ | ⟨g', o', cap', cur', hv, _, hl', hm', ht', hr'⟩⟩ := hm
        · cases hv
        · injection hv with hv1 _ hv2
          injection hv1 with hv1
          injection hv1 with hv1 hv3
          subst hv1; subst hv2; subst hv3
          exact ⟨cur', ⟨hl', hm', ht'⟩, hr'⟩)
      have hrow3 : (Γ.set i (row g cur2 e))[i]? = some (row g cur2 e) := by
        have := (List.getElem?_eq_some_iff.1 hi).1
        simp [this]
      have hblk2 := hS3.block hrow3
      have hcc : cur2 = cur := by
        rw [hblk] at hblk2
        injection hblk2 with hblk2
        injection hblk2 with hblk2 _ _
        simpa using hblk2.symm
      subst hcc
      have hput := hS3.put (w' := w.setRow g (cur2.take (o + n) ++ news ++ cur2.drop (o + n + news.length)).toArray) hrow3 rfl rfl rfl (setRow_heap w g _ _ e _ hblk) (fun k hk q hq => (setRow_other w g _ k hk).trans hq)
      simp only [List.set_set] at hput
      have hset : (Γ.set i (pt g (.cells (cur2.take (o + n) ++ news ++ cur2.drop (o + n + news.length)).toArray e (0, 0))))[i]? = some (pt g (.cells (cur2.take (o + n) ++ news ++ cur2.drop (o + n + news.length)).toArray e (0, 0))) := by
        have := (List.getElem?_eq_some_iff.1 hi).1
        simp [this]
      have := hput.imp fun m' hm' => all_set (K := ownO e (.slice (some ⟨g, o, none⟩) (n + m) cap) (n + m) (cs ++ news)) hset (fun q hq => ⟨by simp [hcl, hnl], .inr ⟨g, o, cap, _, rfl, hc, ?_, ?_, ?_, hq⟩⟩) hm'
      · simpa only [List.set_set] using this
      · simp only [List.length_append, List.length_take, List.length_drop]; omega
      · simp only [List.length_append, List.length_take, List.length_drop]; omega
      · have h8 : (cur2.take (o + n)).drop o = cs := by rw [List.drop_take, Nat.add_sub_cancel_left]; exact htk
        rw [List.append_assoc, List.drop_append_of_le_length (by rw [List.length_take]; omega), h8, ← List.append_assoc, show n + m = (cs ++ news).length by simp [hcl, hnl]]
        exact List.take_left' rfl
section
variable {cx : Cx} {ops : Array Oper} {K : Act → World → Prop} {rest : List Oper} {ρ : Env} {ds : List Deferred} {Γ : List HP} {d : Nat} {ty : TypeId} {pos : String} {after : Array Edge}
theorem TL.appendO {t e : TypeId} {x y : Operand} {v : Value} {A : Option Addr} {n m c : Nat} {cs news : List Value} {r r' : TR} (i : Nat) (hi : Γ[i]? = some (ownO e v n cs)) (hd : Nat.blt d cx.n = true) (ht : TabOk cx.P t r) (hq : r.und = .slice e) (ht' : TabOk cx.P e r') (hsz : (r'.size == 1) = true)
    (hzs : (r'.zero.cells.size == r'.size) = true) (ea : ev ρ x = v) (eb : ev ρ y = .slice A m c) (hs : has Γ (srcAt 1 A m news)) (h1 : ∀ u ∈ news, u.oneCell' = true) (hb : (n + m) * r'.bytes ≤ 140737488355328) (h63 : n + m ≤ maxLen) {Δ : Value → List HP} (hΔ : ∀ v, Γ.set i (ownO e v (n + m) (cs ++ news)) = Δ v)
    (h : ∀ A' c', n + m ≤ c' → TL cx ops K rest ((d, .slice A' (n + m) c') :: ρ) ds (Δ (.slice A' (n + m) c'))) : TL cx ops K (⟨some d, .call ⟨.builtin .append, #[x, y], #[t, t]⟩, ty, pos, after, none⟩ :: rest) ρ ds Γ :=
  .act (X := Option Addr × Nat) (φ := fun p => n + m ≤ p.2) (v := fun p => .slice p.1 (n + m) p.2) (Δ := fun p => Γ.set i (ownO e (.slice p.1 (n + m) p.2) (n + m) (cs ++ news))) hd (fun w hS => by
    have hsz' : r'.size = 1 := by simpa using hsz
    obtain ⟨A', c', w', h5, h6, h7⟩ := run_appendO (P := cx.P) (ty := ty) hS i hi ht hq ht' hsz' (by simpa using hzs) (src_of hS (tx := t) (e' := e) (c := c) (by rw [← hq]; exact ht.1) (by omega) (by rw [hsz']; exact hs) h1) hb h63
    exact ⟨(A', c'), w', h5, h6, by simp [execOp, resolve, invoke, builtin, ea, eb, h7]⟩) (fun p hp => by rw [hΔ]; exact h p.1 p.2 hp)
/-- append(s, make(.., k)...) where there is no room: a new row; the old one stays. -/
theorem TL.appZgrow {t tn e : TypeId} {x y : Operand} {A : Option Addr} {c n k s : Nat} {cs cs' : List Value} {kq kn : IntKind} {r r' rn : TR} (hd : Nat.blt d cx.n = true) (ht : TabOk cx.P t r) (hq : r.und = .slice e) (ht' : TabOk cx.P e r') (htn : TabOk cx.P tn rn) (hqn : rn.und = .int kn) (hsz : r'.size = 1) (hbt : r'.bytes ≤ 16) (hz : r'.zero.cells = #[r'.zero])
    (ea : ev ρ x = .slice A n c) (eb : ev ρ y = .int kq (k : Int)) (hs : has Γ (srcAt 1 A n cs)) (hk : 0 < k) (hc : c < n + k) (hlim : n + k ≤ 1099511627776) (hnk : n + k = s) (hcs : cs ++ List.replicate k r'.zero = cs')
    (h : ∀ g c' cur, s ≤ c' → c' ≤ maxLen → cur.length = c' → cur.take s = cs' → TL cx ops K rest ((d, .slice (some ⟨g, 0, none⟩) s c') :: ρ) ds (row g cur e :: Γ)) : TL cx ops K (⟨some d, .call ⟨.builtin .append, #[x, y], #[t, tn]⟩, ty, pos, after, none⟩ :: rest) ρ ds Γ := by
  subst hnk; subst hcs
  refine .mem fun m0 hm0 => ?_
  have hcl : cs.length = n := by have := (hs m0 hm0).1; omega
  refine .act (X := Nat × Nat) (φ := fun p => n + k ≤ p.2 ∧ p.2 ≤ maxLen) (v := fun p => .slice (some ⟨p.1, 0, none⟩) (n + k) p.2) (Δ := fun p => row p.1 (cs ++ List.replicate (p.2 - n) r'.zero) e :: Γ) hd (fun w hS => ?_) (fun p hp => ?_)
  · have hu : cx.P.underlying t = some (.slice e) := by rw [← hq]; exact ht.1
    have hun : cx.P.underlying tn = some (.int kn) := by rw [← hqn]; exact htn.1
    obtain ⟨_, inf, hinf, h2, h3, hzi⟩ := id ht'
    have hs1 : inf.size = 1 := by omega
    have hbi : inf.bytes ≤ 16 := by omega
    have hkb : k * inf.bytes ≤ 1099511627776 * 16 := Nat.mul_le_mul (by omega) hbi
    have hnb : (n + k) * inf.bytes ≤ 1099511627776 * 16 := Nat.mul_le_mul hlim hbi
    have hold : (Builtin.firstCells inf.size n (.slice A n c)).run cx.P w.drew = .ok cs.toArray w.drew := by
      obtain ⟨_, _, mm, hmm, hw⟩ := id hS
      rcases (hs mm hmm).2 with h6 | ⟨b, o, hA, hcl2⟩
      · subst h6
        have hn0 : n = 0 := by simpa using hcl.symm
        subst hn0
        cases A with
        | none => exact run_firstCells_none w.drew inf.size 0 0 c
        | some a => exact run_firstCells_some w.drew inf.size 0 a 0 c [] (by simp) fun j u hj => by simp at hj
      · subst hA
        refine run_firstCells_some w.drew inf.size n _ n c cs (by rw [hs1, Nat.mul_one]; exact hcl) fun j u hj => ?_
        rw [add_at, World.cell?_drew]
        obtain ⟨c2, e2, fr2, hb2, hv2⟩ := hcl2 j u hj
        have := hw _ _ hb2
        simp [World.cell?, this, hv2]
    have hrun := Go.Lib.run_append_grow_zeros (P := cx.P) w t tn ty e inf r'.zero kq kn hu hun hinf hzi A n c cs hold k hk (by omega) hc (by omega) (by omega) (growslice_fits hc (by omega))
    have hge := grownCap_ge w (n + k) c e
    have h63 := grownCap_le_maxLen w (n + k) c e (by unfold maxLen; omega)
    refine ⟨(w.heap.size, grownCap w (n + k) c e), w.drew.alloc (.cells (cs.toArray ++ Builtin.zeroCells r'.zero.cells k ++ Builtin.zeroCells r'.zero.cells (grownCap w (n + k) c e - (n + k))) e), ⟨hge, h63⟩, ?_, by
      simp only [execOp, resolve, invoke, builtin, List.map_toArray, List.map_cons, List.map_nil, ea, eb, Sem.run_bind, Sem.run_pure, Result.andThen_ok]
      rw [hrun]
      rfl⟩
    refine (hS.drew.alloc _).imp fun m' hm' => ?_
    refine sep_mono hm' (fun q hq => ?_) (fun _ => id)
    have e1 : cs.toArray ++ Builtin.zeroCells r'.zero.cells k ++ Builtin.zeroCells r'.zero.cells (grownCap w (n + k) c e - (n + k)) = (cs ++ List.replicate (grownCap w (n + k) c e - n) r'.zero).toArray := by
      rw [zeros_one hz, zeros_one hz]
      simp only [List.append_toArray, List.append_assoc, List.replicate_append_replicate]
      rw [show k + (grownCap w (n + k) c e - (n + k)) = grownCap w (n + k) c e - n by omega]
    rw [e1] at hq
    exact hq
  · refine h p.1 p.2 _ hp.1 hp.2 (by simp [hcl]; have := hp.1; omega) ?_
    rw [List.take_append, hcl, List.take_of_length_le (by omega), Nat.add_sub_cancel_left, List.take_replicate, Nat.min_eq_left (by have := hp.1; omega)]
end
end Go.Proofs.Ytndmjpceocecdaa.E

/- MY OWN LAYER: a store into one cell of a slice of structs of one's own. P is a variable. -/
namespace Go.Proofs.Ytndmjpceocecdaa.E
open Go Go.RowKit
section
variable {cx : Cx} {ops : Array Oper} {K : Act → World → Prop} {rest : List Oper} {ρ : Env} {ds : List Deferred} {Γ : List HP} {ty : TypeId} {pos : String} {after : Array Edge}
theorem TL.storeOwnF {t e : TypeId} {x y : Operand} {b o' c n sz : Nat} {v : Value} {cs cs' : List Value} {r : TR} (i q : Nat) (hi : Γ[i]? = some (own e sz (.slice (some ⟨b, 0, none⟩) n c) n cs)) (ea : ev ρ x = .pointer (some ⟨b, o', none⟩)) (eb : ev ρ y = v) (h1 : v.oneCell' = true) (ht : TabOk cx.P t r) (hr1 : (r.size == 1) = true)
    (ho : o' = q) (hq : q < n * sz) (hcs : cs.set q v = cs') {Δ : List HP} (hΔ : Γ.set i (own e sz (.slice (some ⟨b, 0, none⟩) n c) n cs') = Δ) (h : TL cx ops K rest ρ ds Δ) : TL cx ops K (⟨none, .store t x y, ty, pos, after, none⟩ :: rest) ρ ds Γ := by
  subst hcs; subst hΔ
  refine TL.storeIn (e := e) i hi ea eb h1 ht hr1 (fun m hm => ?_) h
  obtain ⟨hcl, ⟨hv, _⟩ | ⟨g, cap, cur, hv, hn, hcap, hl, htk, hrow⟩⟩ := hm
  · cases hv
  · injection hv with hv1 _ hv2
    injection hv1 with hv1
    injection hv1 with hv1 hv3
    subst hv1; subst hv2; subst ho
    have hb2 : n * sz ≤ cur.length := by rw [hl]; exact Nat.mul_le_mul_right _ hn
    refine ⟨cur, emp, sep_emp hrow, by omega, fun m' hm' => ⟨by simpa using hcl, .inr ⟨b, c, cur.set o' v, rfl, hn, hcap, by simpa using hl, ?_, sep_of_emp hm'⟩⟩⟩
    rw [← htk, List.take_set]
/-- The rest of a region, whatever comes behind it. -/
theorem TL.cut {k : List Item} (I : Env → List HP → Prop) (hx : ∀ k', (∀ ρ' Γ', I ρ' Γ' → TK cx k' ρ' ds Γ') → TL cx ops (WP cx k') rest ρ ds Γ) (h : ∀ ρ' Γ', I ρ' Γ' → TK cx k ρ' ds Γ') : TL cx ops (WP cx k) rest ρ ds Γ := hx k h
end
/-- A cell of the j-th of a row of structs. -/
theorem set_flat {α : Type} (f : α → List Value) (sz : Nat) (hf : ∀ a, (f a).length = sz) (v : Value) (y : α) : ∀ (l : List α) (j k : Nat) (x : α), l[j]? = some x → k < sz → (f x).set k v = f y → (l.flatMap f).set (j * sz + k) v = (l.set j y).flatMap f
  | [], j, k, x, h, _, _ => by simp at h
  | a :: l, 0, k, x, h, hk, hy => by
    simp at h; subst h
    simp only [List.set_cons_zero, List.flatMap_cons, Nat.zero_mul, Nat.zero_add]
    rw [List.set_append_left _ _ (by rw [hf]; exact hk), hy]
  | a :: l, j + 1, k, x, h, hk, hy => by
    simp only [List.getElem?_cons_succ] at h
    simp only [List.set_cons_succ, List.flatMap_cons]
    rw [List.set_append_right _ _ (by rw [hf, Nat.succ_mul]; omega), hf, ← set_flat f sz hf v y l j k x h hk hy]
    congr 2
    rw [Nat.succ_mul]; omega
end Go.Proofs.Ytndmjpceocecdaa.E

/- MY OWN LAYER: numbers in memory; slices of slices of numbers, all of one's own. P is a variable. -/
namespace Go.Proofs.Ytndmjpceocecdaa.E
open Go Go.RowKit
abbrev ints (w : List Nat) : List Value := w.map fun n : Nat => Value.int .i64 (n : Int)
theorem ints_len (w : List Nat) : (ints w).length = w.length := by simp
theorem ints_one (w : List Nat) : ∀ u ∈ ints w, u.oneCell' = true := by
  intro u hu
  obtain ⟨n, _, rfl⟩ := List.mem_map.1 hu
  rfl
theorem has_ints {Γ : List HP} {b o n i x : Nat} {l : List Nat} (h : has Γ (srcAt 1 (some ⟨b, o, none⟩) n (ints l))) (hi : l[i]? = some x) : has Γ (fun m => cellAt m b (o + i) (.int .i64 (x : Int))) := fun m hm => by
  rcases (h m hm).2 with h | ⟨b', o', e, h⟩
  · have : l = [] := by simpa using h
    subst this; simp at hi
  · injection e with e; injection e with e1 e2 _
    subst e1; subst e2
    exact h i _ (by simp [hi])
/-- A slice of numbers of one's own, as an element of a slice. -/
structure Rw where
  A : Option Addr
  c : Nat
  w : List Nat
def Rw.v (r : Rw) : Value := .slice r.A r.w.length r.c
def Rw.h (e : Nat) (r : Rw) : HP := own e 1 r.v r.w.length (ints r.w)
theorem Rw.one (l : List Rw) : ∀ u ∈ l.map Rw.v, u.oneCell' = true := by
  intro u hu
  obtain ⟨r, _, rfl⟩ := List.mem_map.1 hu
  rfl
def rw0 : Rw := ⟨none, 0, []⟩
theorem alls_out {α : Type} {f : α → HP} {l : List α} {i : Nat} {x : α} {Γ : List HP} {m : Mem} (h : l[i]? = some x) (hm : all (alls f l :: Γ) m) : all (f x :: alls f (l.eraseIdx i) :: Γ) m := sep_assoc (sep_mono hm (fun _ h' => alls_get h h') (fun _ => id))
theorem alls_in {α : Type} {f : α → HP} {l : List α} {i : Nat} {x : α} (y : α) {Γ : List HP} {m : Mem} (h : l[i]? = some x) (hm : all (f y :: alls f (l.eraseIdx i) :: Γ) m) : all (alls f (l.set i y) :: Γ) m := sep_mono (sep_assoc' hm) (fun _ h' => alls_set h h') (fun _ => id)
theorem alls_snoc {α : Type} {f : α → HP} {l : List α} (y : α) {Γ : List HP} {m : Mem} (hm : all (f y :: alls f l :: Γ) m) : all (alls f (l ++ [y]) :: Γ) m := sep_mono (sep_assoc' hm) (fun _ h' => alls_append.2 (sep_mono (sep_comm h') (fun _ => id) (fun _ h => alls_one.2 h))) (fun _ => id)
theorem rws0 (e n : Nat) {m : Mem} (h : emp m) : alls (Rw.h e) (List.replicate n rw0) m := by
  induction n with
  | zero => exact h
  | succ n ih => exact ⟨m, fun _ => none, fun _ => .inr rfl, by funext k; simp [Mem.join], own_nil _ _ h, by
      have : m = fun _ => none := by funext k; exact h k
      rw [← this]; exact ih⟩
end Go.Proofs.Ytndmjpceocecdaa.E

/- MY OWN LAYER: append onto a slice that is only read and has no room; x[:n:n]; existential assertions. P is a variable. -/
namespace Go.Proofs.Ytndmjpceocecdaa.E
open Go Go.RowKit
theorem Fn.ex {α : Type} {P : Program} {f : FuncId} {args : List Value} {Γ : List HP} {H : α → HP} {R : Ending → List HP → Prop} (h : ∀ x, Fn P f args (H x :: Γ) R) : Fn P f args ((fun m => ∃ x, H x m) :: Γ) R := by
  intro E w hE
  obtain ⟨h1, h2, m1, ⟨a1, b1, hd, rfl, ⟨y, hy⟩, hb⟩, h3⟩ := hE
  exact h y E w ⟨h1, h2, _, ⟨a1, b1, hd, rfl, hy, hb⟩, h3⟩
theorem TK.ex {α : Type} {cx : Cx} {k : List Item} {ρ : Env} {ds : List Deferred} {Γ : List HP} {H : α → HP} (h : ∀ x, TK cx k ρ ds (H x :: Γ)) : TK cx k ρ ds ((fun m => ∃ x, H x m) :: Γ) := by
  intro a w hr hE
  obtain ⟨h1, h2, m1, ⟨a1, b1, hd, rfl, ⟨y, hy⟩, hb⟩, h3⟩ := hE
  exact h y a w hr ⟨h1, h2, _, ⟨a1, b1, hd, rfl, hy, hb⟩, h3⟩
theorem has_sublist {Γ Δ : List HP} {p : Mem → Prop} (hp : Up p) (hs : Γ.Sublist Δ) (h : has Γ p) : has Δ p := fun m hm => by
  obtain ⟨m', h1, h2⟩ := all_sub hs hm
  exact hp m' m h1 (h m' h2)
section
variable {cx : Cx} {ops : Array Oper} {k : Act → World → Prop} {rest : List Oper} {ρ : Env} {ds : List Deferred} {Γ : List HP} {d : Nat} {ty : TypeId} {pos : String} {after : Array Edge}
/-- append onto x[:n:n], with something behind. -/
theorem TL.appendF {t e : TypeId} {x y : Operand} {A B : Option Addr} {n m c z s : Nat} {cs news : List Value} {r r' : TR} (hd : Nat.blt d cx.n = true) (ht : TabOk cx.P t r) (hq : r.und = .slice e) (ht' : TabOk cx.P e r') (hz0 : r'.size = z) (hsz : Nat.blt 0 r'.size = true)
    (hzs : (r'.zero.cells.size == r'.size) = true) (ea : ev ρ x = .slice B n n) (hx : has Γ (srcAt z B n cs)) (eb : ev ρ y = .slice A m c) (hs : has Γ (srcAt z A m news)) (h1 : ∀ u ∈ news, u.oneCell' = true) (hm0 : 0 < m) (hb : (n + m) * r'.bytes ≤ 140737488355328) (h63 : n + m ≤ maxLen) (hnm : n + m = s)
    (h : ∀ A' c', s ≤ c' → TL cx ops k rest ((d, .slice A' s c') :: ρ) ds (own e z (.slice A' s c') s (cs ++ news) :: Γ)) : TL cx ops k (⟨some d, .call ⟨.builtin .append, #[x, y], #[t, t]⟩, ty, pos, after, none⟩ :: rest) ρ ds Γ := by
  subst hz0; subst hnm
  refine .act (X := Option Addr × Nat) (φ := fun p => n + m ≤ p.2) (v := fun p => .slice p.1 (n + m) p.2) (Δ := fun p => own e r'.size (.slice p.1 (n + m) p.2) (n + m) (cs ++ news) :: Γ) hd (fun w hS => ?_) (fun p hp => h p.1 p.2 hp)
  have hu : cx.P.underlying t = some (.slice e) := by rw [← hq]; exact ht.1
  obtain ⟨_, inf, hinf, h2, h3, hz⟩ := id ht'
  have hzs' : r'.zero.cells.size = r'.size := by simpa using hzs
  have hsrc := src_of hS (tx := t) (e' := e) (c := c) hu (by simpa using hsz) hs h1
  have hnl := hsrc.newsLen
  have h63' : ((n + m : Nat) : Int) ≤ 9223372036854775807 := by unfold maxLen at h63; omega
  have hold : (Builtin.firstCells inf.size n (.slice B n n)).run cx.P w.drew = .ok cs.toArray w.drew ∧ cs.length = n * r'.size := by
    obtain ⟨m0, hm0', hw0⟩ := hS.mem
    obtain ⟨hl, hcase⟩ := hx m0 hm0'
    refine ⟨?_, hl⟩
    rcases hcase with rfl | ⟨b, o, rfl, hat⟩
    · have hn0 : n = 0 := by
        have : n * r'.size = 0 := by simpa using hl.symm
        rcases Nat.mul_eq_zero.1 this with h | h
        · exact h
        · have : 0 < r'.size := by simpa using hsz
          omega
      subst hn0
      cases B with
      | none => exact run_firstCells_none w.drew inf.size 0 0 0
      | some a => exact run_firstCells_some w.drew inf.size 0 a 0 0 [] (by simp) (by simp)
    · refine run_firstCells_some w.drew inf.size n _ n n cs (by rw [h2]; exact hl) fun j u hj => ?_
      rw [add_at, World.cell?_drew]
      exact hS.cell (has_imp hx fun m1 hm1 => by
        rcases hm1.2 with h | ⟨b', o', e', h⟩
        · rw [h] at hj; simp at hj
        · injection e' with e'; injection e' with e1 e2 _
          subst e1; subst e2
          exact h j u hj)
  have hcl := hold.2
  have hrun := run_append_grow_src (P := cx.P) w t t ty e inf r'.zero hu hinf hz B n n cs hold.1 (.slice A m c) m news (by rw [h2]; exact hsrc) (by omega) h63' (growslice_fits (by omega) (by rw [h3]; exact hb))
  refine ⟨(some ⟨w.heap.size, 0, none⟩, grownCap w (n + m) n e), _, grownCap_ge w (n + m) n e, ?_, by
    simp only [execOp, resolve, invoke, builtin, List.map_toArray, List.map_cons, List.map_nil, ea, eb, Sem.run_bind, Sem.run_pure, Result.andThen_ok]
    rw [hrun]
    rfl⟩
  refine (hS.drew.alloc _).imp fun m' hm' => ?_
  refine sep_mono hm' (fun q hq => ?_) (fun _ => id)
  refine ⟨by simp [hcl, hnl, Nat.add_mul], .inr ⟨_, _, (cs ++ news) ++ (Builtin.zeroCells r'.zero.cells (grownCap w (n + m) n e - (n + m))).toList, rfl, grownCap_ge w (n + m) n e, grownCap_le_maxLen w _ _ e h63, ?_, ?_, ?_⟩⟩
  · rw [List.length_append, List.length_append, size_zeroCells', hcl, hnl, hzs', ← Nat.add_mul, ← Nat.add_mul]
    congr 1
    have := grownCap_ge w (n + m) n e
    omega
  · have : (n + m) * r'.size = (cs ++ news).length := by simp [hcl, hnl, Nat.add_mul]
    rw [this, List.take_left']
    rfl
  · have e1 : ((cs ++ news) ++ (Builtin.zeroCells r'.zero.cells (grownCap w (n + m) n e - (n + m))).toList).toArray = (cs ++ news).toArray ++ Builtin.zeroCells r'.zero.cells (grownCap w (n + m) n e - (n + m)) := by simp
    show pt _ _ q
    rw [e1]
    exact hq
/-- x[:n:n]. -/
theorem PV.sliceC {P : Program} {S : World → Prop} {t e : TypeId} {x y y' : Operand} {A : Option Addr} {n c : Nat} {q q' : IntKind} {r r' : TR} (ea : ev ρ x = .slice A n c) (ht : TabOk P t r) (hq : r.und = .slice e) (ht' : TabOk P e r') (e1 : ev ρ y = .int q (n : Int)) (e2 : ev ρ y' = .int q' (n : Int)) (hc : n ≤ c) :
    PV P ρ S ⟨some d, .slice t x none (some y) (some y'), ty, pos, after, none⟩ (.slice A n n) := fun w _ => by
  have h3 : (0 : Int) ≤ (n : Int) := by omega
  cases A <;> simp [execOp, Instr.sliceAt, Instr.slice, Instr.sliceBounds, Instr.sliceBound, asIntOf, ea, e1, e2, ht.run_und, hq, ht'.run_size, h3, hc]
  rename_i a
  intro _
  cases a
  simp [Addr.add]
end
end Go.Proofs.Ytndmjpceocecdaa.E

/- Parts of a graph, plainly: going in depth keeps what is known of who comes to whom. -/
namespace Go.Proofs.Ytndmjpceocecdaa.E.Gph
/-- A node comes to another one. -/
inductive Rc (E : Nat → Nat → Prop) : Nat → Nat → Prop
  | refl (v : Nat) : Rc E v v
  | step {u v w : Nat} : Rc E u v → E v w → Rc E u w
theorem Rc.trans {E : Nat → Nat → Prop} {u v w : Nat} (h : Rc E u v) (k : Rc E v w) : Rc E u w := by
  induction k with
  | refl => exact h
  | step _ e ih => exact ih.step e
theorem Rc.one {E : Nat → Nat → Prop} {u v : Nat} (e : E u v) : Rc E u v := (Rc.refl u).step e
/-- Whatever is closed under edges holds all that its nodes come to. -/
theorem Rc.closed {E : Nat → Nat → Prop} {C : Nat → Prop} (hC : ∀ u v, C u → E u v → C v) {u v : Nat} (h : Rc E u v) (hu : C u) : C v := by
  induction h with
  | refl => exact hu
  | step _ e ih => exact hC _ _ ih e
def Edge (out : List (List Nat)) (v w : Nat) : Prop := w ∈ out.getD v []
/-- What the finder has. -/
structure Ts where
  seen : List (Nat × Nat)
  held : List Nat
  of : List (Option Nat)
  parts : List (List Nat)
  order : Nat
  todo : List (Nat × Nat)
def Ts.ord (s : Ts) (v : Nat) : Nat := (s.seen.getD v (0, 0)).1
def Ts.low (s : Ts) (v : Nat) : Nat := (s.seen.getD v (0, 0)).2
def Ts.pt (s : Ts) (v : Nat) : Option Nat := s.of.getD v none
def Ts.gray (s : Ts) : List Nat := s.todo.map (·.1)
/-- The edge from y to w has been gone. -/
def Ts.Dn (out : List (List Nat)) (s : Ts) (y w : Nat) : Prop := (y ∉ s.gray ∧ Edge out y w) ∨ ∃ i j, (y, i) ∈ s.todo ∧ j < i ∧ (out.getD y [])[j]? = some w
structure Inv (out : List (List Nat)) (s : Ts) : Prop where
  ok : ∀ v w, Edge out v w → w < out.length
  lseen : s.seen.length = out.length
  lof : s.of.length = out.length
  hiff : ∀ v, v ∈ s.held ↔ s.ord v ≠ 0 ∧ s.pt v = none
  hsort : s.held.Pairwise (fun a b => s.ord a < s.ord b)
  hord : ∀ v, s.ord v ≤ s.order
  tsub : s.gray.Sublist s.held
  tnext : ∀ x ∈ s.todo, x.2 ≤ (out.getD x.1 []).length
  ptseen : ∀ v k, s.pt v = some k → s.ord v ≠ 0
  ptiff : ∀ v k, s.pt v = some k ↔ ∃ p, s.parts[k]? = some p ∧ v ∈ p
  pscc : ∀ p ∈ s.parts, p.Pairwise (· < ·) ∧ p ≠ [] ∧ ∀ v ∈ p, ∀ u, u ∈ p ↔ Rc (Edge out) v u ∧ Rc (Edge out) u v
  closed : ∀ v k w, s.pt v = some k → Edge out v w → ∃ j, j ≤ k ∧ s.pt w = some j
  gr : ∀ v ∈ s.gray, ∀ y ∈ s.held, s.ord v ≤ s.ord y → Rc (Edge out) v y
  bk : ∀ y ∈ s.held, ∃ v ∈ s.gray, s.ord v ≤ s.ord y ∧ Rc (Edge out) y v
  lo : ∀ v ∈ s.gray, s.low v ≤ s.ord v ∧ ∃ u ∈ s.held, s.ord u = s.low v ∧ Rc (Edge out) v u
  dseen : ∀ y ∈ s.held, ∀ w, s.Dn out y w → s.ord w ≠ 0
  dlow : ∀ v ∈ s.gray, ∀ y ∈ s.held, s.ord v ≤ s.ord y → (∀ v' ∈ s.gray, s.ord v < s.ord v' → s.ord y < s.ord v') → ∀ w ∈ s.held, s.Dn out y w → s.low v ≤ s.ord w
variable {out : List (List Nat)} {s : Ts}
theorem getD_set {α : Type} (l : List α) (v : Nat) (x d : α) (hv : v < l.length) (u : Nat) : (l.set v x).getD u d = if u = v then x else l.getD u d := by
  simp only [List.getD_eq_getElem?_getD, List.getElem?_set]
  by_cases h : v = u
  · subst h; simp [hv]
  · rw [if_neg h, if_neg (fun e => h e.symm)]
theorem Inv.lt (h : Inv out s) {v : Nat} (hv : s.ord v ≠ 0) : v < out.length := by
  rw [← h.lseen]
  apply Classical.byContradiction
  intro hc
  apply hv
  unfold Ts.ord
  rw [List.getD_eq_getElem?_getD, List.getElem?_eq_none (by omega)]
  rfl
theorem pw_inj {f : Nat → Nat} : ∀ {l : List Nat}, l.Pairwise (fun a b => f a < f b) → ∀ {x y : Nat}, x ∈ l → y ∈ l → f x = f y → x = y
  | [], _, _, _, h, _, _ => by cases h
  | a :: l, hp, x, y, hx, hy, e => by
    rw [List.pairwise_cons] at hp
    rcases List.mem_cons.1 hx with hx1 | hx1 <;> rcases List.mem_cons.1 hy with hy1 | hy1
    · rw [hx1, hy1]
    · have := hp.1 _ hy1; rw [← hx1] at this; omega
    · have := hp.1 _ hx1; rw [← hy1] at this; omega
    · exact pw_inj hp.2 hx1 hy1 e
theorem Inv.inj (h : Inv out s) {x y : Nat} (hx : x ∈ s.held) (hy : y ∈ s.held) (e : s.ord x = s.ord y) : x = y := pw_inj h.hsort hx hy e
theorem Inv.gmem (h : Inv out s) {x : Nat} (hx : x ∈ s.gray) : x ∈ s.held := h.tsub.subset hx
/-- The last one that is gone through is behind all others. -/
theorem Inv.top (h : Inv out s) {T : List (Nat × Nat)} {a i : Nat} (ht : s.todo = T ++ [(a, i)]) : a ∈ s.gray ∧ (∀ g ∈ T.map (·.1), s.ord g < s.ord a ∧ g ∈ s.gray) ∧ (∀ g ∈ s.gray, g = a ∨ g ∈ T.map (·.1)) ∧ ∀ g ∈ s.gray, s.ord g ≤ s.ord a := by
  have hg : s.gray = T.map (·.1) ++ [a] := by unfold Ts.gray; rw [ht]; simp
  have hp := h.hsort.sublist h.tsub
  rw [hg, List.pairwise_append] at hp
  have h2 : ∀ g ∈ s.gray, g = a ∨ g ∈ T.map (·.1) := fun g hgm => by
    rw [hg] at hgm
    rcases List.mem_append.1 hgm with h | h
    · exact .inr h
    · exact .inl (List.mem_singleton.1 h)
  have h1 : ∀ g ∈ T.map (·.1), s.ord g < s.ord a ∧ g ∈ s.gray := fun g hgm => ⟨hp.2.2 g hgm a (List.mem_singleton_self a), by rw [hg]; exact List.mem_append_left _ hgm⟩
  refine ⟨by rw [hg]; simp, h1, h2, fun g hgm => ?_⟩
  rcases h2 g hgm with rfl | h
  · exact Nat.le_refl _
  · exact Nat.le_of_lt (h1 g h).1
theorem Inv.nodup (h : Inv out s) : s.gray.Nodup := (h.hsort.sublist h.tsub).imp fun {a b} hab e => by rw [e] at hab; exact Nat.lt_irrefl _ hab
/-- Each held node comes to each that is held behind it. -/
theorem Inv.on (h : Inv out s) {x y : Nat} (hx : x ∈ s.held) (hy : y ∈ s.held) (hl : s.ord x ≤ s.ord y) : Rc (Edge out) x y := by
  obtain ⟨v, hv, h1, h2⟩ := h.bk x hx
  exact h2.trans (h.gr v hv y hy (Nat.le_trans h1 hl))
def Ts.enter (s : Ts) (v : Nat) (T : List (Nat × Nat)) : Ts := ⟨s.seen.set v (s.order + 1, s.order + 1), s.held ++ [v], s.of, s.parts, s.order + 1, T ++ [(v, 0)]⟩
theorem Inv.enter (h : Inv out s) {v : Nat} {T : List (Nat × Nat)} (hv : v < out.length) (hu : s.ord v = 0) (hT : T.map (·.1) = s.gray)
    (hn : ∀ x ∈ T, x.2 ≤ (out.getD x.1 []).length) (hE : ∀ g ∈ s.gray, Rc (Edge out) g v)
    (hD : ∀ x ∈ T, ∀ j, j < x.2 → ∀ w, (out.getD x.1 [])[j]? = some w → w = v ∨ ∃ i, (x.1, i) ∈ s.todo ∧ j < i) : Inv out (s.enter v T) := by
  have hvs : v < s.seen.length := by rw [h.lseen]; exact hv
  have ho : ∀ u, (s.enter v T).ord u = if u = v then s.order + 1 else s.ord u := fun u => by
    unfold Ts.ord Ts.enter
    simp only [getD_set _ _ _ _ hvs]
    split <;> rfl
  have hlw : ∀ u, (s.enter v T).low u = if u = v then s.order + 1 else s.low u := fun u => by
    unfold Ts.low Ts.enter
    simp only [getD_set _ _ _ _ hvs]
    split <;> rfl
  have hpt : ∀ u, (s.enter v T).pt u = s.pt u := fun u => rfl
  have hgr : (s.enter v T).gray = s.gray ++ [v] := by unfold Ts.gray Ts.enter; simp only [List.map_append, List.map_cons, List.map_nil]; rw [hT]; rfl
  have hvh : v ∉ s.held := fun hm => ((h.hiff v).1 hm).1 hu
  have hvp : s.pt v = none := by
    cases hp : s.pt v with
    | none => rfl
    | some k => exact absurd hu (h.ptseen v k hp)
  have hne : ∀ u ∈ s.held, u ≠ v := fun u hm e => hvh (e ▸ hm)
  have hoh : ∀ u ∈ s.held, (s.enter v T).ord u = s.ord u := fun u hm => by rw [ho, if_neg (hne u hm)]
  have hov : (s.enter v T).ord v = s.order + 1 := by rw [ho, if_pos rfl]
  have hheld : (s.enter v T).held = s.held ++ [v] := rfl
  have hDn : ∀ y w, y ≠ v → (s.enter v T).Dn out y w → s.Dn out y w ∨ w = v := fun y w hy hd => by
    rcases hd with ⟨h1, h2⟩ | ⟨i, j, h1, h2, h3⟩
    · exact .inl (.inl ⟨fun hg => h1 (by rw [hgr]; exact List.mem_append_left _ hg), h2⟩)
    · rcases List.mem_append.1 (show (y, i) ∈ T ++ [(v, 0)] from h1) with hm | hm
      · rcases hD _ hm j h2 w h3 with rfl | ⟨i', h4, h5⟩
        · exact .inr rfl
        · exact .inl (.inr ⟨i', j, h4, h5, h3⟩)
      · rw [List.mem_singleton] at hm
        exact absurd (congrArg Prod.fst hm) hy
  have hDv : ∀ w, ¬ (s.enter v T).Dn out v w := fun w hd => by
    rcases hd with ⟨h1, _⟩ | ⟨i, j, h1, h2, _⟩
    · exact h1 (by rw [hgr]; simp)
    · rcases List.mem_append.1 (show (v, i) ∈ T ++ [(v, 0)] from h1) with hm | hm
      · exact hvh (h.gmem (by rw [← hT]; exact List.mem_map_of_mem (f := (·.1)) hm))
      · rw [List.mem_singleton] at hm
        have := congrArg Prod.snd hm
        simp only at this
        omega
  refine ⟨h.ok, by simp [Ts.enter, h.lseen], h.lof, fun u => ?_, ?_, fun u => ?_, ?_, fun x hx => ?_, fun u k hk => ?_, h.ptiff, h.pscc, h.closed, fun g hg y hy hl => ?_, fun y hy => ?_, fun g hg => ?_, fun y hy w hd => ?_, fun g hg y hy hl hs w hw hd => ?_⟩
  · rw [hheld, List.mem_append, List.mem_singleton, ho, hpt, h.hiff]
    by_cases he : u = v
    · subst he; simp [hvp]
    · simp [he]
  · rw [hheld, List.pairwise_append]
    refine ⟨h.hsort.imp_of_mem fun {a b} ha hb hab => by rw [hoh a ha, hoh b hb]; exact hab, List.pairwise_singleton _ _, fun a ha b hb => ?_⟩
    rw [List.mem_singleton] at hb
    subst hb
    rw [hoh a ha, hov]
    have := h.hord a
    omega
  · rw [ho]
    have := h.hord u
    split
    · exact Nat.le_refl _
    · show _ ≤ s.order + 1; omega
  · rw [hgr, hheld]
    exact h.tsub.append (List.Sublist.refl _)
  · rcases List.mem_append.1 (show x ∈ T ++ [(v, 0)] from hx) with hm | hm
    · exact hn x hm
    · rw [List.mem_singleton] at hm; subst hm; exact Nat.zero_le _
  · rw [ho]
    split
    · omega
    · exact h.ptseen u k hk
  · rw [hheld, List.mem_append, List.mem_singleton] at hy
    rw [hgr, List.mem_append, List.mem_singleton] at hg
    rcases hg with hg | rfl
    · rcases hy with hy | rfl
      · rw [hoh g (h.gmem hg), hoh y hy] at hl
        exact h.gr g hg y hy hl
      · exact hE g hg
    · rcases hy with hy | rfl
      · rw [hov, hoh y hy] at hl
        have := h.hord y
        omega
      · exact .refl _
  · rw [hheld, List.mem_append, List.mem_singleton] at hy
    rcases hy with hy | rfl
    · obtain ⟨g, hg, h1, h2⟩ := h.bk y hy
      exact ⟨g, by rw [hgr]; exact List.mem_append_left _ hg, by rw [hoh g (h.gmem hg), hoh y hy]; exact h1, h2⟩
    · exact ⟨y, by rw [hgr]; simp, Nat.le_refl _, .refl _⟩
  · rw [hgr, List.mem_append, List.mem_singleton] at hg
    rcases hg with hg | rfl
    · obtain ⟨h1, u, hum, h2, h3⟩ := h.lo g hg
      have hgv := hne g (h.gmem hg)
      rw [hlw, if_neg hgv, hoh g (h.gmem hg)]
      exact ⟨h1, u, by rw [hheld]; exact List.mem_append_left _ hum, by rw [hoh u hum]; exact h2, h3⟩
    · rw [hlw, if_pos rfl, hov]
      exact ⟨Nat.le_refl _, g, by rw [hheld]; simp, hov, .refl _⟩
  · rw [hheld, List.mem_append, List.mem_singleton] at hy
    rcases hy with hy | rfl
    · rw [ho]
      split
      · omega
      · rename_i hwv
        rcases hDn y w (hne y hy) hd with hd | rfl
        · exact h.dseen y hy w hd
        · exact absurd rfl hwv
    · exact absurd hd (hDv w)
  · rw [hheld, List.mem_append, List.mem_singleton] at hy hw
    rw [hgr, List.mem_append, List.mem_singleton] at hg
    rcases hy with hy | rfl
    · rcases hg with hg | rfl
      · rw [hlw, if_neg (hne g (h.gmem hg))]
        rcases hw with hw | rfl
        · rw [hoh w hw]
          refine h.dlow g hg y hy (by rw [hoh g (h.gmem hg), hoh y hy] at hl; exact hl) (fun g' hg' hlt => ?_) w hw ?_
          · have := hs g' (by rw [hgr]; exact List.mem_append_left _ hg') (by rw [hoh g (h.gmem hg), hoh g' (h.gmem hg')]; exact hlt)
            rw [hoh y hy, hoh g' (h.gmem hg')] at this
            exact this
          · rcases hDn y w (hne y hy) hd with hd | rfl
            · exact hd
            · exact absurd rfl (hne w hw)
        · rw [hov]
          have h1 := (h.lo g hg).1
          have h2 := h.hord g
          omega
      · rw [hov, hoh y hy] at hl
        have := h.hord y
        omega
    · exact absurd hd (hDv w)
/-- Another node's edge is gone; the low of the one that is gone through may be less. -/
def Ts.lower (s : Ts) (a l : Nat) (T : List (Nat × Nat)) : Ts := ⟨s.seen.set a (s.ord a, l), s.held, s.of, s.parts, s.order, T⟩
theorem Ts.lower_self (s : Ts) {a : Nat} (T : List (Nat × Nat)) : s.lower a (s.low a) T = { s with todo := T } := by
  unfold Ts.lower Ts.ord Ts.low
  congr 1
  apply List.ext_getElem?
  intro i
  rw [List.getElem?_set]
  by_cases h : a = i
  · subst h
    by_cases hl : a < s.seen.length
    · simp [hl]
    · simp [hl]
  · rw [if_neg h]
theorem Ts.lower_ord (s : Ts) {a l : Nat} {T : List (Nat × Nat)} (ha : a < s.seen.length) (u : Nat) : (s.lower a l T).ord u = s.ord u := by
  unfold Ts.lower
  show ((s.seen.set a (s.ord a, l)).getD u (0, 0)).1 = _
  rw [getD_set _ _ _ _ ha]
  split
  · subst u; rfl
  · rfl
theorem Ts.lower_low (s : Ts) {a l : Nat} {T : List (Nat × Nat)} (ha : a < s.seen.length) (u : Nat) : (s.lower a l T).low u = if u = a then l else s.low u := by
  unfold Ts.lower
  show ((s.seen.set a (s.ord a, l)).getD u (0, 0)).2 = _
  rw [getD_set _ _ _ _ ha]
  split
  · rfl
  · rfl
/-- The edge to a node that is seen is gone. -/
theorem Inv.lower (h : Inv out s) {T : List (Nat × Nat)} {a i to l : Nat} (ht : s.todo = T ++ [(a, i)]) (he : (out.getD a [])[i]? = some to) (hs : s.ord to ≠ 0)
    (hl1 : l ≤ s.low a) (hl2 : l = s.low a ∨ (to ∈ s.held ∧ l = s.ord to)) (hl3 : to ∈ s.held → l ≤ s.ord to) : Inv out (s.lower a l (T ++ [(a, i + 1)])) := by
  obtain ⟨hag, hT1, hT2, _⟩ := h.top ht
  have hah := h.gmem hag
  have hal : a < s.seen.length := by rw [h.lseen]; exact h.lt ((h.hiff a).1 hah).1
  have ho := s.lower_ord (l := l) (T := T ++ [(a, i + 1)]) hal
  have hlw := s.lower_low (l := l) (T := T ++ [(a, i + 1)]) hal
  generalize hs' : s.lower a l (T ++ [(a, i + 1)]) = s' at *
  have hheld : s'.held = s.held := by rw [← hs']; rfl
  have hpt : ∀ u, s'.pt u = s.pt u := fun u => by rw [← hs']; rfl
  have hparts : s'.parts = s.parts := by rw [← hs']; rfl
  have htodo : s'.todo = T ++ [(a, i + 1)] := by rw [← hs']; rfl
  have hgr : s'.gray = s.gray := by unfold Ts.gray; rw [htodo, ht]; simp
  have hDn : ∀ y w, s'.Dn out y w → s.Dn out y w ∨ (y = a ∧ w = to) := fun y w hd => by
    rcases hd with ⟨h1, h2⟩ | ⟨i', j, h1, h2, h3⟩
    · exact .inl (.inl ⟨by rw [← hgr]; exact h1, h2⟩)
    · rw [htodo] at h1
      rcases List.mem_append.1 h1 with hm | hm
      · exact .inl (.inr ⟨i', j, by rw [ht]; exact List.mem_append_left _ hm, h2, h3⟩)
      · rw [List.mem_singleton] at hm
        injection hm with e1 e2
        subst e1; subst e2
        by_cases hj : j = i
        · subst hj
          rw [he] at h3
          injection h3 with h3
          exact .inr ⟨rfl, h3.symm⟩
        · exact .inl (.inr ⟨i, j, by rw [ht]; simp, by omega, h3⟩)
  refine ⟨h.ok, by rw [← hs']; simp [Ts.lower, h.lseen], by rw [← hs']; exact h.lof, fun u => by rw [hheld, ho, hpt]; exact h.hiff u, by rw [hheld]; simp only [ho]; exact h.hsort, fun u => by rw [ho, ← hs']; exact h.hord u, by rw [hgr, hheld]; exact h.tsub, fun x hx => ?_, fun u k => by rw [hpt, ho]; exact h.ptseen u k, fun u k => by rw [hpt, hparts]; exact h.ptiff u k, by rw [hparts]; exact h.pscc, fun v k w => by rw [hpt, hpt]; exact h.closed v k w, ?_, ?_, fun g hg => ?_, fun y hy w hd => ?_, fun g hg y hy hl hseg w hw hd => ?_⟩
  · rw [htodo] at hx
    rcases List.mem_append.1 hx with hm | hm
    · exact h.tnext x (by rw [ht]; exact List.mem_append_left _ hm)
    · rw [List.mem_singleton] at hm
      subst hm
      exact (List.getElem?_eq_some_iff.1 he).1
  · rw [hgr, hheld]; simp only [ho]; exact h.gr
  · rw [hgr, hheld]; simp only [ho]; exact h.bk
  · rw [hgr] at hg
    obtain ⟨h1, u, hu, h2, h3⟩ := h.lo g hg
    rw [hlw, ho, hheld]
    simp only [ho]
    split
    · rename_i hga
      subst hga
      refine ⟨by omega, ?_⟩
      rcases hl2 with hl2 | ⟨hto, hl2⟩
      · exact ⟨u, hu, by omega, h3⟩
      · exact ⟨to, hto, hl2.symm, .one (List.mem_of_getElem? he)⟩
    · exact ⟨h1, u, hu, h2, h3⟩
  · rw [ho]
    rw [hheld] at hy
    rcases hDn y w hd with hd | ⟨rfl, rfl⟩
    · exact h.dseen y hy w hd
    · exact hs
  · rw [hgr] at hg
    rw [hheld] at hy hw
    rw [hgr] at hseg
    rw [ho, ho] at hl
    simp only [ho] at hseg
    rw [hlw, ho]
    rcases hDn y w hd with hd | ⟨rfl, rfl⟩
    · have := h.dlow g hg y hy hl hseg w hw hd
      split
      · rename_i hga; subst hga; omega
      · exact this
    · have h3 := hl3 hw
      by_cases hga : g = y
      · rw [if_pos hga]; exact h3
      · exfalso
        rcases hT2 g hg with rfl | hgT
        · exact hga rfl
        · have := hseg y hag (hT1 g hgT).1
          omega
/-- A node is left that leads back: the one ahead of it leads back as far. -/
theorem Inv.drop (h : Inv out s) {T : List (Nat × Nat)} {v i : Nat} (ht : s.todo = T ++ [(v, i)]) (hi : (out.getD v []).length ≤ i) (hl : s.low v ≠ s.ord v) :
    ∃ T' w j, T = T' ++ [(w, j)] ∧ Inv out (s.lower w (min (s.low w) (s.low v)) T) := by
  obtain ⟨hvg, hT1, hT2, _⟩ := h.top ht
  obtain ⟨hlo1, u, hu, hlo2, hlo3⟩ := h.lo v hvg
  obtain ⟨x, hx, hxu, hux⟩ := h.bk u hu
  have hvh := h.gmem hvg
  have hxT : x ∈ T.map (·.1) := by
    rcases hT2 x hx with rfl | hx
    · omega
    · exact hx
  obtain ⟨T', ⟨w, j⟩, hT⟩ : ∃ T' z, T = T' ++ [z] := by
    rcases List.eq_nil_or_concat T with rfl | ⟨T', z, rfl⟩
    · cases hxT
    · exact ⟨T', z, by simp⟩
  refine ⟨T', w, j, hT, ?_⟩
  have hwT : w ∈ T.map (·.1) := by rw [hT]; simp
  obtain ⟨hwv, hwg⟩ := hT1 w hwT
  have hwh := h.gmem hwg
  have hwtop : ∀ g ∈ T.map (·.1), s.ord g ≤ s.ord w := fun g hg => by
    have hp := h.hsort.sublist h.tsub
    have hgr : s.gray = T'.map (·.1) ++ [w] ++ [v] := by unfold Ts.gray; rw [ht, hT]; simp
    rw [hgr, List.pairwise_append, List.pairwise_append] at hp
    rw [hT] at hg
    simp only [List.map_append, List.map_cons, List.map_nil, List.mem_append, List.mem_singleton] at hg
    rcases hg with hg | rfl
    · exact Nat.le_of_lt (hp.1.2.2 g hg w (List.mem_singleton_self w))
    · exact Nat.le_refl _
  have hal : w < s.seen.length := by rw [h.lseen]; exact h.lt ((h.hiff w).1 hwh).1
  have ho := s.lower_ord (l := min (s.low w) (s.low v)) (T := T) hal
  have hlw := s.lower_low (l := min (s.low w) (s.low v)) (T := T) hal
  generalize hs' : s.lower w (min (s.low w) (s.low v)) T = s' at *
  have hheld : s'.held = s.held := by rw [← hs']; rfl
  have hpt : ∀ u, s'.pt u = s.pt u := fun u => by rw [← hs']; rfl
  have hparts : s'.parts = s.parts := by rw [← hs']; rfl
  have htodo : s'.todo = T := by rw [← hs']; rfl
  have hgr : s'.gray = T.map (·.1) := by unfold Ts.gray; rw [htodo]
  have hgg : ∀ g ∈ s'.gray, g ∈ s.gray := fun g hg => by rw [hgr] at hg; exact (hT1 g hg).2
  have hDn : ∀ y b, s'.Dn out y b → s.Dn out y b := fun y b hd => by
    rcases hd with ⟨h1, h2⟩ | ⟨i', j', h1, h2, h3⟩
    · by_cases hy : y ∈ s.gray
      · rcases hT2 y hy with rfl | hy
        · obtain ⟨k, hk⟩ := List.getElem?_of_mem h2
          have := (List.getElem?_eq_some_iff.1 hk).1
          exact .inr ⟨i, k, by rw [ht]; simp, by omega, hk⟩
        · exact absurd (by rw [hgr]; exact hy) h1
      · exact .inl ⟨hy, h2⟩
    · rw [htodo] at h1
      exact .inr ⟨i', j', by rw [ht]; exact List.mem_append_left _ h1, h2, h3⟩
  refine ⟨h.ok, by rw [← hs']; simp [Ts.lower, h.lseen], by rw [← hs']; exact h.lof, fun u => by rw [hheld, ho, hpt]; exact h.hiff u, by rw [hheld]; simp only [ho]; exact h.hsort, fun u => by rw [ho, ← hs']; exact h.hord u, ?_, fun x hx => h.tnext x (by rw [ht]; rw [htodo] at hx; exact List.mem_append_left _ hx), fun u k => by rw [hpt, ho]; exact h.ptseen u k, fun u k => by rw [hpt, hparts]; exact h.ptiff u k, by rw [hparts]; exact h.pscc, fun v k w => by rw [hpt, hpt]; exact h.closed v k w, fun g hg y hy hl => ?_, fun y hy => ?_, fun g hg => ?_, fun y hy b hd => ?_, fun g hg y hy hl hseg b hb hd => ?_⟩
  · rw [hgr, hheld]
    refine List.Sublist.trans ?_ h.tsub
    unfold Ts.gray
    rw [ht, List.map_append]
    exact List.sublist_append_left _ _
  · rw [hheld] at hy
    rw [ho, ho] at hl
    exact h.gr g (hgg g hg) y hy hl
  · rw [hheld] at hy
    simp only [ho]
    obtain ⟨g, hg, h1, h2⟩ := h.bk y hy
    rcases hT2 g hg with rfl | hg
    · refine ⟨x, by rw [hgr]; exact hxT, by omega, (h2.trans hlo3).trans hux⟩
    · exact ⟨g, by rw [hgr]; exact hg, h1, h2⟩
  · obtain ⟨h1, u', hu', h2, h3⟩ := h.lo g (hgg g hg)
    rw [hlw, ho, hheld]
    simp only [ho]
    split
    · rename_i hga
      subst hga
      refine ⟨by omega, ?_⟩
      by_cases hm : s.low g ≤ s.low v
      · exact ⟨u', hu', by omega, h3⟩
      · exact ⟨u, hu, by omega, (h.gr g hwg v hvh (by omega)).trans hlo3⟩
    · exact ⟨h1, u', hu', h2, h3⟩
  · rw [ho]
    rw [hheld] at hy
    exact h.dseen y hy b (hDn y b hd)
  · rw [hheld] at hy hb
    rw [ho, ho] at hl
    simp only [ho] at hseg
    rw [hlw, ho]
    have hd' := hDn y b hd
    by_cases hgw : g = w
    · subst hgw
      rw [if_pos rfl]
      by_cases hyv : s.ord y < s.ord v
      · have := h.dlow g hwg y hy hl (fun g' hg' hlt => ?_) b hb hd'
        · omega
        · rcases hT2 g' hg' with rfl | hg'
          · exact hyv
          · have := hwtop g' hg'
            omega
      · have := h.dlow v hvg y hy (by omega) (fun g' hg' hlt => ?_) b hb hd'
        · omega
        · rcases hT2 g' hg' with rfl | hg'
          · omega
          · have := (hT1 g' hg').1
            omega
    · rw [if_neg hgw]
      refine h.dlow g (hgg g hg) y hy hl (fun g' hg' hlt => ?_) b hb hd'
      rcases hT2 g' hg' with rfl | hg'
      · have h1 : s.ord g ≤ s.ord w := hwtop g (by rw [← hgr]; exact hg)
        have h2 : s.ord g ≠ s.ord w := fun e => hgw (h.inj (h.gmem (hgg g hg)) hwh e)
        have := hseg w (by rw [hgr]; exact hwT) (by omega)
        omega
      · exact hseg g' (by rw [hgr]; exact hg') hlt
/-- A node is left that does not lead back: what has been held since is a part. -/
theorem Inv.part (h : Inv out s) {T : List (Nat × Nat)} {v i : Nat} {A B p : List Nat} {of' : List (Option Nat)} (ht : s.todo = T ++ [(v, i)]) (hi : (out.getD v []).length ≤ i) (hl : s.low v = s.ord v)
    (hk : s.held = A ++ v :: B) (hp : p.Pairwise (· < ·)) (hpm : ∀ u, u ∈ p ↔ u ∈ v :: B) (ho1 : of'.length = s.of.length) (ho2 : ∀ u, of'.getD u none = if u ∈ p then some s.parts.length else s.pt u) :
    Inv out ⟨s.seen, A, of', s.parts ++ [p], s.order, T⟩ := by
  obtain ⟨hvg, hT1, hT2, _⟩ := h.top ht
  have hvh := h.gmem hvg
  have hsort := h.hsort
  rw [hk, List.pairwise_append, List.pairwise_cons] at hsort
  have hmem : ∀ u, u ∈ s.held ↔ u ∈ A ∨ u ∈ p := fun u => by rw [hk, List.mem_append, hpm]
  have hA : ∀ u ∈ A, s.ord u < s.ord v := fun u hu => hsort.2.2 u hu v (List.mem_cons_self ..)
  have hP : ∀ u ∈ p, s.ord v ≤ s.ord u := fun u hu => by
    rcases List.mem_cons.1 ((hpm u).1 hu) with rfl | hu
    · exact Nat.le_refl _
    · exact Nat.le_of_lt (hsort.2.1.1 u hu)
  have hAp : ∀ u ∈ A, u ∉ p := fun u hu hp => by have := hA u hu; have := hP u hp; omega
  have hph : ∀ u ∈ p, u ∈ s.held := fun u hu => (hmem u).2 (.inr hu)
  have hvp : v ∈ p := (hpm v).2 (List.mem_cons_self ..)
  have hnone : ∀ u ∈ p, s.pt u = none := fun u hu => ((h.hiff u).1 (hph u hu)).2
  -- edges of the part lead to it, or to what is known
  have hedge : ∀ y ∈ p, ∀ w, Edge out y w → w ∈ p ∨ ∃ k, s.pt w = some k := fun y hy w he => by
    have hd : s.Dn out y w := by
      by_cases hyg : y ∈ s.gray
      · rcases hT2 y hyg with rfl | hyT
        · obtain ⟨k, hk⟩ := List.getElem?_of_mem he
          have := (List.getElem?_eq_some_iff.1 hk).1
          exact .inr ⟨i, k, by rw [ht]; simp, by omega, hk⟩
        · have := (hT1 y hyT).1
          have := hP y hy
          omega
      · exact .inl ⟨hyg, he⟩
    have hseen := h.dseen y (hph y hy) w hd
    cases hw : s.pt w with
    | some k => exact .inr ⟨k, rfl⟩
    | none =>
      have hwh := (h.hiff w).2 ⟨hseen, hw⟩
      refine .inl ?_
      rcases (hmem w).1 hwh with hwA | hwp
      · have := h.dlow v hvg y (hph y hy) (hP y hy) (fun g hg hlt => ?_) w hwh hd
        · have := hA w hwA
          omega
        · rcases hT2 g hg with rfl | hgT
          · omega
          · have := (hT1 g hgT).1
            omega
      · exact hwp
  have hscc : ∀ x ∈ p, ∀ u, u ∈ p ↔ Rc (Edge out) x u ∧ Rc (Edge out) u x := fun x hx u => by
    have hback : ∀ y ∈ p, Rc (Edge out) y v := fun y hy => by
      obtain ⟨g, hg, h1, h2⟩ := h.bk y (hph y hy)
      rcases hT2 g hg with rfl | hgT
      · exact h2
      · exact h2.trans (h.gr g hg v hvh (Nat.le_of_lt (hT1 g hgT).1))
    have hfw : ∀ y ∈ p, Rc (Edge out) v y := fun y hy => h.gr v hvg y (hph y hy) (hP y hy)
    constructor
    · intro hu
      exact ⟨(hback x hx).trans (hfw u hu), (hback u hu).trans (hfw x hx)⟩
    · rintro ⟨h1, h2⟩
      have hc := h1.closed (C := fun z => z ∈ p ∨ ∃ k, s.pt z = some k) (fun a b ha hab => by
        rcases ha with ha | ⟨k, ha⟩
        · exact hedge a ha b hab
        · obtain ⟨j, _, hj⟩ := h.closed a k b ha hab
          exact .inr ⟨j, hj⟩) (.inl hx)
      rcases hc with hc | ⟨k, hc⟩
      · exact hc
      · obtain ⟨k', hk'⟩ := h2.closed (C := fun z => ∃ k, s.pt z = some k) (fun a b ⟨k, ha⟩ hab => by
          obtain ⟨j, _, hj⟩ := h.closed a k b ha hab
          exact ⟨j, hj⟩) ⟨k, hc⟩
        rw [hnone x hx] at hk'
        cases hk'
  have hpt : ∀ u, (⟨s.seen, A, of', s.parts ++ [p], s.order, T⟩ : Ts).pt u = if u ∈ p then some s.parts.length else s.pt u := ho2
  have hgr : (⟨s.seen, A, of', s.parts ++ [p], s.order, T⟩ : Ts).gray = T.map (·.1) := rfl
  have hgA : ∀ g ∈ T.map (·.1), g ∈ A := fun g hg => by
    rcases (hmem g).1 (h.gmem (hT1 g hg).2) with h1 | h1
    · exact h1
    · have := hP g h1; have := (hT1 g hg).1; omega
  have hptlt : ∀ u k, s.pt u = some k → k < s.parts.length := fun u k hu => by
    obtain ⟨q, hq, _⟩ := (h.ptiff u k).1 hu
    exact (List.getElem?_eq_some_iff.1 hq).1
  have hDn : ∀ y ∈ A, ∀ w, (⟨s.seen, A, of', s.parts ++ [p], s.order, T⟩ : Ts).Dn out y w → s.Dn out y w := fun y hyA w hd => by
    rcases hd with ⟨h1, h2⟩ | ⟨i', j', h1, h2, h3⟩
    · refine .inl ⟨fun hy => ?_, h2⟩
      rcases hT2 y hy with rfl | hy
      · exact hAp y hyA hvp
      · exact h1 hy
    · exact .inr ⟨i', j', by rw [ht]; exact List.mem_append_left _ h1, h2, h3⟩
  refine ⟨h.ok, h.lseen, by rw [← h.lof]; exact ho1, fun u => ?_, hsort.1, h.hord, ?_, fun x hx => h.tnext x (by rw [ht]; exact List.mem_append_left _ hx), fun u k hk => ?_, fun u k => ?_, fun q hq => ?_, fun x k w hk he => ?_, fun g hg y hy hl => ?_, fun y hy => ?_, fun g hg => ?_, fun y hy w hd => ?_, fun g hg y hy hl hseg w hw hd => ?_⟩
  · rw [hpt]
    show u ∈ A ↔ s.ord u ≠ 0 ∧ _
    by_cases hu : u ∈ p
    · rw [if_pos hu]
      exact ⟨fun h1 => absurd hu (hAp u h1), fun h1 => by cases h1.2⟩
    · rw [if_neg hu, ← h.hiff, hmem]
      exact ⟨.inl, fun h1 => h1.resolve_right hu⟩
  · rw [hgr]
    have h1 : (T.map (·.1) ++ [v]).Sublist (A ++ v :: B) := by
      rw [← hk]
      have := h.tsub
      unfold Ts.gray at this
      rw [ht, List.map_append] at this
      exact this
    have h2 : (T.map (·.1)).filter (fun u => decide (u ∈ A)) = T.map (·.1) := List.filter_eq_self.2 fun g hg => decide_eq_true (hgA g hg)
    have h3 := ((List.sublist_append_left _ [v]).trans h1).filter (fun u => decide (u ∈ A))
    rw [h2, List.filter_append] at h3
    rw [List.filter_eq_self.2 fun g hg => decide_eq_true hg, List.filter_eq_nil_iff.2 fun g hg => by
      have : g ∉ A := fun hgA' => hAp g hgA' ((hpm g).2 hg)
      simp [this], List.append_nil] at h3
    exact h3
  · rw [hpt] at hk
    show s.ord u ≠ 0
    split at hk
    · rename_i hu
      exact ((h.hiff u).1 (hph u hu)).1
    · exact h.ptseen u k hk
  · rw [hpt]
    show _ ↔ ∃ q, (s.parts ++ [p])[k]? = some q ∧ u ∈ q
    by_cases hu : u ∈ p
    · rw [if_pos hu]
      constructor
      · intro e
        injection e with e
        subst e
        exact ⟨p, by simp, hu⟩
      · rintro ⟨q, hq, huq⟩
        rw [List.getElem?_append] at hq
        split at hq
        · have := (h.ptiff u k).2 ⟨q, hq, huq⟩
          rw [hnone u hu] at this
          cases this
        · rename_i hlt
          have : k - s.parts.length = 0 := by
            have := (List.getElem?_eq_some_iff.1 hq).1
            simp at this
            exact this
          congr 1
          omega
    · rw [if_neg hu, h.ptiff]
      constructor
      · rintro ⟨q, hq, huq⟩
        exact ⟨q, by rw [List.getElem?_append_left (List.getElem?_eq_some_iff.1 hq).1]; exact hq, huq⟩
      · rintro ⟨q, hq, huq⟩
        rw [List.getElem?_append] at hq
        split at hq
        · exact ⟨q, hq, huq⟩
        · obtain ⟨h1, h2⟩ := List.getElem?_eq_some_iff.1 hq
          simp only [List.getElem_singleton] at h2
          rw [← h2] at huq
          exact absurd huq hu
  · rcases List.mem_append.1 (show q ∈ s.parts ++ [p] from hq) with hq | hq
    · exact h.pscc q hq
    · rw [List.mem_singleton] at hq
      subst hq
      exact ⟨hp, (fun e => by rw [e] at hvp; cases hvp), hscc⟩
  · rw [hpt] at hk
    rw [hpt]
    split at hk
    · rename_i hx
      injection hk with hk
      subst hk
      rcases hedge x hx w he with hw | ⟨k, hw⟩
      · exact ⟨_, Nat.le_refl _, by rw [if_pos hw]⟩
      · refine ⟨k, Nat.le_of_lt (hptlt w k hw), ?_⟩
        rw [if_neg fun hwp => ?_, hw]
        rw [hnone w hwp] at hw
        cases hw
    · obtain ⟨j, hj, hw⟩ := h.closed x k w hk he
      refine ⟨j, hj, ?_⟩
      rw [if_neg fun hwp => ?_, hw]
      rw [hnone w hwp] at hw
      cases hw
  · rw [hgr] at hg
    exact h.gr g (hT1 g hg).2 y ((hmem y).2 (.inl hy)) hl
  · obtain ⟨g, hg, h1, h2⟩ := h.bk y ((hmem y).2 (.inl hy))
    rcases hT2 g hg with rfl | hgT
    · have := hA y hy
      omega
    · exact ⟨g, hgT, h1, h2⟩
  · rw [hgr] at hg
    obtain ⟨h1, u, hu, h2, h3⟩ := h.lo g (hT1 g hg).2
    refine ⟨h1, u, ?_, h2, h3⟩
    rcases (hmem u).1 hu with hu | hu
    · exact hu
    · have h4 := hP u hu
      have h5 := (hT1 g hg).1
      have h6 : s.low g ≤ s.ord g := h1
      have h7 : s.ord u = s.low g := h2
      omega
  · exact h.dseen y ((hmem y).2 (.inl hy)) w (hDn y hy w hd)
  · rw [hgr] at hg
    refine h.dlow g (hT1 g hg).2 y ((hmem y).2 (.inl hy)) hl (fun g' hg' hlt => ?_) w ((hmem w).2 (.inl hw)) (hDn y hy w hd)
    rcases hT2 g' hg' with rfl | hgT
    · exact hA y hy
    · exact hseg g' hgT hlt
end Go.Proofs.Ytndmjpceocecdaa.E.Gph
