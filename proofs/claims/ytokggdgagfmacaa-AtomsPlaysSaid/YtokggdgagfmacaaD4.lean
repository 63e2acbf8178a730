/- AtomsPut, walked. -/
import Derived.Test.YtokggdgagfmacaaD3
import Derived.Test.YtokggdgagfmacaaSk
import Derived.Test.YtokggdgagfmacaaC4
namespace Go.Proofs.Ytokggdgagfmacaa.E
open Go Go.RowKit Go.Proofs
attribute [local irreducible] TK TL TQ TA TB Fn PV
set_option maxRecDepth 100000 in
set_option maxHeartbeats 1000000 in
theorem copy_t (a : Atm) (Γ : List HP) (h : a.ok Γ) (hn : a.l.length ≤ 1000000) :
    FnV Try.prog 42 [.agg a.cells.toArray] Γ fun v Γ' => ∃ B k, a.l.length ≤ k ∧ v = .agg (Atm.cells ⟨a.p, B, k, a.l⟩).toArray ∧ Γ' = own 54 2 (.slice B a.l.length k) a.l.length (tmsC a.l) :: Γ := by
  refine Fn.enter Try.func42 rfl rfl rfl fun E => ?_
  obtain ⟨p, A, c, l⟩ := a
  have hs : has Γ (srcAt 2 A l.length (tmsC l)) := h.1
  replace hn : l.length ≤ 1000000 := hn
  refine m_run ?_
  (apply TL.box; exact rfl; exact rfl; (exact m_lst))
  intro b1
  refine TL.imp (Δ := row b1 [.int .u32 (p : Int), .slice A l.length c] 42 :: Γ) (fun _ h => h) ?_
  refine m_run ?_
  (apply TL.alloc; exact rfl; exact tb rfl; exact (rfl : _ = [_, _]))
  intro b2
  refine TL.imp (Δ := row b2 [.int .u32 0, .slice none 0 0] 42 :: row b1 [.int .u32 (p : Int), .slice A l.length c] 42 :: Γ) (fun _ h => h) ?_
  refine m_run ?_
  refine TK.drawE mixed rfl (row b1 [.int .u32 (p : Int), .slice A l.length c] 42 :: Γ) ?_
  refine m_take (At.mk : At 0) ?_; refine m_take (At.mk : At 1) ?_; refine m_take (At.mk : At 3) ?_; refine m_take (At.mk : At 4) ?_
  (apply TA.one 2; kernel_rfl; exact rfl)
  (apply TL.buildSlice; exact rfl; exact tb rfl; exact rfl; exact tb rfl; exact rfl; exact rfl; exact rfl; exact rfl; (exact m_lst))
  intro b5
  refine TL.back (by (focus ((repeat (first | assumption | exact Ent.refl _ | apply Ent.tail)); done))) ?_
  (apply TA.one 5; kernel_rfl; exact rfl)
  (apply TL.append 0 (n := 0) (m := l.length) (cs := []) (news := tmsC l); exact rfl; exact rfl; exact tb rfl; exact rfl; exact tb rfl; exact rfl; exact rfl; exact rfl)
  · exact fun _ h => own_row rfl (Nat.zero_le _) h
  · exact rfl
  · exact has_tls (has_tls (has_tls hs))
  · intro u hu
    obtain ⟨t, _, ht⟩ := List.mem_flatMap.1 hu
    obtain ⟨tv, tn⟩ := t
    simp only [tmC, List.mem_cons, List.not_mem_nil, or_false] at ht
    rcases ht with rfl | rfl <;> rfl
  · show (0 + l.length) * 8 ≤ _; omega
  · show 0 + l.length ≤ maxLen; unfold maxLen; omega
  · exact fun _ => (rfl : _ = _ :: _)
  intro B k hk
  simp only [Nat.zero_add, List.nil_append] at hk ⊢
  refine TL.back (by (focus ((repeat (first | assumption | exact Ent.refl _ | apply Ent.tail)); done))) ?_
  (apply TA.takeA (At.mk : At 6); exact rfl; exact rfl; kernel_rfl; ((focus ((repeat (first | assumption | exact Ent.refl _ | apply Ent.tail)); done))); (apply PV.build tabs; exact rfl; exact rfl; exact rfl; exact rfl; exact rfl; exact (rfl : _ = [Value.int .u32 (p : Int), .slice B l.length k])))
  (apply TA.one 7; kernel_rfl; exact rfl)
  refine m_rrun ?_
  refine TL.back (by (focus ((repeat (first | assumption | exact Ent.refl _ | apply Ent.tail)); done))) ?_
  refine TA.done (by kernel_rfl) ?_
  refine m_run ?_
  (apply TK.retRow (i := 1); exact rfl; exact rfl; exact rfl; exact rfl; exact tb rfl; exact rfl; (exact m_lst); exact rfl)
  · exact ⟨_, rfl, B, k, hk, rfl, rfl⟩
  · (repeat (first | exact List.Sublist.refl _ | apply List.Sublist.cons_cons | apply List.Sublist.cons))
theorem tmsC_one (l : List Tm) : ∀ u ∈ tmsC l, u.oneCell' = true := by
  intro u hu
  obtain ⟨t, _, ht⟩ := List.mem_flatMap.1 hu
  obtain ⟨tv, tn⟩ := t
  simp only [tmC, List.mem_cons, List.not_mem_nil, or_false] at ht
  rcases ht with rfl | rfl <;> rfl
theorem own_some {e sz n c : Nat} {A : Option Addr} {cs : List Value} {m : Mem} (h : own e sz (.slice A n c) n cs m) (h0 : 0 < n) : ∃ b, A = some ⟨b, 0, none⟩ := by
  obtain ⟨_, ⟨_, h, _⟩ | ⟨g, cap, cur, hv, _⟩⟩ := h
  · omega
  · injection hv with hv _ _
    exact ⟨g, hv⟩
theorem tmsC_set {l : List Tm} {p : Nat} (t : Tm) (hp : p < l.length) : (tmsC l).take (p * 2) ++ tmC t ++ (tmsC l).drop (p * 2 + 2) = tmsC (l.set p t) := by
  have h1 := flat_take (f := tmC) (sz := 2) (fun _ => rfl) l p
  have h2 := flat_drop (f := tmC) (sz := 2) (fun _ => rfl) l (p + 1)
  rw [Nat.add_mul, Nat.one_mul] at h2
  rw [List.set_eq_take_append_cons_drop, if_pos hp]
  show (l.flatMap tmC).take (p * 2) ++ tmC t ++ (l.flatMap tmC).drop (p * 2 + 2) = (l.take p ++ t :: l.drop (p + 1)).flatMap tmC
  rw [← h1, ← h2, List.flatMap_append, List.flatMap_cons, List.append_assoc]
theorem has_own {e sz n c : Nat} {b : Nat} {cs : List Value} {Γ : List HP} (i : Nat) (hi : Γ[i]? = some (own e sz (.slice (some ⟨b, 0, none⟩) n c) n cs)) : has Γ (srcAt sz (some ⟨b, 0, none⟩) n cs) := has_at (up_src _ _ _ _) i hi fun _ h => own_src h
theorem map_take_step {α : Type} (f : α → α) (l : List α) {i : Nat} {x : α} (hx : l[i]? = some x) : ((l.take i).map f ++ l.drop i).set i (f x) = (l.take (i + 1)).map f ++ l.drop (i + 1) := by
  have hi := (List.getElem?_eq_some_iff.1 hx).1
  have hl : ((l.take i).map f).length = i := by simp; omega
  rw [List.set_append_right _ _ (by omega), hl, Nat.sub_self, List.drop_eq_getElem_cons hi, List.set_cons_zero, List.take_add_one, hx]
  simp
theorem map_take_stay {α : Type} (f : α → α) (l : List α) {i : Nat} {x : α} (hx : l[i]? = some x) (h : f x = x) : (l.take i).map f ++ l.drop i = (l.take (i + 1)).map f ++ l.drop (i + 1) := by
  rw [← map_take_step f l hx, h]
  have hi := (List.getElem?_eq_some_iff.1 hx).1
  have hl : ((l.take i).map f).length = i := by simp; omega
  apply List.ext_getElem?
  intro k
  by_cases hk : i = k
  · subst hk
    rw [List.getElem?_set_self (by simp; omega), List.getElem?_append_right (by omega), hl, Nat.sub_self, List.getElem?_drop, Nat.add_zero, hx]
  · rw [List.getElem?_set_ne hk]
theorem map_take_at {α : Type} (f : α → α) (l : List α) {i : Nat} : ((l.take i).map f ++ l.drop i)[i]? = l[i]? := by
  rcases Nat.lt_or_ge i l.length with hi | hi
  · have hl : ((l.take i).map f).length = i := by simp; omega
    rw [List.getElem?_append_right (by omega), hl, Nat.sub_self, List.getElem?_drop, Nat.add_zero]
  · rw [List.getElem?_eq_none hi, List.getElem?_eq_none (by simp; omega)]
set_option maxRecDepth 100000 in
set_option maxHeartbeats 8000000 in
theorem put5_t (f : Fct) (a : Atm) (i k : Nat) (Γ : List HP) (hf : f.ok Γ) (ha : a.ok Γ) (hi8 : i < 256) (hk8 : k < 256) :
    FnV Try.prog 8 [.agg f.cells.toArray, .agg a.cells.toArray, .int .u8 (i : Int), .int .u8 (k : Int)] Γ fun v Γ' => v = .bool true ∧ Γ' = Γ := by
  refine Fn.enter Try.func8 rfl rfl rfl fun E => ?_
  obtain ⟨pf, Af, cf, m⟩ := f
  obtain ⟨pa, Aa, ca, l⟩ := a
  have hm : has Γ (srcAt 1 Af m.length (u32s m)) := hf.1
  have hl : has Γ (srcAt 2 Aa l.length (tmsC l)) := ha.1
  refine m_run ?_
  (apply TL.box; exact rfl; exact rfl; (exact m_lst))
  intro b4
  refine m_run ?_
  (apply TL.box; exact rfl; exact rfl; (exact m_lst))
  intro b5
  refine TL.imp (Δ := row b5 [.int .u32 (pa : Int), .slice Aa l.length ca] 42 :: row b4 [.int .u32 (pf : Int), .slice Af m.length cf] 26 :: Γ) (fun _ h => h) ?_
  by_cases h0 : m.length = 0
  · refine m_run ?_
    (apply TL.callV; exact rfl; exact callB_of (by kernel_rfl); exact rfl; exact fun _ h => h)
    exact works5_t _
    rintro _ _ ⟨rfl, rfl⟩
    refine m_run ?_
    (apply TK.retS1; exact rfl; exact rfl; (exact m_val))
    · exact ⟨_, rfl, rfl, rfl⟩
    · (repeat (first | exact List.Sublist.refl _ | apply List.Sublist.cons_cons | apply List.Sublist.cons))
  by_cases h100 : 100 < m.length
  · refine m_run ?_
    (apply TL.callV; exact rfl; exact callB_of (by kernel_rfl); exact rfl; exact fun _ h => h)
    exact works5_t _
    rintro _ _ ⟨rfl, rfl⟩
    refine m_run ?_
    (apply TK.retS1; exact rfl; exact rfl; (exact m_val))
    · exact ⟨_, rfl, rfl, rfl⟩
    · (repeat (first | exact List.Sublist.refl _ | apply List.Sublist.cons_cons | apply List.Sublist.cons))
  refine m_run ?_
  (apply TL.callV; exact rfl; exact callB_of (by kernel_rfl); exact rfl; exact fun _ h => h)
  exact rbig_t ⟨pa, Aa, ca, l⟩ _
  rintro _ _ ⟨rfl, rfl⟩
  by_cases hb : 100 < l.length
  · rw [show decide (100 < (Atm.l ⟨pa, Aa, ca, l⟩).length) = true from decide_eq_true hb]
    refine m_run ?_
    (apply TL.callV; exact rfl; exact callB_of (by kernel_rfl); exact rfl; exact fun _ h => h)
    exact works5_t _
    rintro _ _ ⟨rfl, rfl⟩
    refine m_run ?_
    (apply TK.retS1; exact rfl; exact rfl; (exact m_val))
    · exact ⟨_, rfl, rfl, rfl⟩
    · (repeat (first | exact List.Sublist.refl _ | apply List.Sublist.cons_cons | apply List.Sublist.cons))
  rw [show decide (100 < (Atm.l ⟨pa, Aa, ca, l⟩).length) = false from decide_eq_false hb]
  refine m_run ?_
  refine TL.know (t := 31) (v := .int .i64 (i : Int)) (congrArg (Value.int .i64) (i64_nat (by omega))) ?_
  (apply TL.pv; exact rfl; (apply PV.remN (n := i) (m := m.length); exact rfl; exact rfl; exact rfl; exact h0))
  refine m_run ?_
  refine TL.know (t := 35) (v := .int .i64 (k : Int)) (congrArg (Value.int .i64) (i64_nat (by omega))) ?_
  (apply TL.pv; exact rfl; (apply PV.remN (n := k) (m := m.length); exact rfl; exact rfl; exact rfl; exact h0))
  have hp : i % m.length < m.length := Nat.mod_lt _ (by omega)
  have hq : k % m.length < m.length := Nat.mod_lt _ (by omega)
  generalize i % m.length = p at *
  generalize k % m.length = q at *
  refine m_run ?_
  (apply TL.pv; exact rfl; (apply PV.build tabs; exact rfl; exact rfl; exact rfl; exact rfl; exact rfl; exact (rfl : _ = [Value.int .u32 (pf : Int), .slice none 0 0])))
  (apply TL.alloc; exact rfl; exact tb rfl; exact (rfl : _ = [_, _]))
  intro b12
  refine m_run ?_
  refine TK.imp (Δ := row b12 [.int .u32 (pf : Int), .slice none 0 0] 42 :: row b5 [.int .u32 (pa : Int), .slice Aa l.length ca] 42 :: row b4 [.int .u32 (pf : Int), .slice Af m.length cf] 26 :: Γ) (fun _ h => h) ?_
  refine TK.free (H := own 54 2 (.slice none 0 0) 0 []) (fun m h => own_nil _ _ h) ?_
  apply TK.iter (fun j ρ' Γ' => ∃ (i : Nat) (B : Option Addr) (k : Nat), i + j = m.length ∧ i ≤ k ∧ lk ρ' 4 = .pointer (some ⟨b4, 0, none⟩) ∧ lk ρ' 5 = .pointer (some ⟨b5, 0, none⟩) ∧ lk ρ' 9 = .int .i64 (m.length : Int) ∧ lk ρ' 10 = .int .i64 (p : Int) ∧ lk ρ' 11 = .int .i64 (q : Int) ∧ lk ρ' 12 = .pointer (some ⟨b12, 0, none⟩) ∧ lk ρ' 13 = .int .i64 (i : Int) ∧ Γ' = own 54 2 (.slice B i k) i (tmsC (varsTo i)) :: row b12 [.int .u32 (pf : Int), .slice B i k] 42 :: row b5 [.int .u32 (pa : Int), .slice Aa l.length ca] 42 :: row b4 [.int .u32 (pf : Int), .slice Af m.length cf] 26 :: Γ) m.length
  · exact ⟨0, none, 0, Nat.zero_add _, Nat.le_refl _, rfl, rfl, rfl, rfl, rfl, rfl, rfl, rfl⟩
  rintro j IH ρ' _ ⟨i, B, k, hij, hik, e4, e5, e9, e10, e11, e12, e13, rfl⟩
  refine TK.know7 e4 e5 e9 e10 e11 e12 e13 ?_
  by_cases hi : i < m.length
  · refine m_run ?_
    refine TK.drawB mixed rfl 8 (row b12 [.int .u32 (pf : Int), .slice B i k] 42 :: row b5 [.int .u32 (pa : Int), .slice Aa l.length ca] 42 :: row b4 [.int .u32 (pf : Int), .slice Af m.length cf] 26 :: Γ) Γ ?_
    refine m_bake (At.mk : At 0) ?_; refine m_bake (At.mk : At 1) ?_; refine m_bake (At.mk : At 2) ?_; refine m_bake (At.mk : At 3) ?_
    refine TB.know (t := 49) (v := .int .u32 (i : Int)) (congrArg (Value.int .u32) (u32_nat (by omega))) ?_
    (apply TB.one 4; kernel_rfl; exact rfl; exact rfl)
    (apply TL.callV; exact rfl; exact callB_of (by kernel_rfl); exact rfl; exact fun _ h => h)
    exact mkx_t i _
    rintro _ _ ⟨rfl, rfl⟩
    refine TL.backB (by (focus ((repeat (first | assumption | exact Ent.refl _ | apply Ent.tail)); done))) ?_
    (apply TB.one 5; kernel_rfl; exact rfl; exact rfl)
    (apply TL.buildSlice (l := tmC ⟨true, i⟩); exact rfl; exact tb rfl; exact rfl; exact tb rfl; exact rfl; exact rfl; exact rfl; exact rfl; exact rfl)
    intro b51
    refine TL.backB (by (focus ((repeat (first | assumption | exact Ent.refl _ | apply Ent.tail)); done))) ?_
    (apply TB.one 6; kernel_rfl; exact rfl; exact rfl)
    (apply TL.append 1; exact rfl; exact rfl; exact tb rfl; exact rfl; exact tb rfl; exact rfl; exact rfl; exact rfl)
    · exact fun _ h => h
    · exact rfl
    · exact has_src_row 0 rfl rfl
    · exact one_of rfl
    · show (i + 1) * 8 ≤ _; omega
    · show i + 1 ≤ maxLen; unfold maxLen; omega
    · exact fun _ => (rfl : _ = _ :: _ :: _)
    intro B' k' hk'
    rw [tmsC_snoc, varsTo_snoc]
    refine TL.backB (by (focus ((repeat (first | assumption | exact Ent.refl _ | apply Ent.tail)); done))) ?_
    refine m_bake (At.mk : At 7) ?_
    (apply TB.last; kernel_rfl; exact rfl)
    refine m_rrun ?_
    refine TL.back (by (focus ((repeat (first | assumption | exact Ent.refl _ | apply Ent.tail)); done))) ?_
    refine TA.done (by kernel_rfl) ?_
    refine m_run ?_
    refine TK.sub (Δ := own 54 2 (.slice B' (i + 1) k') (i + 1) (tmsC (varsTo (i + 1))) :: row b12 [.int .u32 (pf : Int), .slice B' (i + 1) k'] 42 :: row b5 [.int .u32 (pa : Int), .slice Aa l.length ca] 42 :: row b4 [.int .u32 (pf : Int), .slice Af m.length cf] 26 :: Γ) (by (repeat (first | exact List.Sublist.refl _ | apply List.Sublist.cons_cons | apply List.Sublist.cons))) ?_
    exact IH (j - 1) _ _ (by omega) ⟨i + 1, B', k', by omega, hk', rfl, rfl, rfl, rfl, rfl, rfl, congrArg (Value.int .i64) (i64_succ i (by omega)), rfl⟩
  obtain rfl : i = m.length := by omega
  refine TK.mem fun m0 hm0 => ?_
  obtain ⟨b, rfl⟩ := own_addr hm0 (by omega)
  obtain ⟨bf, fo, rfl⟩ := src_some (has_tls (has_tls (has_tls (has_tls hm))) m0 hm0) (by rw [u32s_len]; omega)
  clear hm0 m0
  obtain ⟨u, hu⟩ : ∃ u, m[p]? = some u := ⟨m[p], List.getElem?_eq_getElem hp⟩
  obtain ⟨w, hw⟩ : ∃ w, m[q]? = some w := ⟨m[q], List.getElem?_eq_getElem hq⟩
  have hvl : (varsTo m.length).length = m.length := varsTo_len _
  obtain ⟨Δ, hΔ⟩ : ∃ Δ, row b12 [.int .u32 (pf : Int), .slice (some ⟨b, 0, none⟩) m.length k] 42 :: row b5 [.int .u32 (pa : Int), .slice Aa l.length ca] 42 :: row b4 [.int .u32 (pf : Int), .slice (some ⟨bf, fo, none⟩) m.length cf] 26 :: Γ = Δ := ⟨_, rfl⟩
  have w12 : has Δ (fun x => cellsAt x b12 0 [.int .u32 (pf : Int), .slice (some ⟨b, 0, none⟩) (varsTo m.length).length k]) := by rw [← hΔ, hvl]; exact has_rows 0 rfl rfl
  have c12 : has Δ (fun x => cellAt x b12 1 (.slice (some ⟨b, 0, none⟩) m.length k)) := by rw [← hΔ]; exact has_row 0 rfl rfl
  have w4 : has Δ (fun x => cellsAt x b4 0 [.int .u32 (pf : Int), .slice (some ⟨bf, fo, none⟩) m.length cf]) := by rw [← hΔ]; exact has_rows 2 rfl rfl
  have c4 : has Δ (fun x => cellAt x b4 1 (.slice (some ⟨bf, fo, none⟩) m.length cf)) := by rw [← hΔ]; exact has_row 2 rfl rfl
  have w5 : has Δ (fun x => cellsAt x b5 0 [.int .u32 (pa : Int), .slice Aa l.length ca]) := by rw [← hΔ]; exact has_rows 1 rfl rfl
  have c5 : has Δ (fun x => cellAt x b5 1 (.slice Aa l.length ca)) := by rw [← hΔ]; exact has_row 1 rfl rfl
  have fΔ : Fct.ok ⟨pf, some ⟨bf, fo, none⟩, cf, m⟩ Δ := by rw [← hΔ]; exact Fct.ok_tl (Fct.ok_tl (Fct.ok_tl hf))
  have aΔ : Atm.ok ⟨pa, Aa, ca, l⟩ Δ := by rw [← hΔ]; exact Atm.ok_tl (Atm.ok_tl (Atm.ok_tl ha))
  have hsub : Γ.Sublist Δ := by rw [← hΔ]; (repeat (first | exact List.Sublist.refl _ | apply List.Sublist.cons_cons | apply List.Sublist.cons))
  rw [hΔ]
  clear hΔ
  have oka : ∀ L : List Tm, L.length = m.length → Atm.ok ⟨pf, some ⟨b, 0, none⟩, k, L⟩ (own 54 2 (.slice (some ⟨b, 0, none⟩) m.length k) m.length (tmsC L) :: Δ) := fun L hL => ⟨by show has _ (srcAt 2 _ L.length (tmsC L)); rw [hL]; exact has_own 0 rfl, by show L.length ≤ k; omega⟩
  refine m_run ?_
  (apply TL.callV; exact rfl; exact callB_of (by kernel_rfl); exact rfl; exact fun _ h => h)
  exact matchG_t ⟨pf, some ⟨b, 0, none⟩, k, varsTo m.length⟩ ⟨pf, some ⟨bf, fo, none⟩, cf, m⟩ _ (oka _ hvl) (Fct.ok_tl fΔ) (by show (varsTo m.length).length ≤ _; omega)
  rintro _ _ ⟨rfl, rfl⟩
  rw [show matA ⟨pf, some ⟨b, 0, none⟩, k, varsTo m.length⟩ ⟨pf, some ⟨bf, fo, none⟩, cf, m⟩ = true by simp [matA, varsTo_len, match_vars]]
  have hfu : has Δ (fun x => cellAt x bf (fo + p) (.int .u32 (u : Int))) := has_u32 fΔ.1 hu
  have hfw : has Δ (fun x => cellAt x bf (fo + q) (.int .u32 (w : Int))) := has_u32 fΔ.1 hw
  have hvq : has (own 54 2 (.slice (some ⟨b, 0, none⟩) m.length k) m.length (tmsC (varsTo m.length)) :: Δ) (fun x => cellsAt x b (q * 2) (tmC ⟨true, q⟩)) := by
    have := has_el (f := tmC) (fun _ => rfl) (by decide) (has_own (Γ := own 54 2 (.slice (some ⟨b, 0, none⟩) m.length k) m.length (tmsC (varsTo m.length)) :: Δ) 0 rfl) (varsTo_get hq)
    rwa [Nat.zero_add] at this
  refine m_run ?_
  refine TK.drawB mixed rfl 9 (own 54 2 (.slice (some ⟨b, 0, none⟩) m.length k) m.length (tmsC (varsTo m.length)) :: Δ) Δ ?_
  refine m_bake (At.mk : At 0) ?_; refine m_bake (At.mk : At 1) ?_; refine m_bake (At.mk : At 2) ?_; refine m_bake (At.mk : At 3) ?_; refine m_bake (At.mk : At 4) ?_; refine m_bake (At.mk : At 5) ?_; refine m_bake (At.mk : At 6) ?_; refine m_bake (At.mk : At 7) ?_; refine m_bake (At.mk : At 8) ?_
  (apply TB.last; kernel_rfl; exact rfl)
  (apply TL.storeOwnA 0 p; exact rfl; exact rfl; exact rfl; exact rfl; exact tb rfl; exact rfl; exact rfl; exact rfl; exact hp; exact tmsC_set _ (by rw [hvl]; exact hp); exact rfl)
  refine TL.back (by (focus ((repeat (first | assumption | exact Ent.refl _ | apply Ent.tail)); done))) ?_
  refine TA.done (by kernel_rfl) ?_
  have hL2 : ((varsTo m.length).set p ⟨true, q⟩).length = m.length := by rw [List.length_set, hvl]
  have hmat2 := match_vars2 hu hw
  generalize hL : (varsTo m.length).set p ⟨true, q⟩ = L2 at *
  replace w12 : has Δ (fun x => cellsAt x b12 0 [.int .u32 (pf : Int), .slice (some ⟨b, 0, none⟩) L2.length k]) := by rw [hL2]; rwa [hvl] at w12
  clear hvq
  refine m_run ?_
  refine TK.drawS mixed rfl ?_
  refine m_take (At.mk : At 0) ?_; refine m_take (At.mk : At 1) ?_; refine m_take (At.mk : At 3) ?_; refine m_take (At.mk : At 4) ?_; refine m_take (At.mk : At 5) ?_; refine m_take (At.mk : At 6) ?_; refine m_take (At.mk : At 7) ?_; refine m_take (At.mk : At 8) ?_; refine m_take (At.mk : At 9) ?_; refine m_take (At.mk : At 10) ?_; refine m_take (At.mk : At 11) ?_; refine m_take (At.mk : At 12) ?_; refine m_take (At.mk : At 13) ?_
  (apply TA.one 2; kernel_rfl; exact rfl)
  (apply TL.callV; exact rfl; exact callB_of (by kernel_rfl); exact rfl; exact fun _ h => h)
  exact matchG_t ⟨pf, some ⟨b, 0, none⟩, k, L2⟩ ⟨pf, some ⟨bf, fo, none⟩, cf, m⟩ _ (oka _ hL2) (Fct.ok_tl fΔ) (by show L2.length ≤ _; omega)
  rintro _ _ ⟨rfl, rfl⟩
  rw [show matA ⟨pf, some ⟨b, 0, none⟩, k, L2⟩ ⟨pf, some ⟨bf, fo, none⟩, cf, m⟩ = decide (u = w) by simp [matA, hL2, hmat2]]
  refine TL.back (by (focus ((repeat (first | assumption | exact Ent.refl _ | apply Ent.tail)); done))) ?_
  refine m_take (At.mk : At 14) ?_
  refine TA.isF 81 rfl (by
    by_cases huw : u = w
    · subst huw; simp
    · have : (u : Int) ≠ (w : Int) := by omega
      simp [huw, this]) ?_
  refine TA.done (by kernel_rfl) ?_
  refine m_run ?_
  by_cases hlm : l.length = m.length
  · refine m_run ?_
    (apply TL.callV; exact rfl; exact callB_of (by kernel_rfl); exact rfl; exact fun _ h => h)
    exact copy_t ⟨pa, Aa, ca, l⟩ _ (Atm.ok_tl aΔ) (by show l.length ≤ _; omega)
    rintro _ _ ⟨C, kc, hkc, rfl, rfl⟩
    replace hkc : l.length ≤ kc := hkc
    refine m_run ?_
    (apply TL.alloc; exact rfl; exact tb rfl; exact (rfl : _ = [_, _]))
    intro b14
    refine m_rrun ?_
    refine TL.nil ?_
    refine TK.sub (Δ := row b14 [.int .u32 (pa : Int), .slice C l.length kc] 42 :: own 54 2 (.slice C l.length kc) l.length (tmsC l) :: Δ) (by (repeat (first | exact List.Sublist.refl _ | apply List.Sublist.cons_cons | apply List.Sublist.cons))) ?_
    refine TK.perm (List.Perm.swap _ _ _) ?_
    obtain ⟨y, hy⟩ : ∃ y, l[p]? = some y := ⟨l[p], List.getElem?_eq_getElem (by omega)⟩
    refine TK.mem fun m0 hm0 => ?_
    obtain ⟨bc, rfl⟩ := own_addr hm0 (by omega)
    obtain ⟨ba, ao, rfl⟩ := src_some (has_tls (has_tls aΔ.1) m0 hm0) (by show 0 < (tmsC l).length; rw [tmsC_len]; omega)
    clear hm0 m0
    have hya : has Δ (fun x => cellsAt x ba (ao + p * 2) (tmC y)) := has_el (f := tmC) (fun _ => rfl) (by decide) aΔ.1 hy
    have hyv : has Δ (fun x => cellAt x ba (ao + p * 2 + 0) (.bool y.v)) := has_cell hya 0 rfl
    refine m_run ?_
    apply TK.iter (fun j ρ' Γ' => ∃ (i : Nat), i + j = m.length ∧ lk ρ' 4 = .pointer (some ⟨b4, 0, none⟩) ∧ lk ρ' 5 = .pointer (some ⟨b5, 0, none⟩) ∧ lk ρ' 9 = .int .i64 (m.length : Int) ∧ lk ρ' 10 = .int .i64 (p : Int) ∧ lk ρ' 14 = .pointer (some ⟨b14, 0, none⟩) ∧ lk ρ' 15 = .int .i64 (i : Int) ∧ Γ' = own 54 2 (.slice (some ⟨bc, 0, none⟩) l.length kc) l.length (tmsC ((l.take i).map (putT y u) ++ l.drop i)) :: row b14 [.int .u32 (pa : Int), .slice (some ⟨bc, 0, none⟩) l.length kc] 42 :: Δ) m.length
    · exact ⟨0, Nat.zero_add _, rfl, rfl, rfl, rfl, rfl, rfl, rfl⟩
    rintro j IH ρ' _ ⟨i, hij, e4, e5, e9, e10, e14, e15, rfl⟩
    refine TK.know6 e4 e5 e9 e10 e14 e15 ?_
    by_cases hi : i < m.length
    · obtain ⟨x, hx⟩ : ∃ x, l[i]? = some x := ⟨l[i], List.getElem?_eq_getElem (by omega)⟩
      have hcl : ((l.take i).map (putT y u) ++ l.drop i).length = l.length := by simp; omega
      have hxi := (map_take_at (putT y u) l (i := i)).trans hx
      have hstep := map_take_step (putT y u) l hx
      have hstay := map_take_stay (putT y u) l hx
      generalize (l.take i).map (putT y u) ++ l.drop i = L at *
      have hxc : has (own 54 2 (.slice (some ⟨bc, 0, none⟩) l.length kc) l.length (tmsC L) :: row b14 [.int .u32 (pa : Int), .slice (some ⟨bc, 0, none⟩) l.length kc] 42 :: Δ) (fun z => cellsAt z bc (i * 2) (tmC x)) := by
        have := has_el (f := tmC) (fun _ => rfl) (by decide) (has_own (Γ := own 54 2 (.slice (some ⟨bc, 0, none⟩) l.length kc) l.length (tmsC L) :: row b14 [.int .u32 (pa : Int), .slice (some ⟨bc, 0, none⟩) l.length kc] 42 :: Δ) 0 rfl) hxi
        rwa [Nat.zero_add] at this
      refine m_run ?_
      refine TK.drawS mixed rfl ?_
      refine m_take (At.mk : At 0) ?_; refine m_take (At.mk : At 1) ?_; refine m_take (At.mk : At 2) ?_; refine m_take (At.mk : At 3) ?_; refine m_take (At.mk : At 4) ?_; refine m_take (At.mk : At 5) ?_; refine m_take (At.mk : At 6) ?_; refine m_take (At.mk : At 7) ?_; refine m_take (At.mk : At 8) ?_; refine m_take (At.mk : At 9) ?_
      (apply TA.takeA (At.mk : At 10); exact rfl; exact rfl; kernel_rfl; ((focus ((repeat (first | assumption | exact Ent.refl _ | apply Ent.tail)); done))); (apply PV.eqSt (xs := tmC x) (ys := tmC y) tabs; exact rfl; exact rfl; exact rfl; exact rfl; kernel_rfl; kernel_rfl; exact congrArg some (tm_eq x y)))
      by_cases hxy : x = y
      · refine TA.isT 111 rfl (decide_eq_true hxy) ?_
        refine m_take (At.mk : At 11) ?_; refine m_take (At.mk : At 12) ?_; refine m_take (At.mk : At 13) ?_; refine m_take (At.mk : At 14) ?_; refine m_take (At.mk : At 15) ?_; refine m_take (At.mk : At 16) ?_; refine m_take (At.mk : At 17) ?_; refine m_take (At.mk : At 18) ?_
        cases hv : y.v with
        | true =>
          have hpt : putT y u x = ⟨false, u⟩ := if_pos ⟨hxy, hv⟩
          rw [hpt] at hstep
          refine TA.isT 119 rfl rfl ?_
          refine TA.done (by kernel_rfl) ?_
          refine m_run ?_
          refine TK.drawB mixed rfl 10 (row b14 [.int .u32 (pa : Int), .slice (some ⟨bc, 0, none⟩) l.length kc] 42 :: Δ) Δ ?_
          refine m_bake (At.mk : At 0) ?_; refine m_bake (At.mk : At 1) ?_; refine m_bake (At.mk : At 2) ?_; refine m_bake (At.mk : At 3) ?_; refine m_bake (At.mk : At 4) ?_; refine m_bake (At.mk : At 5) ?_; refine m_bake (At.mk : At 6) ?_; refine m_bake (At.mk : At 7) ?_
          (apply TB.one 8; kernel_rfl; exact rfl; exact rfl)
          (apply TL.callV; exact rfl; exact callB_of (by kernel_rfl); exact rfl; exact fun _ h => h)
          exact mks_t u _
          rintro _ _ ⟨rfl, rfl⟩
          refine TL.backB (by (focus ((repeat (first | assumption | exact Ent.refl _ | apply Ent.tail)); done))) ?_
          refine m_bake (At.mk : At 9) ?_
          (apply TB.last; kernel_rfl; exact rfl)
          (apply TL.storeOwnA 0 i; exact rfl; exact rfl; exact rfl; exact rfl; exact tb rfl; exact rfl; exact rfl; exact rfl; exact (by omega); exact tmsC_set _ (by rw [hcl]; omega); exact rfl)
          refine TL.back (by (focus ((repeat (first | assumption | exact Ent.refl _ | apply Ent.tail)); done))) ?_
          refine TA.done (by kernel_rfl) ?_
          rw [hstep]
          refine m_run ?_
          exact IH (j - 1) _ _ (by omega) ⟨i + 1, by omega, rfl, rfl, rfl, rfl, rfl, congrArg (Value.int .i64) (i64_succ i (by omega)), rfl⟩
        | false =>
          refine TA.isF 119 rfl rfl ?_
          refine TA.done (by kernel_rfl) ?_
          rw [hstay (if_neg fun h => (by rw [hv] at h; cases h.2))]
          refine m_run ?_
          exact IH (j - 1) _ _ (by omega) ⟨i + 1, by omega, rfl, rfl, rfl, rfl, rfl, congrArg (Value.int .i64) (i64_succ i (by omega)), rfl⟩
      · refine TA.isF 111 rfl (decide_eq_false hxy) ?_
        refine m_take (At.mk : At 11) ?_; refine m_take (At.mk : At 12) ?_; refine m_take (At.mk : At 13) ?_; refine m_take (At.mk : At 14) ?_; refine m_take (At.mk : At 15) ?_; refine m_take (At.mk : At 16) ?_; refine m_take (At.mk : At 17) ?_; refine m_take (At.mk : At 18) ?_
        refine TA.done (by kernel_rfl) ?_
        rw [hstay (if_neg fun h => hxy h.1)]
        refine m_run ?_
        exact IH (j - 1) _ _ (by omega) ⟨i + 1, by omega, rfl, rfl, rfl, rfl, rfl, congrArg (Value.int .i64) (i64_succ i (by omega)), rfl⟩
    obtain rfl : i = m.length := by omega
    have hml : (l.map (putT y u)).length = l.length := List.length_map ..
    have hput := match_put hlm hy hu
    rw [show (l.take m.length).map (putT y u) ++ l.drop m.length = l.map (putT y u) by rw [← hlm, List.take_length, List.drop_length, List.append_nil]]
    generalize l.map (putT y u) = L3 at *
    refine TK.imp (Δ := own 54 2 (.slice (some ⟨bc, 0, none⟩) L3.length kc) L3.length (tmsC L3) :: row b14 [.int .u32 (pa : Int), .slice (some ⟨bc, 0, none⟩) L3.length kc] 42 :: Δ) (fun _ h => by rw [hml]; exact h) ?_
    refine m_run ?_
    refine TK.drawS mixed rfl ?_
    refine m_take (At.mk : At 0) ?_; refine m_take (At.mk : At 1) ?_; refine m_take (At.mk : At 3) ?_; refine m_take (At.mk : At 4) ?_
    (apply TA.one 2; kernel_rfl; exact rfl)
    (apply TL.callV; exact rfl; exact callB_of (by kernel_rfl); exact rfl; exact fun _ h => h)
    exact matchG_t ⟨pa, some ⟨bc, 0, none⟩, kc, L3⟩ ⟨pf, some ⟨bf, fo, none⟩, cf, m⟩ _ ⟨has_own 0 rfl, by show L3.length ≤ kc; omega⟩ (Fct.ok_tl (Fct.ok_tl fΔ)) (by show L3.length ≤ _; omega)
    rintro _ _ ⟨rfl, rfl⟩
    refine TL.back (by (focus ((repeat (first | assumption | exact Ent.refl _ | apply Ent.tail)); done))) ?_
    (apply TA.one 5; kernel_rfl; exact rfl)
    (apply TL.callV; exact rfl; exact callB_of (by kernel_rfl); exact rfl; exact fun _ h => h)
    exact matchG_t ⟨pa, some ⟨ba, ao, none⟩, ca, l⟩ ⟨pf, some ⟨bf, fo, none⟩, cf, m⟩ _ (Atm.ok_tl (Atm.ok_tl aΔ)) (Fct.ok_tl (Fct.ok_tl fΔ)) (by show l.length ≤ _; omega)
    rintro _ _ ⟨rfl, rfl⟩
    refine TL.back (by (focus ((repeat (first | assumption | exact Ent.refl _ | apply Ent.tail)); done))) ?_
    refine m_take (At.mk : At 6) ?_
    refine TA.isT 136 rfl (by simp [matA, hml, hlm, hput]) ?_
    refine m_take (At.mk : At 7) ?_
    (apply TA.one 8; kernel_rfl; exact rfl)
    refine m_rrun ?_
    (apply TL.callV; exact rfl; exact callB_of (by kernel_rfl); exact rfl; exact fun _ h => h)
    exact works5_t _
    rintro _ _ ⟨rfl, rfl⟩
    refine TL.back (by (focus ((repeat (first | assumption | exact Ent.refl _ | apply Ent.tail)); done))) ?_
    refine m_take (At.mk : At 9) ?_; refine m_take (At.mk : At 10) ?_
    refine TA.done (by kernel_rfl) ?_
    refine m_run ?_
    (apply TK.retS1; exact rfl; exact rfl; (exact m_val))
    · exact ⟨_, rfl, rfl, rfl⟩
    · exact .cons _ (.cons _ hsub)
  · refine m_run ?_
    (apply TL.callV; exact rfl; exact callB_of (by kernel_rfl); exact rfl; exact fun _ h => h)
    exact matchG_t ⟨pa, Aa, ca, l⟩ ⟨pf, some ⟨bf, fo, none⟩, cf, m⟩ _ (Atm.ok_tl aΔ) (Fct.ok_tl fΔ) (by show l.length ≤ _; omega)
    rintro _ _ ⟨rfl, rfl⟩
    rw [show matA ⟨pa, Aa, ca, l⟩ ⟨pf, some ⟨bf, fo, none⟩, cf, m⟩ = false by simp [matA, hlm]]
    refine m_rrun ?_
    (apply TL.callV; exact rfl; exact callB_of (by kernel_rfl); exact rfl; exact fun _ h => h)
    exact works5_t _
    rintro _ _ ⟨rfl, rfl⟩
    refine m_run ?_
    (apply TK.retS1; exact rfl; exact rfl; (exact m_val))
    · exact ⟨_, rfl, rfl, rfl⟩
    · exact .cons _ hsub
end Go.Proofs.Ytokggdgagfmacaa.E
