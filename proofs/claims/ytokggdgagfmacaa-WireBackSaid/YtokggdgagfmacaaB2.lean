/- Which atoms and clauses are the same: atoms.Same and the document's. -/
import Derived.Test.YtokggdgagfmacaaB1
namespace Go.Proofs.Ytokggdgagfmacaa.E
open Go Go.RowKit Go.Proofs
attribute [local irreducible] TK TL TQ TA Fn PV
theorem take_step {α : Type} {l m : List α} {i : Nat} {x y : α} (ht : l.take i = m.take i) (hx : l[i]? = some x) (hy : m[i]? = some y) : (x = y → l.take (i + 1) = m.take (i + 1)) ∧ (x ≠ y → l ≠ m) := by
  constructor
  · rintro rfl
    rw [List.take_add_one, List.take_add_one, hx, hy, ht]
  · rintro h rfl
    rw [hx] at hy
    exact h (Option.some.inj hy)
set_option maxRecDepth 100000 in
set_option maxHeartbeats 1000000 in
theorem equal_t (A B : Option Addr) (c d : Nat) (l m : List Tm) (Γ : List HP) (hs : has Γ (srcAt 2 A l.length (tmsC l))) (ht : has Γ (srcAt 2 B m.length (tmsC m))) (hn : l.length ≤ 1000000) :
    FnV Try.prog 125 [.slice A l.length c, .slice B m.length d] Γ fun v Γ' => v = .bool (decide (l = m)) ∧ Γ' = Γ := by
  refine Fn.enter Try.func125 rfl rfl rfl fun E => ?_
  by_cases hl : l.length = m.length
  · refine m_run ?_
    apply TK.iter (fun j ρ' Γ' => ∃ i : Nat, i + j = l.length ∧ l.take i = m.take i ∧ lk ρ' 0 = .slice A l.length c ∧ lk ρ' 1 = .slice B m.length d ∧ lk ρ' 12 = .int .i64 (l.length : Int) ∧ lk ρ' 13 = .int .i64 (i : Int) ∧ Γ' = Γ) l.length
    · exact ⟨0, Nat.zero_add _, rfl, rfl, rfl, rfl, rfl, rfl⟩
    rintro j IH ρ' Γ ⟨i, hij, htk, e0, e1, e12, e13, rfl⟩
    refine TK.know4 e0 e1 e12 e13 ?_
    by_cases hi : i < l.length
    · obtain ⟨x, hx⟩ : ∃ x, l[i]? = some x := ⟨l[i], List.getElem?_eq_getElem hi⟩
      obtain ⟨y, hy⟩ : ∃ y, m[i]? = some y := ⟨m[i], List.getElem?_eq_getElem (by omega)⟩
      have hst := take_step htk hx hy
      refine TK.mem fun m0 hm0 => ?_
      obtain ⟨b, o, rfl⟩ := src_some (hs m0 hm0) (by rw [tmsC_len]; omega)
      obtain ⟨b', o', rfl⟩ := src_some (ht m0 hm0) (by rw [tmsC_len]; omega)
      clear hm0 m0
      have hx1 := has_el (f := tmC) (fun _ => rfl) (by decide) hs hx
      have hy1 := has_el (f := tmC) (fun _ => rfl) (by decide) ht hy
      refine m_run ?_
      refine TK.drawS mixed rfl ?_
      refine m_take (At.mk : At 0) ?_; refine m_take (At.mk : At 1) ?_; refine m_take (At.mk : At 2) ?_; refine m_take (At.mk : At 3) ?_; refine m_take (At.mk : At 4) ?_; refine m_take (At.mk : At 5) ?_; refine m_take (At.mk : At 6) ?_; refine m_take (At.mk : At 7) ?_
      (apply TA.takeA (At.mk : At 8); exact rfl; exact rfl; kernel_rfl; ((focus ((repeat (first | assumption | exact Ent.refl _ | apply Ent.tail)); done))); (apply PV.neSt (xs := tmC x) (ys := tmC y) tabs; exact rfl; exact rfl; exact rfl; exact rfl; kernel_rfl; kernel_rfl; exact congrArg some (tm_eq x y)))
      by_cases hxy : x = y
      · refine TA.isF 24 rfl (by rw [decide_eq_true hxy]; rfl) ?_
        refine TA.done (by kernel_rfl) ?_
        have := hst.1 hxy
        refine m_run ?_
        exact IH (j - 1) _ _ (by omega) ⟨i + 1, by omega, this, rfl, rfl, rfl, congrArg (Value.int .i64) (i64_succ i (by omega)), rfl⟩
      · refine TA.isT 24 rfl (by rw [decide_eq_false hxy]; rfl) ?_
        refine TA.done (by kernel_rfl) ?_
        refine m_run ?_
        (apply TK.ret1; exact rfl; exact rfl; (exact m_val))
        exact ⟨_, rfl, congrArg Value.bool (decide_eq_false (hst.2 hxy)).symm, rfl⟩
    obtain rfl : i = l.length := by omega
    have he : l = m := by
      rw [List.take_length, hl, List.take_length] at htk
      exact htk
    refine m_run ?_
    (apply TK.ret1; exact rfl; exact rfl; (exact m_val))
    exact ⟨_, rfl, congrArg Value.bool (decide_eq_true he).symm, rfl⟩
  · refine m_run ?_
    (apply TK.ret1; exact rfl; exact rfl; (exact m_val))
    exact ⟨_, rfl, congrArg Value.bool (decide_eq_false fun e => hl (by rw [e])).symm, rfl⟩
theorem sameAtom_t (a b : Atm) (Γ : List HP) (ha : a.ok Γ) (hb : b.ok Γ) (hn : a.l.length ≤ 1000000) :
    FnV Try.prog 104 [.agg a.cells.toArray, .agg b.cells.toArray] Γ fun v Γ' => v = .bool (sameA a b) ∧ Γ' = Γ := by
  refine Fn.enter Try.func104 rfl rfl rfl fun E => ?_
  refine m_run ?_
  (apply TL.box; exact rfl; exact rfl; (exact m_lst))
  intro b1
  refine m_run ?_
  (apply TL.box; exact rfl; exact rfl; (exact m_lst))
  intro b2
  by_cases hp : a.p = b.p
  · refine m_run ?_
    (apply TL.callV; exact rfl; exact callB_of (by kernel_rfl); exact rfl; exact fun _ h => h)
    exact equal_t a.A b.A a.c b.c a.l b.l _ (has_tls (has_tls ha.1)) (has_tls (has_tls hb.1)) hn
    rintro _ _ ⟨rfl, rfl⟩
    refine m_run ?_
    (apply TK.retS1; exact rfl; exact rfl; (exact m_val))
    · exact ⟨_, rfl, congrArg Value.bool (by simp [sameA, hp]), rfl⟩
    · (repeat (first | exact List.Sublist.refl _ | apply List.Sublist.cons_cons | apply List.Sublist.cons))
  · refine m_run ?_
    (apply TK.retS1; exact rfl; exact rfl; (exact m_val))
    · exact ⟨_, rfl, congrArg Value.bool (by simp [sameA, hp]), rfl⟩
    · (repeat (first | exact List.Sublist.refl _ | apply List.Sublist.cons_cons | apply List.Sublist.cons))
theorem sameLit_t (x y : Lt) (Γ : List HP) (ha : x.a.ok Γ) (hb : y.a.ok Γ) (hn : x.a.l.length ≤ 1000000) :
    FnV Try.prog 106 [.agg x.cells.toArray, .agg y.cells.toArray] Γ fun v Γ' => v = .bool (x.no == y.no && sameA x.a y.a) ∧ Γ' = Γ := by
  refine Fn.enter Try.func106 rfl rfl rfl fun E => ?_
  refine m_run ?_
  (apply TL.box; exact rfl; exact rfl; (exact m_lst))
  intro b1
  refine m_run ?_
  (apply TL.box; exact rfl; exact rfl; (exact m_lst))
  intro b2
  refine m_run ?_
  cases hno : (x.no == y.no) with
  | true =>
    refine m_run ?_
    (apply TL.callV; exact rfl; exact callB_of (by kernel_rfl); exact rfl; exact fun _ h => h)
    exact sameAtom_t x.a y.a _ (Atm.ok_tl (Atm.ok_tl ha)) (Atm.ok_tl (Atm.ok_tl hb)) hn
    rintro _ _ ⟨rfl, rfl⟩
    refine m_run ?_
    (apply TK.retS1; exact rfl; exact rfl; (exact m_val))
    · exact ⟨_, rfl, by simp, rfl⟩
    · (repeat (first | exact List.Sublist.refl _ | apply List.Sublist.cons_cons | apply List.Sublist.cons))
  | false =>
    refine m_run ?_
    (apply TK.retS1; exact rfl; exact rfl; (exact m_val))
    · exact ⟨_, rfl, by simp, rfl⟩
    · (repeat (first | exact List.Sublist.refl _ | apply List.Sublist.cons_cons | apply List.Sublist.cons))
theorem sameLs_take {l m : List Lt} : ∀ (i : Nat) {x y : Lt}, sameLs (l.take i) (m.take i) = true → l[i]? = some x → m[i]? = some y → sameLs (l.take (i + 1)) (m.take (i + 1)) = (x.no == y.no && sameA x.a y.a) ∧ ((x.no == y.no && sameA x.a y.a) = false → sameLs l m = false) := by
  induction l generalizing m with
  | nil => intro i x y _ h; simp at h
  | cons a l ih =>
    intro i x y h h1 h2
    cases m with
    | nil => simp at h2
    | cons b m =>
      cases i with
      | zero =>
        simp only [List.getElem?_cons_zero, Option.some.injEq] at h1 h2
        subst h1; subst h2
        refine ⟨by simp [sameLs], fun h3 => ?_⟩
        simp only [sameLs, h3, Bool.false_and]
      | succ i =>
        simp only [List.take_succ_cons, sameLs, Bool.and_eq_true] at h
        have := ih (m := m) i h.2 (by simpa using h1) (by simpa using h2)
        refine ⟨?_, fun h3 => ?_⟩
        · simp only [List.take_succ_cons, sameLs, this.1]
          simp [h.1.1, h.1.2]
        · simp only [sameLs, this.2 h3, Bool.and_false]
theorem sameLs_neq {l m : List Lt} (h : l.length ≠ m.length) : sameLs l m = false := by
  cases hs : sameLs l m with
  | false => rfl
  | true => exact absurd (sameLs_len hs) h
set_option maxRecDepth 100000 in
set_option maxHeartbeats 1000000 in
theorem equalF_t (A B : Option Addr) (c d : Nat) (l m : List Lt) (Γ : List HP) (hs : has Γ (srcAt 3 A l.length (ltsC l))) (ht : has Γ (srcAt 3 B m.length (ltsC m))) (hn : l.length ≤ 1000000)
    (ha : ∀ x ∈ l, x.a.ok Γ) (hb : ∀ x ∈ m, x.a.ok Γ) (hna : ∀ x ∈ l, x.a.l.length ≤ 1000000) :
    FnV Try.prog 105 [.slice A l.length c, .slice B m.length d, .func (.func 106) #[] #[]] Γ fun v Γ' => v = .bool (sameLs l m) ∧ Γ' = Γ := by
  refine Fn.enter Try.func105 rfl rfl rfl fun E => ?_
  by_cases hl : l.length = m.length
  · refine m_run ?_
    apply TK.iter (fun j ρ' Γ' => ∃ i : Nat, i + j = l.length ∧ sameLs (l.take i) (m.take i) = true ∧ lk ρ' 0 = .slice A l.length c ∧ lk ρ' 1 = .slice B m.length d ∧ lk ρ' 2 = .func (.func 106) #[] #[] ∧ lk ρ' 15 = .slice A l.length c ∧ lk ρ' 16 = .int .i64 (l.length : Int) ∧ lk ρ' 17 = .int .i64 (i : Int) ∧ Γ' = Γ) l.length
    · exact ⟨0, Nat.zero_add _, rfl, rfl, rfl, rfl, rfl, rfl, rfl, rfl⟩
    rintro j IH ρ' Γ ⟨i, hij, htk, e0, e1, e2, e15, e16, e17, rfl⟩
    refine TK.know6 e0 e1 e2 e15 e16 e17 ?_
    by_cases hi : i < l.length
    · obtain ⟨x, hx⟩ : ∃ x, l[i]? = some x := ⟨l[i], List.getElem?_eq_getElem hi⟩
      obtain ⟨y, hy⟩ : ∃ y, m[i]? = some y := ⟨m[i], List.getElem?_eq_getElem (by omega)⟩
      have hst := sameLs_take i htk hx hy
      have hxm := List.mem_of_getElem? hx
      have hym := List.mem_of_getElem? hy
      refine TK.mem fun m0 hm0 => ?_
      obtain ⟨b, o, rfl⟩ := src_some (hs m0 hm0) (by rw [ltsC_len]; omega)
      obtain ⟨b', o', rfl⟩ := src_some (ht m0 hm0) (by rw [ltsC_len]; omega)
      clear hm0 m0
      obtain ⟨hx1, _, _⟩ := has_lit hs hx
      obtain ⟨hy1, _, _⟩ := has_lit ht hy
      refine m_run ?_
      (apply TL.alloc; exact rfl; exact tb rfl; exact (rfl : _ = [_, _, _]))
      intro b8
      refine m_run ?_
      (apply TL.alloc; exact rfl; exact tb rfl; exact (rfl : _ = [_, _, _]))
      intro b9
      refine m_run ?_
      (apply TL.callFV (fs := []) (cs := []) (vs := [.agg x.cells.toArray, .agg y.cells.toArray]); exact rfl; exact rfl; exact callB_of (by kernel_rfl); exact rfl; exact fun _ h => h)
      exact sameLit_t x y _ (Atm.ok_tl (Atm.ok_tl (ha x hxm))) (Atm.ok_tl (Atm.ok_tl (hb y hym))) (hna x hxm)
      rintro _ _ ⟨rfl, rfl⟩
      cases hv : (x.no == y.no && sameA x.a y.a) with
      | true =>
        rw [hv] at hst
        refine m_run ?_
        refine TK.sub (Δ := Γ) (by (repeat (first | exact List.Sublist.refl _ | apply List.Sublist.cons_cons | apply List.Sublist.cons))) ?_
        exact IH (j - 1) _ _ (by omega) ⟨i + 1, by omega, hst.1, rfl, rfl, rfl, rfl, rfl, congrArg (Value.int .i64) (i64_succ i (by omega)), rfl⟩
      | false =>
        have := hst.2 hv
        refine m_run ?_
        (apply TK.retS1; exact rfl; exact rfl; (exact m_val))
        · exact ⟨_, rfl, congrArg Value.bool this.symm, rfl⟩
        · (repeat (first | exact List.Sublist.refl _ | apply List.Sublist.cons_cons | apply List.Sublist.cons))
    obtain rfl : i = l.length := by omega
    rw [List.take_length, hl, List.take_length] at htk
    rw [htk]
    refine m_run ?_
    (apply TK.ret1; exact rfl; exact rfl; (exact m_val))
    exact ⟨_, rfl, rfl, rfl⟩
  · rw [sameLs_neq hl]
    refine m_run ?_
    (apply TK.ret1; exact rfl; exact rfl; (exact m_val))
    exact ⟨_, rfl, rfl, rfl⟩
theorem same_t (a b : Cl) (Γ : List HP) (ha : a.ok Γ) (hb : b.ok Γ) (hn : a.small) :
    FnV Try.prog 58 [.agg a.cells.toArray, .agg b.cells.toArray] Γ fun v Γ' => v = .bool (sameC a b) ∧ Γ' = Γ := by
  refine Fn.enter Try.func58 rfl rfl rfl fun E => ?_
  refine m_run ?_
  (apply TL.box; exact rfl; exact rfl; (exact m_lst))
  intro b1
  refine m_run ?_
  (apply TL.box; exact rfl; exact rfl; (exact m_lst))
  intro b2
  refine m_run ?_
  (apply TL.callV; exact rfl; exact callB_of (by kernel_rfl); exact rfl; exact fun _ h => h)
  exact sameAtom_t a.h b.h _ (Atm.ok_tl (Atm.ok_tl ha.1)) (Atm.ok_tl (Atm.ok_tl hb.1)) hn.2.1
  rintro _ _ ⟨rfl, rfl⟩
  cases hh : sameA a.h b.h with
  | true =>
    refine m_run ?_
    (apply TL.callV; exact rfl; exact callB_of (by kernel_rfl); exact rfl; exact fun _ h => h)
    exact equalF_t a.A b.A a.c b.c a.l b.l _ (has_tls (has_tls ha.2.1)) (has_tls (has_tls hb.2.1)) hn.1 (fun x hx => Atm.ok_tl (Atm.ok_tl (ha.2.2.2 x hx))) (fun x hx => Atm.ok_tl (Atm.ok_tl (hb.2.2.2 x hx))) hn.2.2
    rintro _ _ ⟨rfl, rfl⟩
    refine m_run ?_
    (apply TK.retS1; exact rfl; exact rfl; (exact m_val))
    · exact ⟨_, rfl, by simp [sameC, hh], rfl⟩
    · (repeat (first | exact List.Sublist.refl _ | apply List.Sublist.cons_cons | apply List.Sublist.cons))
  | false =>
    refine m_run ?_
    (apply TK.retS1; exact rfl; exact rfl; (exact m_val))
    · exact ⟨_, rfl, by simp [sameC, hh], rfl⟩
    · (repeat (first | exact List.Sublist.refl _ | apply List.Sublist.cons_cons | apply List.Sublist.cons))
/-! ### the document's -/
set_option maxRecDepth 100000 in
set_option maxHeartbeats 1000000 in
theorem rsameAtom_t (a b : Atm) (Γ : List HP) (ha : a.ok Γ) (hb : b.ok Γ) (hn : a.l.length ≤ 1000000) :
    FnV Try.prog 55 [.agg a.cells.toArray, .agg b.cells.toArray] Γ fun v Γ' => v = .bool (sameA a b) ∧ Γ' = Γ := by
  refine Fn.enter Try.func55 rfl rfl rfl fun E => ?_
  obtain ⟨p, A, c, l⟩ := a
  obtain ⟨q, B, d, m⟩ := b
  have hs : has Γ (srcAt 2 A l.length (tmsC l)) := ha.1
  have ht : has Γ (srcAt 2 B m.length (tmsC m)) := hb.1
  replace hn : l.length ≤ 1000000 := hn
  refine m_run ?_
  (apply TL.box; exact rfl; exact rfl; (exact m_lst))
  intro b1
  refine m_run ?_
  (apply TL.box; exact rfl; exact rfl; (exact m_lst))
  intro b2
  refine TL.imp (Δ := row b2 [.int .u32 (q : Int), .slice B m.length d] 42 :: row b1 [.int .u32 (p : Int), .slice A l.length c] 42 :: Γ) (fun _ h => h) ?_
  by_cases hp : p = q
  · by_cases hl : l.length = m.length
    · refine m_run ?_
      apply TK.iter (fun j ρ' Γ' => ∃ i : Nat, i + j = l.length ∧ l.take i = m.take i ∧ lk ρ' 2 = .pointer (some ⟨b1, 0, none⟩) ∧ lk ρ' 3 = .pointer (some ⟨b2, 0, none⟩) ∧ lk ρ' 5 = .int .i64 (i : Int) ∧ Γ' = row b2 [.int .u32 (q : Int), .slice B m.length d] 42 :: row b1 [.int .u32 (p : Int), .slice A l.length c] 42 :: Γ) l.length
      · exact ⟨0, Nat.zero_add _, rfl, rfl, rfl, rfl, rfl⟩
      rintro j IH ρ' _ ⟨i, hij, htk, e2, e3, e5, rfl⟩
      refine TK.know3 e2 e3 e5 ?_
      by_cases hi : i < l.length
      · obtain ⟨x, hx⟩ : ∃ x, l[i]? = some x := ⟨l[i], List.getElem?_eq_getElem hi⟩
        obtain ⟨y, hy⟩ : ∃ y, m[i]? = some y := ⟨m[i], List.getElem?_eq_getElem (by omega)⟩
        have hst := take_step htk hx hy
        refine TK.mem fun m0 hm0 => ?_
        obtain ⟨b, o, rfl⟩ := src_some (has_tls (has_tls hs) m0 hm0) (by rw [tmsC_len]; omega)
        obtain ⟨b', o', rfl⟩ := src_some (has_tls (has_tls ht) m0 hm0) (by rw [tmsC_len]; omega)
        clear hm0 m0
        have hx1 := has_tlg (K := row b2 [.int .u32 (q : Int), .slice (some ⟨b', o', none⟩) m.length d] 42) (has_tlg (K := row b1 [.int .u32 (p : Int), .slice (some ⟨b, o, none⟩) l.length c] 42) (has_el (f := tmC) (fun _ => rfl) (by decide) hs hx))
        have hy1 := has_tlg (K := row b2 [.int .u32 (q : Int), .slice (some ⟨b', o', none⟩) m.length d] 42) (has_tlg (K := row b1 [.int .u32 (p : Int), .slice (some ⟨b, o, none⟩) l.length c] 42) (has_el (f := tmC) (fun _ => rfl) (by decide) ht hy))
        refine m_run ?_
        refine TK.drawS mixed rfl ?_
        refine m_take (At.mk : At 0) ?_; refine m_take (At.mk : At 1) ?_; refine m_take (At.mk : At 2) ?_; refine m_take (At.mk : At 3) ?_; refine m_take (At.mk : At 4) ?_; refine m_take (At.mk : At 5) ?_; refine m_take (At.mk : At 6) ?_; refine m_take (At.mk : At 7) ?_; refine m_take (At.mk : At 8) ?_; refine m_take (At.mk : At 9) ?_
        (apply TA.takeA (At.mk : At 10); exact rfl; exact rfl; kernel_rfl; ((focus ((repeat (first | assumption | exact Ent.refl _ | apply Ent.tail)); done))); (apply PV.neSt (xs := tmC x) (ys := tmC y) tabs; exact rfl; exact rfl; exact rfl; exact rfl; kernel_rfl; kernel_rfl; exact congrArg some (tm_eq x y)))
        by_cases hxy : x = y
        · refine TA.isF 37 rfl (by rw [decide_eq_true hxy]; rfl) ?_
          refine TA.done (by kernel_rfl) ?_
          have := hst.1 hxy
          refine m_run ?_
          exact IH (j - 1) _ _ (by omega) ⟨i + 1, by omega, this, rfl, rfl, congrArg (Value.int .i64) (i64_succ i (by omega)), rfl⟩
        · refine TA.isT 37 rfl (by rw [decide_eq_false hxy]; rfl) ?_
          refine TA.done (by kernel_rfl) ?_
          refine m_run ?_
          (apply TK.retS1; exact rfl; exact rfl; (exact m_val))
          · exact ⟨_, rfl, congrArg Value.bool (by simp [sameA, hst.2 hxy]), rfl⟩
          · (repeat (first | exact List.Sublist.refl _ | apply List.Sublist.cons_cons | apply List.Sublist.cons))
      obtain rfl : i = l.length := by omega
      have he : l = m := by
        rw [List.take_length, hl, List.take_length] at htk
        exact htk
      refine m_run ?_
      (apply TK.retS1; exact rfl; exact rfl; (exact m_val))
      · exact ⟨_, rfl, congrArg Value.bool (by simp [sameA, he, hp]), rfl⟩
      · (repeat (first | exact List.Sublist.refl _ | apply List.Sublist.cons_cons | apply List.Sublist.cons))
    · refine m_run ?_
      (apply TK.retS1; exact rfl; exact rfl; (exact m_val))
      · exact ⟨_, rfl, congrArg Value.bool (by simp [sameA, show l ≠ m from fun e => hl (by rw [e])]), rfl⟩
      · (repeat (first | exact List.Sublist.refl _ | apply List.Sublist.cons_cons | apply List.Sublist.cons))
  · refine m_run ?_
    (apply TK.retS1; exact rfl; exact rfl; (exact m_val))
    · exact ⟨_, rfl, congrArg Value.bool (by simp [sameA, hp]), rfl⟩
    · (repeat (first | exact List.Sublist.refl _ | apply List.Sublist.cons_cons | apply List.Sublist.cons))
end Go.Proofs.Ytokggdgagfmacaa.E
