/- Which clauses may be: atoms.May and the document's. -/
import Derived.Test.YtokggdgagfmacaaB0
namespace Go.Proofs.Ytokggdgagfmacaa.E
open Go Go.RowKit Go.Proofs
attribute [local irreducible] TK TL TQ TA Fn PV

set_option maxRecDepth 100000 in
set_option maxHeartbeats 1000000 in
theorem indexF_tm (F : FuncId) (p : Tm → Bool) (A : Option Addr) (c : Nat) (l : List Tm) (Γ : List HP) (hc : Callable Try.prog F) (hs : has Γ (srcAt 2 A l.length (l.flatMap tmC))) (hn : l.length ≤ 1000000)
    (hF : ∀ x ∈ l, FnV Try.prog F [.agg (tmC x).toArray] Γ fun v Γ' => v = .bool (p x) ∧ Γ' = Γ) :
    FnV Try.prog 118 [.slice A l.length c, .func (.func F) #[] #[]] Γ fun v Γ' => (∃ i : Int, v = .int .i64 i ∧ decide (0 ≤ i) = l.any p) ∧ Γ' = Γ := by
  refine Fn.enter Try.func118 rfl rfl rfl fun E => ?_
  refine m_run ?_
  apply TK.iter (fun j ρ' Γ' => ∃ i : Nat, i + j = l.length ∧ (l.take i).any p = false ∧ lk ρ' 0 = .slice A l.length c ∧ lk ρ' 1 = .func (.func F) #[] #[] ∧ lk ρ' 7 = .int .i64 (l.length : Int) ∧ lk ρ' 8 = .int .i64 (i : Int) ∧ Γ' = Γ) l.length
  · exact ⟨0, Nat.zero_add _, by simp, rfl, rfl, rfl, rfl, rfl⟩
  rintro j IH ρ' Γ ⟨i, hij, hno, e0, e1, e7, e8, rfl⟩
  refine TK.know4 e0 e1 e7 e8 ?_
  by_cases hi : i < l.length
  · obtain ⟨x, hx⟩ : ∃ x, l[i]? = some x := ⟨l[i], List.getElem?_eq_getElem hi⟩
    refine TK.mem fun m0 hm0 => ?_
    obtain ⟨b, o, rfl⟩ := src_some (hs m0 hm0) (by rw [tmsC_len]; omega)
    clear hm0 m0
    have hel := has_el (f := tmC) (fun _ => rfl) (by decide) hs hx
    refine m_run ?_
    (apply TL.callFV (fs := []) (cs := []); exact rfl; exact rfl; exact hc; exact rfl; exact fun _ h => h)
    exact hF x (List.mem_of_getElem? hx)
    rintro _ _ ⟨rfl, rfl⟩
    cases hp : p x with
    | true =>
      refine m_run ?_
      (apply TK.ret1; exact rfl; exact rfl; (exact m_val))
      refine ⟨_, rfl, ⟨_, rfl, ?_⟩, rfl⟩
      rw [decide_eq_true (by omega)]
      exact (List.any_eq_true.2 ⟨x, List.mem_of_getElem? hx, hp⟩).symm
    | false =>
      refine m_run ?_
      refine IH (j - 1) _ _ (by omega) ⟨i + 1, by omega, ?_, rfl, rfl, rfl, congrArg (Value.int .i64) (i64_succ i (by omega)), rfl⟩
      rw [List.take_add_one, hx, List.any_append, hno]
      simp [hp]
  obtain rfl : i = l.length := by omega
  rw [List.take_length] at hno
  refine m_run ?_
  (apply TK.ret1; exact rfl; exact rfl; (exact m_val))
  exact ⟨_, rfl, ⟨_, rfl, hno.symm⟩, rfl⟩
theorem containsF_tm (F : FuncId) (p : Tm → Bool) (A : Option Addr) (c : Nat) (l : List Tm) (Γ : List HP) (hc : Callable Try.prog F) (hs : has Γ (srcAt 2 A l.length (l.flatMap tmC))) (hn : l.length ≤ 1000000)
    (hF : ∀ x ∈ l, FnV Try.prog F [.agg (tmC x).toArray] Γ fun v Γ' => v = .bool (p x) ∧ Γ' = Γ) :
    FnV Try.prog 93 [.slice A l.length c, .func (.func F) #[] #[]] Γ fun v Γ' => v = .bool (l.any p) ∧ Γ' = Γ := by
  refine Fn.enter Try.func93 rfl rfl rfl fun E => ?_
  refine m_run ?_
  (apply TL.callV; exact rfl; exact callB_of (by kernel_rfl); exact rfl; exact fun _ h => h)
  exact indexF_tm F p A c l Γ hc hs hn hF
  rintro _ _ ⟨⟨i, rfl, hi⟩, rfl⟩
  refine m_run ?_
  (apply TK.ret1; exact rfl; exact rfl; exact rfl)
  exact ⟨_, rfl, congrArg Value.bool hi, rfl⟩

set_option maxRecDepth 100000 in
set_option maxHeartbeats 1000000 in
theorem indexF_lt (F : FuncId) (p : Lt → Bool) (A : Option Addr) (c : Nat) (l : List Lt) (Γ : List HP) (hc : Callable Try.prog F) (hs : has Γ (srcAt 3 A l.length (l.flatMap Lt.cells))) (hn : l.length ≤ 1000000)
    (hF : ∀ x ∈ l, FnV Try.prog F [.agg (Lt.cells x).toArray] Γ fun v Γ' => v = .bool (p x) ∧ Γ' = Γ) :
    FnV Try.prog 124 [.slice A l.length c, .func (.func F) #[] #[]] Γ fun v Γ' => (∃ i : Int, v = .int .i64 i ∧ decide (0 ≤ i) = l.any p) ∧ Γ' = Γ := by
  refine Fn.enter Try.func124 rfl rfl rfl fun E => ?_
  refine m_run ?_
  apply TK.iter (fun j ρ' Γ' => ∃ i : Nat, i + j = l.length ∧ (l.take i).any p = false ∧ lk ρ' 0 = .slice A l.length c ∧ lk ρ' 1 = .func (.func F) #[] #[] ∧ lk ρ' 7 = .int .i64 (l.length : Int) ∧ lk ρ' 8 = .int .i64 (i : Int) ∧ Γ' = Γ) l.length
  · exact ⟨0, Nat.zero_add _, by simp, rfl, rfl, rfl, rfl, rfl⟩
  rintro j IH ρ' Γ ⟨i, hij, hno, e0, e1, e7, e8, rfl⟩
  refine TK.know4 e0 e1 e7 e8 ?_
  by_cases hi : i < l.length
  · obtain ⟨x, hx⟩ : ∃ x, l[i]? = some x := ⟨l[i], List.getElem?_eq_getElem hi⟩
    refine TK.mem fun m0 hm0 => ?_
    obtain ⟨b, o, rfl⟩ := src_some (hs m0 hm0) (by rw [ltsC_len]; omega)
    clear hm0 m0
    have hel := has_el (f := Lt.cells) (fun _ => rfl) (by decide) hs hx
    refine m_run ?_
    (apply TL.callFV (fs := []) (cs := []); exact rfl; exact rfl; exact hc; exact rfl; exact fun _ h => h)
    exact hF x (List.mem_of_getElem? hx)
    rintro _ _ ⟨rfl, rfl⟩
    cases hp : p x with
    | true =>
      refine m_run ?_
      (apply TK.ret1; exact rfl; exact rfl; (exact m_val))
      refine ⟨_, rfl, ⟨_, rfl, ?_⟩, rfl⟩
      rw [decide_eq_true (by omega)]
      exact (List.any_eq_true.2 ⟨x, List.mem_of_getElem? hx, hp⟩).symm
    | false =>
      refine m_run ?_
      refine IH (j - 1) _ _ (by omega) ⟨i + 1, by omega, ?_, rfl, rfl, rfl, congrArg (Value.int .i64) (i64_succ i (by omega)), rfl⟩
      rw [List.take_add_one, hx, List.any_append, hno]
      simp [hp]
  obtain rfl : i = l.length := by omega
  rw [List.take_length] at hno
  refine m_run ?_
  (apply TK.ret1; exact rfl; exact rfl; (exact m_val))
  exact ⟨_, rfl, ⟨_, rfl, hno.symm⟩, rfl⟩
theorem containsF_lt (F : FuncId) (p : Lt → Bool) (A : Option Addr) (c : Nat) (l : List Lt) (Γ : List HP) (hc : Callable Try.prog F) (hs : has Γ (srcAt 3 A l.length (l.flatMap Lt.cells))) (hn : l.length ≤ 1000000)
    (hF : ∀ x ∈ l, FnV Try.prog F [.agg (Lt.cells x).toArray] Γ fun v Γ' => v = .bool (p x) ∧ Γ' = Γ) :
    FnV Try.prog 102 [.slice A l.length c, .func (.func F) #[] #[]] Γ fun v Γ' => v = .bool (l.any p) ∧ Γ' = Γ := by
  refine Fn.enter Try.func102 rfl rfl rfl fun E => ?_
  refine m_run ?_
  (apply TL.callV; exact rfl; exact callB_of (by kernel_rfl); exact rfl; exact fun _ h => h)
  exact indexF_lt F p A c l Γ hc hs hn hF
  rintro _ _ ⟨⟨i, rfl, hi⟩, rfl⟩
  refine m_run ?_
  (apply TK.ret1; exact rfl; exact rfl; exact rfl)
  exact ⟨_, rfl, congrArg Value.bool hi, rfl⟩

theorem bad_t (t : Tm) (Γ : List HP) : FnV Try.prog 123 [.agg (tmC t).toArray] Γ fun v Γ' => v = .bool (badT t) ∧ Γ' = Γ := by
  refine Fn.enter Try.func123 rfl rfl rfl fun E => ?_
  obtain ⟨v, n⟩ := t
  refine m_run ?_
  (apply TL.box; exact rfl; exact rfl; (exact m_lst))
  intro b1
  cases v with
  | false =>
    refine m_run ?_
    (apply TK.retS1; exact rfl; exact rfl; (exact m_val))
    · exact ⟨_, rfl, rfl, rfl⟩
    · (repeat (first | exact List.Sublist.refl _ | apply List.Sublist.cons_cons | apply List.Sublist.cons))
  | true =>
    refine m_run ?_
    (apply TK.retS1; exact rfl; exact rfl; (exact m_val))
    · exact ⟨_, rfl, congrArg Value.bool (by simp only [badT, Bool.true_and]; exact decide_eq_decide.2 (by omega)), rfl⟩
    · (repeat (first | exact List.Sublist.refl _ | apply List.Sublist.cons_cons | apply List.Sublist.cons))
theorem mayAtom_t (a : Atm) (Γ : List HP) (h : a.ok Γ) (hn : a.l.length ≤ 1000000) : FnV Try.prog 101 [.agg a.cells.toArray] Γ fun v Γ' => v = .bool (mayA a.l) ∧ Γ' = Γ := by
  refine Fn.enter Try.func101 rfl rfl rfl fun E => ?_
  refine m_run ?_
  (apply TL.box; exact rfl; exact rfl; (exact m_lst))
  intro b1
  by_cases h6 : a.l.length ≤ 6
  · refine m_run ?_
    (apply TL.callV; exact rfl; exact callB_of (by kernel_rfl); exact rfl; exact fun _ h => h)
    exact containsF_tm _ badT a.A a.c a.l _ (callB_of (by kernel_rfl)) (has_tls h.1) hn fun x _ => bad_t x _
    rintro _ _ ⟨rfl, rfl⟩
    refine m_run ?_
    (apply TK.retS1; exact rfl; exact rfl; (exact m_val))
    · exact ⟨_, rfl, congrArg Value.bool (by simp [mayA, h6]), rfl⟩
    · (repeat (first | exact List.Sublist.refl _ | apply List.Sublist.cons_cons | apply List.Sublist.cons))
  · refine m_run ?_
    (apply TK.retS1; exact rfl; exact rfl; (exact m_val))
    · exact ⟨_, rfl, congrArg Value.bool (by simp [mayA, h6]), rfl⟩
    · (repeat (first | exact List.Sublist.refl _ | apply List.Sublist.cons_cons | apply List.Sublist.cons))
theorem mayLit_t (x : Lt) (Γ : List HP) (h : x.a.ok Γ) (hn : x.a.l.length ≤ 1000000) : FnV Try.prog 103 [.agg x.cells.toArray] Γ fun v Γ' => v = .bool (!mayA x.a.l) ∧ Γ' = Γ := by
  refine Fn.enter Try.func103 rfl rfl rfl fun E => ?_
  refine m_run ?_
  (apply TL.box; exact rfl; exact rfl; (exact m_lst))
  intro b1
  refine m_run ?_
  (apply TL.callV; exact rfl; exact callB_of (by kernel_rfl); exact rfl; exact fun _ h => h)
  exact mayAtom_t x.a _ (Atm.ok_tl h) hn
  rintro _ _ ⟨rfl, rfl⟩
  refine m_run ?_
  (apply TK.retS1; exact rfl; exact rfl; (exact m_val))
  · exact ⟨_, rfl, rfl, rfl⟩
  · (repeat (first | exact List.Sublist.refl _ | apply List.Sublist.cons_cons | apply List.Sublist.cons))
def Cl.small (c : Cl) : Prop := c.l.length ≤ 1000000 ∧ c.h.l.length ≤ 1000000 ∧ ∀ x ∈ c.l, x.a.l.length ≤ 1000000
theorem may_t (c : Cl) (Γ : List HP) (h : c.ok Γ) (hn : c.small) : FnV Try.prog 57 [.agg c.cells.toArray] Γ fun v Γ' => v = .bool (mayC c) ∧ Γ' = Γ := by
  refine Fn.enter Try.func57 rfl rfl rfl fun E => ?_
  refine m_run ?_
  (apply TL.box; exact rfl; exact rfl; (exact m_lst))
  intro b1
  by_cases h8 : c.l.length ≤ 8
  · refine m_run ?_
    (apply TL.callV; exact rfl; exact callB_of (by kernel_rfl); exact rfl; exact fun _ h => h)
    exact mayAtom_t c.h _ (Atm.ok_tl h.1) hn.2.1
    rintro _ _ ⟨rfl, rfl⟩
    cases hm : mayA c.h.l with
    | true =>
      refine m_run ?_
      (apply TL.callV; exact rfl; exact callB_of (by kernel_rfl); exact rfl; exact fun _ h => h)
      exact containsF_lt _ (fun x => !mayA x.a.l) c.A c.c c.l _ (callB_of (by kernel_rfl)) (has_tls h.2.1) hn.1 fun x hx => mayLit_t x _ (Atm.ok_tl (h.2.2.2 x hx)) (hn.2.2 x hx)
      rintro _ _ ⟨rfl, rfl⟩
      refine m_run ?_
      (apply TK.retS1; exact rfl; exact rfl; (exact m_val))
      · exact ⟨_, rfl, congrArg Value.bool (by simp [mayC, h8, hm]), rfl⟩
      · (repeat (first | exact List.Sublist.refl _ | apply List.Sublist.cons_cons | apply List.Sublist.cons))
    | false =>
      refine m_run ?_
      (apply TK.retS1; exact rfl; exact rfl; (exact m_val))
      · exact ⟨_, rfl, congrArg Value.bool (by simp [mayC, hm]), rfl⟩
      · (repeat (first | exact List.Sublist.refl _ | apply List.Sublist.cons_cons | apply List.Sublist.cons))
  · refine m_run ?_
    (apply TK.retS1; exact rfl; exact rfl; (exact m_val))
    · exact ⟨_, rfl, congrArg Value.bool (by simp [mayC, h8]), rfl⟩
    · (repeat (first | exact List.Sublist.refl _ | apply List.Sublist.cons_cons | apply List.Sublist.cons))
/-! ### the document's -/
set_option maxRecDepth 100000 in
set_option maxHeartbeats 1000000 in
theorem rmayAtom_t (a : Atm) (Γ : List HP) (h : a.ok Γ) (hn : a.l.length ≤ 1000000) : FnV Try.prog 72 [.agg a.cells.toArray] Γ fun v Γ' => v = .bool (mayA a.l) ∧ Γ' = Γ := by
  refine Fn.enter Try.func72 rfl rfl rfl fun E => ?_
  obtain ⟨p, A, c, l⟩ := a
  have hs0 : has Γ (srcAt 2 A l.length (tmsC l)) := h.1
  replace hn : l.length ≤ 1000000 := hn
  refine m_run ?_
  (apply TL.box; exact rfl; exact rfl; (exact m_lst))
  intro b1
  refine m_run ?_
  refine TK.imp (Δ := row b1 [.int .u32 (p : Int), .slice A l.length c] 42 :: Γ) (fun _ h => h) ?_
  apply TK.iter (fun j ρ' Γ' => ∃ i : Nat, i + j = l.length ∧ (l.take i).any badT = false ∧ lk ρ' 1 = .pointer (some ⟨b1, 0, none⟩) ∧ lk ρ' 3 = .int .i64 (i : Int) ∧ Γ' = row b1 [.int .u32 (p : Int), .slice A l.length c] 42 :: Γ) l.length
  · exact ⟨0, Nat.zero_add _, by simp, rfl, rfl, rfl⟩
  rintro j IH ρ' _ ⟨i, hij, hno, e1, e3, rfl⟩
  refine TK.know2 e1 e3 ?_
  by_cases hi : i < l.length
  · obtain ⟨x, hx⟩ : ∃ x, l[i]? = some x := ⟨l[i], List.getElem?_eq_getElem hi⟩
    refine TK.mem fun m0 hm0 => ?_
    obtain ⟨b, o, rfl⟩ := src_some (has_tls hs0 m0 hm0) (by rw [tmsC_len]; omega)
    clear hm0 m0
    have hel := has_el (f := tmC) (fun _ => rfl) (by decide) hs0 hx
    have hv := has_cell hel 0 (v := .bool x.v) rfl
    have hk := has_cell hel 1 (v := .int .u32 (x.n : Int)) rfl
    have hbad : badT x = true → mayA l = false := fun hb => by
      have : l.any badT = true := List.any_eq_true.2 ⟨x, List.mem_of_getElem? hx, hb⟩
      simp [mayA, this]
    have hgo : badT x = false → (l.take (i + 1)).any badT = false := fun hb => by
      rw [List.take_add_one, hx, List.any_append, hno]
      simp [hb]
    cases hxv : x.v with
    | false =>
      rw [hxv] at hv
      have hg := hgo (by simp [badT, hxv])
      refine m_run ?_
      exact IH (j - 1) _ _ (by omega) ⟨i + 1, by omega, hg, rfl, congrArg (Value.int .i64) (i64_succ i (by omega)), rfl⟩
    | true =>
      rw [hxv] at hv
      by_cases h16 : 16 ≤ x.n
      · have hb := hbad (by simp [badT, hxv, h16])
        refine m_run ?_
        (apply TK.retS1; exact rfl; exact rfl; (exact m_val))
        · exact ⟨_, rfl, congrArg Value.bool hb.symm, rfl⟩
        · (repeat (first | exact List.Sublist.refl _ | apply List.Sublist.cons_cons | apply List.Sublist.cons))
      · have hg := hgo (by simp [badT, hxv]; omega)
        refine m_run ?_
        exact IH (j - 1) _ _ (by omega) ⟨i + 1, by omega, hg, rfl, congrArg (Value.int .i64) (i64_succ i (by omega)), rfl⟩
  obtain rfl : i = l.length := by omega
  rw [List.take_length] at hno
  refine m_run ?_
  (apply TK.retS1; exact rfl; exact rfl; (exact m_val))
  · exact ⟨_, rfl, congrArg Value.bool (by simp only [mayA, hno, Bool.not_false, Bool.and_true]; exact decide_eq_decide.2 (by omega)), rfl⟩
  · (repeat (first | exact List.Sublist.refl _ | apply List.Sublist.cons_cons | apply List.Sublist.cons))
/-- What is known of a literal in a clause's body. -/
theorem has_lit {Γ : List HP} {b o n : Nat} {l : List Lt} {i : Nat} {x : Lt} (h : has Γ (srcAt 3 (some ⟨b, o, none⟩) n (ltsC l))) (hi : l[i]? = some x) :
    has Γ (fun m => cellsAt m b (o + i * 3) x.cells) ∧ has Γ (fun m => cellAt m b (o + i * 3 + 0) (.bool x.no)) ∧ has Γ (fun m => cellsAt m b (o + i * 3 + 1) x.a.cells) := by
  have hel := has_el (f := Lt.cells) (fun _ => rfl) (by decide) h hi
  refine ⟨hel, has_cell hel 0 rfl, has_imp hel fun _ hm j v hv => ?_⟩
  have := hm (j + 1) v hv
  rwa [Nat.add_comm j 1, ← Nat.add_assoc] at this
set_option maxRecDepth 100000 in
set_option maxHeartbeats 1000000 in
theorem rmay_t (c : Cl) (Γ : List HP) (h : c.ok Γ) (hn : c.small) : FnV Try.prog 25 [.agg c.cells.toArray] Γ fun v Γ' => v = .bool (mayC c) ∧ Γ' = Γ := by
  refine Fn.enter Try.func25 rfl rfl rfl fun E => ?_
  obtain ⟨⟨hp, hA, hc, hl⟩, A, c, l⟩ := c
  have hs0 : has Γ (srcAt 3 A l.length (ltsC l)) := h.2.1
  have hb0 : ∀ x ∈ l, x.a.ok Γ := h.2.2.2
  have hn1 : l.length ≤ 1000000 := hn.1
  have hn3 : ∀ x ∈ l, x.a.l.length ≤ 1000000 := hn.2.2
  refine m_run ?_
  (apply TL.box; exact rfl; exact rfl; (exact m_lst))
  intro b1
  refine m_run ?_
  refine TK.imp (Δ := row b1 [.int .u32 (hp : Int), .slice hA hl.length hc, .slice A l.length c] 45 :: Γ) (fun _ h => h) ?_
  apply TK.iter (fun j ρ' Γ' => ∃ i : Nat, i + j = l.length ∧ ((l.take i).any fun x => !mayA x.a.l) = false ∧ lk ρ' 1 = .pointer (some ⟨b1, 0, none⟩) ∧ lk ρ' 3 = .int .i64 (i : Int) ∧ Γ' = row b1 [.int .u32 (hp : Int), .slice hA hl.length hc, .slice A l.length c] 45 :: Γ) l.length
  · exact ⟨0, Nat.zero_add _, by simp, rfl, rfl, rfl⟩
  rintro j IH ρ' _ ⟨i, hij, hno, e1, e3, rfl⟩
  refine TK.know2 e1 e3 ?_
  by_cases hi : i < l.length
  · obtain ⟨x, hx⟩ : ∃ x, l[i]? = some x := ⟨l[i], List.getElem?_eq_getElem hi⟩
    have hxm := List.mem_of_getElem? hx
    refine TK.mem fun m0 hm0 => ?_
    obtain ⟨b, o, rfl⟩ := src_some (has_tls hs0 m0 hm0) (by rw [ltsC_len]; omega)
    clear hm0 m0
    obtain ⟨_, _, hat⟩ := has_lit hs0 hx
    refine m_run ?_
    (apply TL.callV; exact rfl; exact callB_of (by kernel_rfl); exact rfl; exact fun _ h => h)
    exact rmayAtom_t x.a _ (Atm.ok_tl (hb0 x hxm)) (hn3 x hxm)
    rintro _ _ ⟨rfl, rfl⟩
    cases hm : mayA x.a.l with
    | true =>
      refine m_run ?_
      refine IH (j - 1) _ _ (by omega) ⟨i + 1, by omega, ?_, rfl, congrArg (Value.int .i64) (i64_succ i (by omega)), rfl⟩
      rw [List.take_add_one, hx, List.any_append, hno]
      simp [hm]
    | false =>
      have : (l.any fun x => !mayA x.a.l) = true := List.any_eq_true.2 ⟨x, hxm, by simp [hm]⟩
      refine m_run ?_
      (apply TK.retS1; exact rfl; exact rfl; (exact m_val))
      · exact ⟨_, rfl, congrArg Value.bool (by simp [mayC, this]), rfl⟩
      · (repeat (first | exact List.Sublist.refl _ | apply List.Sublist.cons_cons | apply List.Sublist.cons))
  obtain rfl : i = l.length := by omega
  rw [List.take_length] at hno
  refine m_run ?_
  (apply TL.callV; exact rfl; exact callB_of (by kernel_rfl); exact rfl; exact fun _ h => h)
  exact rmayAtom_t ⟨hp, hA, hc, hl⟩ _ (Atm.ok_tl h.1) hn.2.1
  rintro _ _ ⟨rfl, rfl⟩
  cases hm : mayA hl with
  | true =>
    refine m_run ?_
    (apply TK.retS1; exact rfl; exact rfl; (exact m_val))
    · exact ⟨_, rfl, congrArg Value.bool (by simp only [mayC, hno, hm, Bool.not_false, Bool.and_true]; exact decide_eq_decide.2 (by omega)), rfl⟩
    · (repeat (first | exact List.Sublist.refl _ | apply List.Sublist.cons_cons | apply List.Sublist.cons))
  | false =>
    refine m_run ?_
    (apply TK.retS1; exact rfl; exact rfl; (exact m_val))
    · exact ⟨_, rfl, congrArg Value.bool (by simp [mayC, hm]), rfl⟩
    · (repeat (first | exact List.Sublist.refl _ | apply List.Sublist.cons_cons | apply List.Sublist.cons))
theorem rbig_t (a : Atm) (Γ : List HP) : FnV Try.prog 38 [.agg a.cells.toArray] Γ fun v Γ' => v = .bool (decide (100 < a.l.length)) ∧ Γ' = Γ := by
  refine Fn.enter Try.func38 rfl rfl rfl fun E => ?_
  refine m_run ?_
  (apply TL.box; exact rfl; exact rfl; (exact m_lst))
  intro b1
  refine m_run ?_
  (apply TK.retS1; exact rfl; exact rfl; (exact m_val))
  · exact ⟨_, rfl, congrArg Value.bool (decide_eq_decide.2 (by omega)), rfl⟩
  · (repeat (first | exact List.Sublist.refl _ | apply List.Sublist.cons_cons | apply List.Sublist.cons))
set_option maxRecDepth 100000 in
set_option maxHeartbeats 1000000 in
theorem rbigC_t (c : Cl) (Γ : List HP) (h : c.ok Γ) : FnV Try.prog 23 [.agg c.cells.toArray] Γ fun v Γ' => v = .bool (bigC c) ∧ Γ' = Γ := by
  refine Fn.enter Try.func23 rfl rfl rfl fun E => ?_
  obtain ⟨⟨hp, hA, hc, hl⟩, A, c, l⟩ := c
  have hs0 : has Γ (srcAt 3 A l.length (ltsC l)) := h.2.1
  by_cases h1 : 100 < l.length
  · refine m_run ?_
    (apply TL.box; exact rfl; exact rfl; (exact m_lst))
    intro b1
    refine TL.imp (Δ := row b1 [.int .u32 (hp : Int), .slice hA hl.length hc, .slice A l.length c] 45 :: Γ) (fun _ h => h) ?_
    refine m_run ?_
    (apply TK.retS1; exact rfl; exact rfl; (exact m_val))
    · exact ⟨_, rfl, congrArg Value.bool (by simp [bigC, h1]), rfl⟩
    · (repeat (first | exact List.Sublist.refl _ | apply List.Sublist.cons_cons | apply List.Sublist.cons))
  refine m_run ?_
  (apply TL.box; exact rfl; exact rfl; (exact m_lst))
  intro b1
  refine TL.imp (Δ := row b1 [.int .u32 (hp : Int), .slice hA hl.length hc, .slice A l.length c] 45 :: Γ) (fun _ h => h) ?_
  refine m_run ?_
  (apply TL.callV; exact rfl; exact callB_of (by kernel_rfl); exact rfl; exact fun _ h => h)
  exact rbig_t ⟨hp, hA, hc, hl⟩ _
  rintro _ _ ⟨rfl, rfl⟩
  by_cases h2 : 100 < hl.length
  · refine m_run ?_
    (apply TK.retS1; exact rfl; exact rfl; (exact m_val))
    · exact ⟨_, rfl, congrArg Value.bool (by simp [bigC, h2]), rfl⟩
    · (repeat (first | exact List.Sublist.refl _ | apply List.Sublist.cons_cons | apply List.Sublist.cons))
  refine m_run ?_
  apply TK.iter (fun j ρ' Γ' => ∃ i : Nat, i + j = l.length ∧ ((l.take i).any fun x => decide (100 < x.a.l.length)) = false ∧ lk ρ' 1 = .pointer (some ⟨b1, 0, none⟩) ∧ lk ρ' 3 = .int .i64 (i : Int) ∧ Γ' = row b1 [.int .u32 (hp : Int), .slice hA hl.length hc, .slice A l.length c] 45 :: Γ) l.length
  · exact ⟨0, Nat.zero_add _, by simp, rfl, rfl, rfl⟩
  rintro j IH ρ' _ ⟨i, hij, hno, e1, e3, rfl⟩
  refine TK.know2 e1 e3 ?_
  by_cases hi : i < l.length
  · obtain ⟨x, hx⟩ : ∃ x, l[i]? = some x := ⟨l[i], List.getElem?_eq_getElem hi⟩
    have hxm := List.mem_of_getElem? hx
    refine TK.mem fun m0 hm0 => ?_
    obtain ⟨b, o, rfl⟩ := src_some (has_tls hs0 m0 hm0) (by rw [ltsC_len]; omega)
    clear hm0 m0
    obtain ⟨_, _, hat⟩ := has_lit hs0 hx
    refine m_run ?_
    (apply TL.callV; exact rfl; exact callB_of (by kernel_rfl); exact rfl; exact fun _ h => h)
    exact rbig_t x.a _
    rintro _ _ ⟨rfl, rfl⟩
    by_cases hm : 100 < x.a.l.length
    · have : (l.any fun x => decide (100 < x.a.l.length)) = true := List.any_eq_true.2 ⟨x, hxm, by simp [hm]⟩
      refine m_run ?_
      (apply TK.retS1; exact rfl; exact rfl; (exact m_val))
      · exact ⟨_, rfl, congrArg Value.bool (by simp [bigC, this]), rfl⟩
      · (repeat (first | exact List.Sublist.refl _ | apply List.Sublist.cons_cons | apply List.Sublist.cons))
    · refine m_run ?_
      refine IH (j - 1) _ _ (by omega) ⟨i + 1, by omega, ?_, rfl, congrArg (Value.int .i64) (i64_succ i (by omega)), rfl⟩
      rw [List.take_add_one, hx, List.any_append, hno]
      simp; omega
  obtain rfl : i = l.length := by omega
  rw [List.take_length] at hno
  refine m_run ?_
  (apply TK.retS1; exact rfl; exact rfl; (exact m_val))
  · exact ⟨_, rfl, congrArg Value.bool (by simp only [bigC, hno, h1, h2, decide_false, Bool.or_false]), rfl⟩
  · (repeat (first | exact List.Sublist.refl _ | apply List.Sublist.cons_cons | apply List.Sublist.cons))
end Go.Proofs.Ytokggdgagfmacaa.E
