/- Atoms, clauses, facts in memory; may_t, Vars (taken from the Atoms texts). -/
import Derived.Test.YthbcfamfaicneaaSm
import Derived.Test.YthbcfamfaicneaaSz
import Derived.Test.YthbcfamfaicneaaSe
import Derived.Test.YthbcfamfaicneaaSg
import Derived.Test.YthbcfamfaicneaaSh
import Derived.Test.YthbcfamfaicneaaSi
import Derived.Test.YthbcfamfaicneaaSj
import Derived.Test.YthbcfamfaicneaaSn
import Derived.Test.YthbcfamfaicneaaSk
namespace Go.Proofs.Ythbcfamfaicneaa.E
open Go Go.RowKit Go.Proofs
attribute [local irreducible] TK TL TQ TA Fn PV
theorem has_el {α : Type} {f : α → List Value} {sz : Nat} (hf : ∀ a, (f a).length = sz) (hz : 0 < sz) {Γ : List HP} {b o n : Nat} {l : List α} {i : Nat} {x : α} (h : has Γ (srcAt sz (some ⟨b, o, none⟩) n (l.flatMap f))) (hi : l[i]? = some x) : has Γ (fun m => cellsAt m b (o + i * sz) (f x)) := fun m hm j v hj => by
  obtain ⟨_, h2⟩ := h m hm
  have hjl : j < sz := by rw [← hf x]; exact (List.getElem?_eq_some_iff.1 hj).1
  have hd : (l.flatMap f).drop (i * sz) = f x ++ (l.drop (i + 1)).flatMap f := by
    rw [← flat_drop hf, List.drop_eq_getElem_cons (List.getElem?_eq_some_iff.1 hi).1, List.flatMap_cons]
    rw [show l[i]'(List.getElem?_eq_some_iff.1 hi).1 = x from (List.getElem?_eq_some_iff.1 hi).2]
  have hg : (l.flatMap f)[i * sz + j]? = some v := by
    rw [← List.getElem?_drop, hd, List.getElem?_append_left (by rw [hf]; exact hjl)]
    exact hj
  rcases h2 with h2 | ⟨b', o', e, h2⟩
  · rw [h2] at hg; simp at hg
  · injection e with e
    injection e with e1 e2 _
    subst e1; subst e2
    have := h2 _ _ hg
    rwa [Nat.add_assoc]
theorem has_cell {Γ : List HP} {b o : Nat} {vs : List Value} (h : has Γ (fun m => cellsAt m b o vs)) (j : Nat) {v : Value} (hv : vs[j]? = some v) : has Γ (fun m => cellAt m b (o + j) v) := has_imp h fun _ hm => hm j v hv
theorem src_some0 {sz n : Nat} {A : Option Addr} {l : List Value} {Γ : List HP} (h : has Γ (srcAt sz A n l)) (hl : 0 < l.length) : ∀ m, all Γ m → ∃ b o, A = some ⟨b, o, none⟩ := fun m hm => src_some (h m hm) hl
/-! ### terms -/
structure Tm where
  v : Bool
  n : Nat
  deriving DecidableEq
def tmC (t : Tm) : List Value := [.bool t.v, .int .u32 (t.n : Int)]
theorem tmC_len (t : Tm) : (tmC t).length = 2 := rfl
abbrev tmsC (l : List Tm) : List Value := l.flatMap tmC
theorem tmsC_len (l : List Tm) : (tmsC l).length = l.length * 2 := by
  induction l with
  | nil => rfl
  | cons t l ih => rw [tmsC, List.flatMap_cons, List.length_append]; show 2 + (tmsC l).length = _; rw [ih, List.length_cons]; omega
theorem tm_eq (x y : Tm) : (x.v == y.v && ((x.n : Int) == (y.n : Int) && true)) = decide (x = y) := by
  by_cases h : x = y
  · subst h; simp
  · rw [decide_eq_false h]
    obtain ⟨a, b⟩ := x
    obtain ⟨c, d⟩ := y
    by_cases h1 : a = c
    · subst h1
      have h2 : b ≠ d := fun e => h (by rw [e])
      simp
      omega
    · simp [h1]
/-! ### atoms, literals, clauses, facts -/
structure Atm where
  p : Nat
  A : Option Addr
  c : Nat
  l : List Tm
def Atm.cells (a : Atm) : List Value := [.int .u32 (a.p : Int), .slice a.A a.l.length a.c]
def Atm.ok (a : Atm) (Γ : List HP) : Prop := has Γ (srcAt 2 a.A a.l.length (tmsC a.l)) ∧ a.l.length ≤ a.c
theorem Atm.ok_tl {a : Atm} {Γ : List HP} {H : HP} (h : a.ok Γ) : a.ok (H :: Γ) := ⟨has_tls h.1, h.2⟩
structure Lt where
  no : Bool
  a : Atm
def Lt.cells (x : Lt) : List Value := .bool x.no :: x.a.cells
abbrev ltsC (l : List Lt) : List Value := l.flatMap Lt.cells
theorem ltC_len (x : Lt) : x.cells.length = 3 := rfl
theorem ltsC_len (l : List Lt) : (ltsC l).length = l.length * 3 := by
  induction l with
  | nil => rfl
  | cons t l ih => rw [ltsC, List.flatMap_cons, List.length_append]; show 3 + (ltsC l).length = _; rw [ih, List.length_cons]; omega
structure Cl where
  h : Atm
  A : Option Addr
  c : Nat
  l : List Lt
def Cl.cells (c : Cl) : List Value := [.int .u32 (c.h.p : Int), .slice c.h.A c.h.l.length c.h.c, .slice c.A c.l.length c.c]
def Cl.ok (c : Cl) (Γ : List HP) : Prop := c.h.ok Γ ∧ has Γ (srcAt 3 c.A c.l.length (ltsC c.l)) ∧ c.l.length ≤ c.c ∧ ∀ x ∈ c.l, x.a.ok Γ
theorem Cl.ok_tl {a : Cl} {Γ : List HP} {H : HP} (h : a.ok Γ) : a.ok (H :: Γ) := ⟨Atm.ok_tl h.1, has_tls h.2.1, h.2.2.1, fun x hx => Atm.ok_tl (h.2.2.2 x hx)⟩
/-! ### what may be -/
def badT (t : Tm) : Bool := t.v && decide (16 ≤ t.n)
def mayA (l : List Tm) : Bool := decide (l.length ≤ 6) && !(l.any badT)
def mayC (c : Cl) : Bool := decide (c.l.length ≤ 8) && mayA c.h.l && !(c.l.any fun x => !mayA x.a.l)
def bigC (c : Cl) : Bool := decide (100 < c.l.length) || decide (100 < c.h.l.length) || c.l.any fun x => decide (100 < x.a.l.length)
def sameA (a b : Atm) : Bool := decide (a.p = b.p) && decide (a.l = b.l)
def sameLs : List Lt → List Lt → Bool
  | [], [] => true
  | x :: l, y :: m => (x.no == y.no && sameA x.a y.a) && sameLs l m
  | _, _ => false
def sameC (a b : Cl) : Bool := sameA a.h b.h && sameLs a.l b.l
theorem sameA_self (a : Atm) : sameA a a = true := by simp [sameA]
theorem sameA_comm (a b : Atm) : sameA a b = sameA b a := by
  unfold sameA
  rw [show decide (a.p = b.p) = decide (b.p = a.p) from decide_eq_decide.2 ⟨Eq.symm, Eq.symm⟩, show decide (a.l = b.l) = decide (b.l = a.l) from decide_eq_decide.2 ⟨Eq.symm, Eq.symm⟩]
theorem sameLs_self : ∀ l : List Lt, sameLs l l = true
  | [] => rfl
  | x :: l => by simp [sameLs, sameA_self, sameLs_self l]
theorem sameLs_comm : ∀ l m : List Lt, sameLs l m = sameLs m l
  | [], [] => rfl
  | [], _ :: _ => rfl
  | _ :: _, [] => rfl
  | x :: l, y :: m => by
    simp only [sameLs]
    rw [sameA_comm, sameLs_comm l m]
    cases x.no <;> cases y.no <;> rfl
theorem sameC_self (a : Cl) : sameC a a = true := by simp [sameC, sameA_self, sameLs_self]
theorem sameC_comm (a b : Cl) : sameC a b = sameC b a := by unfold sameC; rw [sameA_comm, sameLs_comm]
theorem sameLs_len : ∀ {l m : List Lt}, sameLs l m = true → l.length = m.length
  | [], [], _ => rfl
  | [], _ :: _, h => by cases h
  | _ :: _, [], h => by cases h
  | x :: l, y :: m, h => by
    simp only [sameLs, Bool.and_eq_true] at h
    rw [List.length_cons, List.length_cons, sameLs_len h.2]
set_option maxRecDepth 100000 in
set_option maxHeartbeats 1000000 in
theorem indexF_tm (F : FuncId) (p : Tm → Bool) (A : Option Addr) (c : Nat) (l : List Tm) (Γ : List HP) (hc : Callable Try.prog F) (hs : has Γ (srcAt 2 A l.length (l.flatMap tmC))) (hn : l.length ≤ 1000000)
    (hF : ∀ x ∈ l, FnV Try.prog F [.agg (tmC x).toArray] Γ fun v Γ' => v = .bool (p x) ∧ Γ' = Γ) :
    FnV Try.prog 127 [.slice A l.length c, .func (.func F) #[] #[]] Γ fun v Γ' => (∃ i : Int, v = .int .i64 i ∧ decide (0 ≤ i) = l.any p) ∧ Γ' = Γ := by
  refine Fn.enter Try.func127 rfl rfl rfl fun E => ?_
  refine m_run ?_
  apply TK.iter (fun j ρ' Γ' => ∃ i : Nat, i + j = l.length ∧ (l.take i).any p = false ∧ lk ρ' 0 = .slice A l.length c ∧ lk ρ' 1 = .func (.func F) #[] #[] ∧ lk ρ' 7 = .int .i64 (l.length : Int) ∧ lk ρ' 8 = .int .i64 (i : Int) ∧ Γ' = Γ) l.length
  · exact ⟨0, Nat.zero_add _, by simp, rfl, rfl, rfl, rfl, rfl⟩
  rintro j IH ρ' Γ ⟨i, hij, hno, e0, e1, e7, e8, rfl⟩
  refine TK.know4 e0 e1 e7 e8 ?_
  by_cases hi : i < l.length
  · obtain ⟨x, hx⟩ : ∃ x, l[i]? = some x := ⟨l[i], List.getElem?_eq_getElem hi⟩
    refine TK.mem fun m0 hm0 => ?_
    obtain ⟨b, o, rfl⟩ := src_some (hs m0 hm0) (by rw [tmsC_len]; omega)
    clear hm0 m0
    have hel := has_el (f := tmC) (fun _ => rfl) (by decide) hs hx
    refine m_run ?_
    (apply TL.callFV (fs := []) (cs := []); exact rfl; exact rfl; exact hc; exact rfl; exact fun _ h => h)
    exact hF x (List.mem_of_getElem? hx)
    rintro _ _ ⟨rfl, rfl⟩
    cases hp : p x with
    | true =>
      refine m_run ?_
      (apply TK.ret1; exact rfl; exact rfl; (exact m_val))
      refine ⟨_, rfl, ⟨_, rfl, ?_⟩, rfl⟩
      rw [decide_eq_true (by omega)]
      exact (List.any_eq_true.2 ⟨x, List.mem_of_getElem? hx, hp⟩).symm
    | false =>
      refine m_run ?_
      refine IH (j - 1) _ _ (by omega) ⟨i + 1, by omega, ?_, rfl, rfl, rfl, congrArg (Value.int .i64) (i64_succ i (by omega)), rfl⟩
      rw [List.take_add_one, hx, List.any_append, hno]
      simp [hp]
  obtain rfl : i = l.length := by omega
  rw [List.take_length] at hno
  refine m_run ?_
  (apply TK.ret1; exact rfl; exact rfl; (exact m_val))
  exact ⟨_, rfl, ⟨_, rfl, hno.symm⟩, rfl⟩
theorem containsF_tm (F : FuncId) (p : Tm → Bool) (A : Option Addr) (c : Nat) (l : List Tm) (Γ : List HP) (hc : Callable Try.prog F) (hs : has Γ (srcAt 2 A l.length (l.flatMap tmC))) (hn : l.length ≤ 1000000)
    (hF : ∀ x ∈ l, FnV Try.prog F [.agg (tmC x).toArray] Γ fun v Γ' => v = .bool (p x) ∧ Γ' = Γ) :
    FnV Try.prog 120 [.slice A l.length c, .func (.func F) #[] #[]] Γ fun v Γ' => v = .bool (l.any p) ∧ Γ' = Γ := by
  refine Fn.enter Try.func120 rfl rfl rfl fun E => ?_
  refine m_run ?_
  (apply TL.callV; exact rfl; exact callB_of (by kernel_rfl); exact rfl; exact fun _ h => h)
  exact indexF_tm F p A c l Γ hc hs hn hF
  rintro _ _ ⟨⟨i, rfl, hi⟩, rfl⟩
  refine m_run ?_
  (apply TK.ret1; exact rfl; exact rfl; exact rfl)
  exact ⟨_, rfl, congrArg Value.bool hi, rfl⟩
set_option maxRecDepth 100000 in
set_option maxHeartbeats 1000000 in
theorem indexF_lt (F : FuncId) (p : Lt → Bool) (A : Option Addr) (c : Nat) (l : List Lt) (Γ : List HP) (hc : Callable Try.prog F) (hs : has Γ (srcAt 3 A l.length (l.flatMap Lt.cells))) (hn : l.length ≤ 1000000)
    (hF : ∀ x ∈ l, FnV Try.prog F [.agg (Lt.cells x).toArray] Γ fun v Γ' => v = .bool (p x) ∧ Γ' = Γ) :
    FnV Try.prog 122 [.slice A l.length c, .func (.func F) #[] #[]] Γ fun v Γ' => (∃ i : Int, v = .int .i64 i ∧ decide (0 ≤ i) = l.any p) ∧ Γ' = Γ := by
  refine Fn.enter Try.func122 rfl rfl rfl fun E => ?_
  refine m_run ?_
  apply TK.iter (fun j ρ' Γ' => ∃ i : Nat, i + j = l.length ∧ (l.take i).any p = false ∧ lk ρ' 0 = .slice A l.length c ∧ lk ρ' 1 = .func (.func F) #[] #[] ∧ lk ρ' 7 = .int .i64 (l.length : Int) ∧ lk ρ' 8 = .int .i64 (i : Int) ∧ Γ' = Γ) l.length
  · exact ⟨0, Nat.zero_add _, by simp, rfl, rfl, rfl, rfl, rfl⟩
  rintro j IH ρ' Γ ⟨i, hij, hno, e0, e1, e7, e8, rfl⟩
  refine TK.know4 e0 e1 e7 e8 ?_
  by_cases hi : i < l.length
  · obtain ⟨x, hx⟩ : ∃ x, l[i]? = some x := ⟨l[i], List.getElem?_eq_getElem hi⟩
    refine TK.mem fun m0 hm0 => ?_
    obtain ⟨b, o, rfl⟩ := src_some (hs m0 hm0) (by rw [ltsC_len]; omega)
    clear hm0 m0
    have hel := has_el (f := Lt.cells) (fun _ => rfl) (by decide) hs hx
    refine m_run ?_
    (apply TL.callFV (fs := []) (cs := []); exact rfl; exact rfl; exact hc; exact rfl; exact fun _ h => h)
    exact hF x (List.mem_of_getElem? hx)
    rintro _ _ ⟨rfl, rfl⟩
    cases hp : p x with
    | true =>
      refine m_run ?_
      (apply TK.ret1; exact rfl; exact rfl; (exact m_val))
      refine ⟨_, rfl, ⟨_, rfl, ?_⟩, rfl⟩
      rw [decide_eq_true (by omega)]
      exact (List.any_eq_true.2 ⟨x, List.mem_of_getElem? hx, hp⟩).symm
    | false =>
      refine m_run ?_
      refine IH (j - 1) _ _ (by omega) ⟨i + 1, by omega, ?_, rfl, rfl, rfl, congrArg (Value.int .i64) (i64_succ i (by omega)), rfl⟩
      rw [List.take_add_one, hx, List.any_append, hno]
      simp [hp]
  obtain rfl : i = l.length := by omega
  rw [List.take_length] at hno
  refine m_run ?_
  (apply TK.ret1; exact rfl; exact rfl; (exact m_val))
  exact ⟨_, rfl, ⟨_, rfl, hno.symm⟩, rfl⟩
theorem containsF_lt (F : FuncId) (p : Lt → Bool) (A : Option Addr) (c : Nat) (l : List Lt) (Γ : List HP) (hc : Callable Try.prog F) (hs : has Γ (srcAt 3 A l.length (l.flatMap Lt.cells))) (hn : l.length ≤ 1000000)
    (hF : ∀ x ∈ l, FnV Try.prog F [.agg (Lt.cells x).toArray] Γ fun v Γ' => v = .bool (p x) ∧ Γ' = Γ) :
    FnV Try.prog 101 [.slice A l.length c, .func (.func F) #[] #[]] Γ fun v Γ' => v = .bool (l.any p) ∧ Γ' = Γ := by
  refine Fn.enter Try.func101 rfl rfl rfl fun E => ?_
  refine m_run ?_
  (apply TL.callV; exact rfl; exact callB_of (by kernel_rfl); exact rfl; exact fun _ h => h)
  exact indexF_lt F p A c l Γ hc hs hn hF
  rintro _ _ ⟨⟨i, rfl, hi⟩, rfl⟩
  refine m_run ?_
  (apply TK.ret1; exact rfl; exact rfl; exact rfl)
  exact ⟨_, rfl, congrArg Value.bool hi, rfl⟩
theorem bad_t (t : Tm) (Γ : List HP) : FnV Try.prog 121 [.agg (tmC t).toArray] Γ fun v Γ' => v = .bool (badT t) ∧ Γ' = Γ := by
  refine Fn.enter Try.func121 rfl rfl rfl fun E => ?_
  obtain ⟨v, n⟩ := t
  refine m_run ?_
  (apply TL.box; exact rfl; exact rfl; (exact m_lst))
  intro b1
  cases v with
  | false =>
    refine m_run ?_
    (apply TK.retS1; exact rfl; exact rfl; (exact m_val))
    · exact ⟨_, rfl, rfl, rfl⟩
    · (repeat (first | exact List.Sublist.refl _ | apply List.Sublist.cons_cons | apply List.Sublist.cons))
  | true =>
    refine m_run ?_
    (apply TK.retS1; exact rfl; exact rfl; (exact m_val))
    · exact ⟨_, rfl, congrArg Value.bool (by simp only [badT, Bool.true_and]; exact decide_eq_decide.2 (by omega)), rfl⟩
    · (repeat (first | exact List.Sublist.refl _ | apply List.Sublist.cons_cons | apply List.Sublist.cons))
theorem mayAtom_t (a : Atm) (Γ : List HP) (h : a.ok Γ) (hn : a.l.length ≤ 1000000) : FnV Try.prog 100 [.agg a.cells.toArray] Γ fun v Γ' => v = .bool (mayA a.l) ∧ Γ' = Γ := by
  refine Fn.enter Try.func100 rfl rfl rfl fun E => ?_
  refine m_run ?_
  (apply TL.box; exact rfl; exact rfl; (exact m_lst))
  intro b1
  by_cases h6 : a.l.length ≤ 6
  · refine m_run ?_
    (apply TL.callV; exact rfl; exact callB_of (by kernel_rfl); exact rfl; exact fun _ h => h)
    exact containsF_tm _ badT a.A a.c a.l _ (callB_of (by kernel_rfl)) (has_tls h.1) hn fun x _ => bad_t x _
    rintro _ _ ⟨rfl, rfl⟩
    refine m_run ?_
    (apply TK.retS1; exact rfl; exact rfl; (exact m_val))
    · exact ⟨_, rfl, congrArg Value.bool (by simp [mayA, h6]), rfl⟩
    · (repeat (first | exact List.Sublist.refl _ | apply List.Sublist.cons_cons | apply List.Sublist.cons))
  · refine m_run ?_
    (apply TK.retS1; exact rfl; exact rfl; (exact m_val))
    · exact ⟨_, rfl, congrArg Value.bool (by simp [mayA, h6]), rfl⟩
    · (repeat (first | exact List.Sublist.refl _ | apply List.Sublist.cons_cons | apply List.Sublist.cons))
theorem mayLit_t (x : Lt) (Γ : List HP) (h : x.a.ok Γ) (hn : x.a.l.length ≤ 1000000) : FnV Try.prog 102 [.agg x.cells.toArray] Γ fun v Γ' => v = .bool (!mayA x.a.l) ∧ Γ' = Γ := by
  refine Fn.enter Try.func102 rfl rfl rfl fun E => ?_
  refine m_run ?_
  (apply TL.box; exact rfl; exact rfl; (exact m_lst))
  intro b1
  refine m_run ?_
  (apply TL.callV; exact rfl; exact callB_of (by kernel_rfl); exact rfl; exact fun _ h => h)
  exact mayAtom_t x.a _ (Atm.ok_tl h) hn
  rintro _ _ ⟨rfl, rfl⟩
  refine m_run ?_
  (apply TK.retS1; exact rfl; exact rfl; (exact m_val))
  · exact ⟨_, rfl, rfl, rfl⟩
  · (repeat (first | exact List.Sublist.refl _ | apply List.Sublist.cons_cons | apply List.Sublist.cons))
def Cl.small (c : Cl) : Prop := c.l.length ≤ 1000000 ∧ c.h.l.length ≤ 1000000 ∧ ∀ x ∈ c.l, x.a.l.length ≤ 1000000
theorem may_t (c : Cl) (Γ : List HP) (h : c.ok Γ) (hn : c.small) : FnV Try.prog 66 [.agg c.cells.toArray] Γ fun v Γ' => v = .bool (mayC c) ∧ Γ' = Γ := by
  refine Fn.enter Try.func66 rfl rfl rfl fun E => ?_
  refine m_run ?_
  (apply TL.box; exact rfl; exact rfl; (exact m_lst))
  intro b1
  by_cases h8 : c.l.length ≤ 8
  · refine m_run ?_
    (apply TL.callV; exact rfl; exact callB_of (by kernel_rfl); exact rfl; exact fun _ h => h)
    exact mayAtom_t c.h _ (Atm.ok_tl h.1) hn.2.1
    rintro _ _ ⟨rfl, rfl⟩
    cases hm : mayA c.h.l with
    | true =>
      refine m_run ?_
      (apply TL.callV; exact rfl; exact callB_of (by kernel_rfl); exact rfl; exact fun _ h => h)
      exact containsF_lt _ (fun x => !mayA x.a.l) c.A c.c c.l _ (callB_of (by kernel_rfl)) (has_tls h.2.1) hn.1 fun x hx => mayLit_t x _ (Atm.ok_tl (h.2.2.2 x hx)) (hn.2.2 x hx)
      rintro _ _ ⟨rfl, rfl⟩
      refine m_run ?_
      (apply TK.retS1; exact rfl; exact rfl; (exact m_val))
      · exact ⟨_, rfl, congrArg Value.bool (by simp [mayC, h8, hm]), rfl⟩
      · (repeat (first | exact List.Sublist.refl _ | apply List.Sublist.cons_cons | apply List.Sublist.cons))
    | false =>
      refine m_run ?_
      (apply TK.retS1; exact rfl; exact rfl; (exact m_val))
      · exact ⟨_, rfl, congrArg Value.bool (by simp [mayC, hm]), rfl⟩
      · (repeat (first | exact List.Sublist.refl _ | apply List.Sublist.cons_cons | apply List.Sublist.cons))
  · refine m_run ?_
    (apply TK.retS1; exact rfl; exact rfl; (exact m_val))
    · exact ⟨_, rfl, congrArg Value.bool (by simp [mayC, h8]), rfl⟩
    · (repeat (first | exact List.Sublist.refl _ | apply List.Sublist.cons_cons | apply List.Sublist.cons))
/-! ### the document's -/
set_option maxRecDepth 100000 in
set_option maxHeartbeats 1000000 in
theorem rmayAtom_t (a : Atm) (Γ : List HP) (h : a.ok Γ) (hn : a.l.length ≤ 1000000) : FnV Try.prog 117 [.agg a.cells.toArray] Γ fun v Γ' => v = .bool (mayA a.l) ∧ Γ' = Γ := by
  refine Fn.enter Try.func117 rfl rfl rfl fun E => ?_
  obtain ⟨p, A, c, l⟩ := a
  have hs0 : has Γ (srcAt 2 A l.length (tmsC l)) := h.1
  replace hn : l.length ≤ 1000000 := hn
  refine m_run ?_
  (apply TL.box; exact rfl; exact rfl; (exact m_lst))
  intro b1
  refine m_run ?_
  refine TK.imp (Δ := row b1 [.int .u32 (p : Int), .slice A l.length c] 41 :: Γ) (fun _ h => h) ?_
  apply TK.iter (fun j ρ' Γ' => ∃ i : Nat, i + j = l.length ∧ (l.take i).any badT = false ∧ lk ρ' 1 = .pointer (some ⟨b1, 0, none⟩) ∧ lk ρ' 3 = .int .i64 (i : Int) ∧ Γ' = row b1 [.int .u32 (p : Int), .slice A l.length c] 41 :: Γ) l.length
  · exact ⟨0, Nat.zero_add _, by simp, rfl, rfl, rfl⟩
  rintro j IH ρ' _ ⟨i, hij, hno, e1, e3, rfl⟩
  refine TK.know2 e1 e3 ?_
  by_cases hi : i < l.length
  · obtain ⟨x, hx⟩ : ∃ x, l[i]? = some x := ⟨l[i], List.getElem?_eq_getElem hi⟩
    refine TK.mem fun m0 hm0 => ?_
    obtain ⟨b, o, rfl⟩ := src_some (has_tls hs0 m0 hm0) (by rw [tmsC_len]; omega)
    clear hm0 m0
    have hel := has_el (f := tmC) (fun _ => rfl) (by decide) hs0 hx
    have hv := has_cell hel 0 (v := .bool x.v) rfl
    have hk := has_cell hel 1 (v := .int .u32 (x.n : Int)) rfl
    have hbad : badT x = true → mayA l = false := fun hb => by
      have : l.any badT = true := List.any_eq_true.2 ⟨x, List.mem_of_getElem? hx, hb⟩
      simp [mayA, this]
    have hgo : badT x = false → (l.take (i + 1)).any badT = false := fun hb => by
      rw [List.take_add_one, hx, List.any_append, hno]
      simp [hb]
    cases hxv : x.v with
    | false =>
      rw [hxv] at hv
      have hg := hgo (by simp [badT, hxv])
      refine m_run ?_
      exact IH (j - 1) _ _ (by omega) ⟨i + 1, by omega, hg, rfl, congrArg (Value.int .i64) (i64_succ i (by omega)), rfl⟩
    | true =>
      rw [hxv] at hv
      by_cases h16 : 16 ≤ x.n
      · have hb := hbad (by simp [badT, hxv, h16])
        refine m_run ?_
        (apply TK.retS1; exact rfl; exact rfl; (exact m_val))
        · exact ⟨_, rfl, congrArg Value.bool hb.symm, rfl⟩
        · (repeat (first | exact List.Sublist.refl _ | apply List.Sublist.cons_cons | apply List.Sublist.cons))
      · have hg := hgo (by simp [badT, hxv]; omega)
        refine m_run ?_
        exact IH (j - 1) _ _ (by omega) ⟨i + 1, by omega, hg, rfl, congrArg (Value.int .i64) (i64_succ i (by omega)), rfl⟩
  obtain rfl : i = l.length := by omega
  rw [List.take_length] at hno
  refine m_run ?_
  (apply TK.retS1; exact rfl; exact rfl; (exact m_val))
  · exact ⟨_, rfl, congrArg Value.bool (by simp only [mayA, hno, Bool.not_false, Bool.and_true]; exact decide_eq_decide.2 (by omega)), rfl⟩
  · (repeat (first | exact List.Sublist.refl _ | apply List.Sublist.cons_cons | apply List.Sublist.cons))
/-- What is known of a literal in a clause's body. -/
theorem has_lit {Γ : List HP} {b o n : Nat} {l : List Lt} {i : Nat} {x : Lt} (h : has Γ (srcAt 3 (some ⟨b, o, none⟩) n (ltsC l))) (hi : l[i]? = some x) :
    has Γ (fun m => cellsAt m b (o + i * 3) x.cells) ∧ has Γ (fun m => cellAt m b (o + i * 3 + 0) (.bool x.no)) ∧ has Γ (fun m => cellsAt m b (o + i * 3 + 1) x.a.cells) := by
  have hel := has_el (f := Lt.cells) (fun _ => rfl) (by decide) h hi
  refine ⟨hel, has_cell hel 0 rfl, has_imp hel fun _ hm j v hv => ?_⟩
  have := hm (j + 1) v hv
  rwa [Nat.add_comm j 1, ← Nat.add_assoc] at this
set_option maxRecDepth 100000 in
set_option maxHeartbeats 1000000 in
theorem rmay_t (c : Cl) (Γ : List HP) (h : c.ok Γ) (hn : c.small) : FnV Try.prog 94 [.agg c.cells.toArray] Γ fun v Γ' => v = .bool (mayC c) ∧ Γ' = Γ := by
  refine Fn.enter Try.func94 rfl rfl rfl fun E => ?_
  obtain ⟨⟨hp, hA, hc, hl⟩, A, c, l⟩ := c
  have hs0 : has Γ (srcAt 3 A l.length (ltsC l)) := h.2.1
  have hb0 : ∀ x ∈ l, x.a.ok Γ := h.2.2.2
  have hn1 : l.length ≤ 1000000 := hn.1
  have hn3 : ∀ x ∈ l, x.a.l.length ≤ 1000000 := hn.2.2
  refine m_run ?_
  (apply TL.box; exact rfl; exact rfl; (exact m_lst))
  intro b1
  refine m_run ?_
  refine TK.imp (Δ := row b1 [.int .u32 (hp : Int), .slice hA hl.length hc, .slice A l.length c] 68 :: Γ) (fun _ h => h) ?_
  apply TK.iter (fun j ρ' Γ' => ∃ i : Nat, i + j = l.length ∧ ((l.take i).any fun x => !mayA x.a.l) = false ∧ lk ρ' 1 = .pointer (some ⟨b1, 0, none⟩) ∧ lk ρ' 3 = .int .i64 (i : Int) ∧ Γ' = row b1 [.int .u32 (hp : Int), .slice hA hl.length hc, .slice A l.length c] 68 :: Γ) l.length
  · exact ⟨0, Nat.zero_add _, by simp, rfl, rfl, rfl⟩
  rintro j IH ρ' _ ⟨i, hij, hno, e1, e3, rfl⟩
  refine TK.know2 e1 e3 ?_
  by_cases hi : i < l.length
  · obtain ⟨x, hx⟩ : ∃ x, l[i]? = some x := ⟨l[i], List.getElem?_eq_getElem hi⟩
    have hxm := List.mem_of_getElem? hx
    refine TK.mem fun m0 hm0 => ?_
    obtain ⟨b, o, rfl⟩ := src_some (has_tls hs0 m0 hm0) (by rw [ltsC_len]; omega)
    clear hm0 m0
    obtain ⟨_, _, hat⟩ := has_lit hs0 hx
    refine m_run ?_
    (apply TL.callV; exact rfl; exact callB_of (by kernel_rfl); exact rfl; exact fun _ h => h)
    exact rmayAtom_t x.a _ (Atm.ok_tl (hb0 x hxm)) (hn3 x hxm)
    rintro _ _ ⟨rfl, rfl⟩
    cases hm : mayA x.a.l with
    | true =>
      refine m_run ?_
      refine IH (j - 1) _ _ (by omega) ⟨i + 1, by omega, ?_, rfl, congrArg (Value.int .i64) (i64_succ i (by omega)), rfl⟩
      rw [List.take_add_one, hx, List.any_append, hno]
      simp [hm]
    | false =>
      have : (l.any fun x => !mayA x.a.l) = true := List.any_eq_true.2 ⟨x, hxm, by simp [hm]⟩
      refine m_run ?_
      (apply TK.retS1; exact rfl; exact rfl; (exact m_val))
      · exact ⟨_, rfl, congrArg Value.bool (by simp [mayC, this]), rfl⟩
      · (repeat (first | exact List.Sublist.refl _ | apply List.Sublist.cons_cons | apply List.Sublist.cons))
  obtain rfl : i = l.length := by omega
  rw [List.take_length] at hno
  refine m_run ?_
  (apply TL.callV; exact rfl; exact callB_of (by kernel_rfl); exact rfl; exact fun _ h => h)
  exact rmayAtom_t ⟨hp, hA, hc, hl⟩ _ (Atm.ok_tl h.1) hn.2.1
  rintro _ _ ⟨rfl, rfl⟩
  cases hm : mayA hl with
  | true =>
    refine m_run ?_
    (apply TK.retS1; exact rfl; exact rfl; (exact m_val))
    · exact ⟨_, rfl, congrArg Value.bool (by simp only [mayC, hno, hm, Bool.not_false, Bool.and_true]; exact decide_eq_decide.2 (by omega)), rfl⟩
    · (repeat (first | exact List.Sublist.refl _ | apply List.Sublist.cons_cons | apply List.Sublist.cons))
  | false =>
    refine m_run ?_
    (apply TK.retS1; exact rfl; exact rfl; (exact m_val))
    · exact ⟨_, rfl, congrArg Value.bool (by simp [mayC, hm]), rfl⟩
    · (repeat (first | exact List.Sublist.refl _ | apply List.Sublist.cons_cons | apply List.Sublist.cons))
def u32s (l : List Nat) : List Value := l.map fun n : Nat => Value.int .u32 (n : Int)
theorem u32s_len (l : List Nat) : (u32s l).length = l.length := List.length_map ..
theorem u32s_one (l : List Nat) : ∀ u ∈ u32s l, u.oneCell' = true := by
  intro u hu
  obtain ⟨n, _, rfl⟩ := List.mem_map.1 hu
  rfl
theorem has_u32 {Γ : List HP} {b o n i x : Nat} {l : List Nat} (h : has Γ (srcAt 1 (some ⟨b, o, none⟩) n (u32s l))) (hi : l[i]? = some x) : has Γ (fun m => cellAt m b (o + i) (.int .u32 (x : Int))) := fun m hm => by
  obtain ⟨_, h2⟩ := h m hm
  have hg : (u32s l)[i]? = some (.int .u32 (x : Int)) := by rw [u32s, List.getElem?_map, hi]; rfl
  rcases h2 with h2 | ⟨b', o', e, h2⟩
  · rw [h2] at hg; simp at hg
  · injection e with e
    injection e with e1 e2 _
    subst e1; subst e2
    exact h2 _ _ hg
abbrev ownU (A : Option Addr) (c : Nat) (l : List Nat) : HP := own 31 1 (.slice A l.length c) l.length (u32s l)
theorem nanU_t (x : Int) (Γ : List HP) : FnV Try.prog 112 [.int .u32 x] Γ fun v Γ' => v = .bool false ∧ Γ' = Γ := by
  refine Fn.enter Try.func112 rfl rfl rfl fun E => ?_
  refine m_run ?_
  (apply TK.ret1; exact rfl; exact rfl; exact rfl)
  exact ⟨_, rfl, congrArg Value.bool (by simp), rfl⟩
theorem less_t (x y : Int) (Γ : List HP) : FnV Try.prog 80 [.int .u32 x, .int .u32 y] Γ fun v Γ' => v = .bool (decide (x < y)) ∧ Γ' = Γ := by
  refine Fn.enter Try.func80 rfl rfl rfl fun E => ?_
  refine m_run ?_
  (apply TL.callV; exact rfl; exact callB_of (by kernel_rfl); exact rfl; exact fun _ h => h)
  exact nanU_t x Γ
  rintro _ Γ ⟨rfl, rfl⟩
  refine m_run ?_
  (apply TK.ret1; exact rfl; exact rfl; exact rfl)
  exact ⟨_, rfl, rfl, rfl⟩
/-! ### insertion sort -/
theorem own_addr {e sz n c : Nat} {A : Option Addr} {cs : List Value} {Γ : List HP} {m : Mem} (hm : all (own e sz (.slice A n c) n cs :: Γ) m) (h0 : 0 < n) : ∃ b, A = some ⟨b, 0, none⟩ := by
  obtain ⟨m1, m2, _, _, h1, _⟩ := hm
  obtain ⟨_, ⟨_, h, _⟩ | ⟨g, cap, cur, hv, _⟩⟩ := h1
  · omega
  · injection hv with hv _ _
    exact ⟨g, hv⟩
theorem u32s_set (l : List Nat) (i x : Nat) : (u32s l).set i (.int .u32 (x : Int)) = u32s (l.set i x) := by
  unfold u32s
  rw [List.map_set]
/-! ### Compact -/
def compL : List Nat → List Nat
  | [] => []
  | x :: l => match l with
    | [] => [x]
    | y :: _ => if x = y then compL l else x :: compL l
theorem compL_ne : ∀ (l : List Nat) (x : Nat), compL (x :: l) ≠ []
  | [], _ => by simp [compL]
  | y :: l, x => by
    simp only [compL]
    split
    · exact compL_ne l y
    · simp
theorem compL_snoc : ∀ (l : List Nat) (x y : Nat), compL (l ++ [x, y]) = if x = y then compL (l ++ [x]) else compL (l ++ [x]) ++ [y]
  | [], x, y => by
    show compL [x, y] = _
    simp only [compL, List.nil_append]
    by_cases h : x = y
    · subst h; rw [if_pos rfl, if_pos rfl]
    · rw [if_neg h, if_neg h]; rfl
  | [a], x, y => by
    show compL (a :: x :: [y]) = if x = y then compL (a :: [x]) else compL (a :: [x]) ++ [y]
    have ih := compL_snoc [] x y
    rw [List.nil_append, List.nil_append] at ih
    have h1 : compL (a :: x :: [y]) = if a = x then compL [x, y] else a :: compL [x, y] := rfl
    have h2 : compL (a :: [x]) = if a = x then compL [x] else a :: compL [x] := rfl
    rw [h1, h2, ih]
    split <;> split <;> rfl
  | a :: b :: l, x, y => by
    have ih := compL_snoc (b :: l) x y
    have h1 : compL (a :: b :: l ++ [x, y]) = if a = b then compL (b :: l ++ [x, y]) else a :: compL (b :: l ++ [x, y]) := rfl
    have h2 : compL (a :: b :: l ++ [x]) = if a = b then compL (b :: l ++ [x]) else a :: compL (b :: l ++ [x]) := rfl
    rw [h1, h2, ih]
    split <;> split <;> rfl
theorem compL_len : ∀ l : List Nat, (compL l).length ≤ l.length
  | [] => Nat.le_refl _
  | [x] => Nat.le_refl _
  | x :: y :: l => by
    have ih := compL_len (y :: l)
    have h1 : compL (x :: y :: l) = if x = y then compL (y :: l) else x :: compL (y :: l) := rfl
    rw [h1]
    split
    · rw [List.length_cons]; omega
    · rw [List.length_cons, List.length_cons]; omega
theorem take_two {D : List Nat} {k x y : Nat} (hx : D[k - 1]? = some x) (hy : D[k]? = some y) (hk : 1 ≤ k) : D.take (k + 1) = D.take (k - 1) ++ [x, y] ∧ D.take k = D.take (k - 1) ++ [x] := by
  have h1 : D.take k = D.take (k - 1) ++ [x] := by
    obtain ⟨q, rfl⟩ : ∃ q, k = q + 1 := ⟨k - 1, by omega⟩
    rw [Nat.add_sub_cancel] at hx ⊢
    rw [List.take_add_one, hx]; rfl
  refine ⟨?_, h1⟩
  rw [List.take_add_one, hy, h1]
  simp
theorem own_cut {e n k c : Nat} {A : Option Addr} {cs : List Value} {m : Mem} (h : own e 1 (.slice A n c) n cs m) (hk : k ≤ n) (h0 : 0 < n) : own e 1 (.slice A k c) k (cs.take k) m := by
  obtain ⟨hl, ⟨_, hn, _⟩ | ⟨g, cap, cur, hv, hn, hcap, hcl, htk, hr⟩⟩ := h
  · omega
  · injection hv with h1 _ h2
    subst h1; subst h2
    rw [Nat.mul_one] at hl htk
    refine ⟨by simp; omega, .inr ⟨g, c, cur, rfl, by omega, hcap, hcl, ?_, hr⟩⟩
    rw [Nat.mul_one, ← htk, List.take_take, Nat.min_eq_left hk]
theorem own_cap {e sz n c : Nat} {A : Option Addr} {cs : List Value} {Γ : List HP} {m : Mem} (hm : all (own e sz (.slice A n c) n cs :: Γ) m) : n ≤ c := by
  obtain ⟨m1, m2, _, _, h1, _⟩ := hm
  exact (own_len h1).2
theorem ownU_cell {D L : List Nat} {b c q z : Nat} {Γ : List HP} (hq : L[q]? = some z) : has (own 31 1 (.slice (some ⟨b, 0, none⟩) D.length c) D.length (u32s L) :: Γ) (fun m => cellAt m b q (.int .u32 (z : Int))) := by
  have h1 : has (own 31 1 (.slice (some ⟨b, 0, none⟩) D.length c) D.length (u32s L) :: Γ) (srcAt 1 (some ⟨b, 0, none⟩) D.length (u32s L)) := has_at (up_src _ _ _ _) 0 rfl fun _ h => own_src h
  have h2 := has_u32 h1 hq
  rwa [Nat.zero_add] at h2
set_option maxRecDepth 100000 in
set_option maxHeartbeats 2000000 in
theorem compact_t (A : Option Addr) (c : Nat) (D : List Nat) (Γ : List HP) (hn : D.length ≤ 1000000) :
    FnV Try.prog 40 [.slice A D.length c] (own 31 1 (.slice A D.length c) D.length (u32s D) :: Γ)
      fun v Γ' => v = .slice A (compL D).length c ∧ Γ' = own 31 1 (.slice A (compL D).length c) (compL D).length (u32s (compL D)) :: Γ := by
  refine Fn.enter Try.func40 rfl rfl rfl fun E => ?_
  by_cases h2 : D.length < 2
  · have hD : compL D = D := by
      match D, h2 with
      | [], _ => rfl
      | [x], _ => rfl
    rw [hD]
    refine m_run ?_
    (apply TK.ret1; exact rfl; exact rfl; (exact m_val))
    exact ⟨_, rfl, rfl, rfl⟩
  refine m_run ?_
  refine TK.mem fun m0 hm0 => ?_
  obtain ⟨b, rfl⟩ := own_addr hm0 (by omega)
  have hcap := own_cap hm0
  clear hm0 m0
  apply TK.iter (fun j ρ' Γ' => ∃ k : Nat, k + j = D.length ∧ 1 ≤ k ∧ compL (D.take k) = D.take k ∧ lk ρ' 0 = .slice (some ⟨b, 0, none⟩) D.length c ∧ lk ρ' 3 = .int .i64 (k : Int) ∧ Γ' = own 31 1 (.slice (some ⟨b, 0, none⟩) D.length c) D.length (u32s D) :: Γ) (D.length - 1)
  · exact ⟨1, by omega, Nat.le_refl _, by
      match D, h2 with
      | x :: l, _ => rfl, rfl, rfl, rfl⟩
  rintro j IH ρ' _ ⟨k, hkj, hk1, hkk, e0, e3, rfl⟩
  refine TK.know2 e0 e3 ?_
  by_cases hk : k < D.length
  · obtain ⟨y, hy⟩ : ∃ y, D[k]? = some y := ⟨D[k], List.getElem?_eq_getElem hk⟩
    obtain ⟨x, hx⟩ : ∃ x, D[k - 1]? = some x := ⟨D[k - 1], List.getElem?_eq_getElem (by omega)⟩
    obtain ⟨ht1, ht2⟩ := take_two hx hy hk1
    have hsn := compL_snoc (D.take (k - 1)) x y
    rw [← ht1, ← ht2, hkk] at hsn
    have g1 : has (own 31 1 (.slice (some ⟨b, 0, none⟩) D.length c) D.length (u32s D) :: Γ) (fun m => cellAt m b k (.int .u32 (y : Int))) := ownU_cell hy
    have g2 : has (own 31 1 (.slice (some ⟨b, 0, none⟩) D.length c) D.length (u32s D) :: Γ) (fun m => cellAt m b (k - 1) (.int .u32 (x : Int))) := ownU_cell hx
    refine m_run ?_
    refine TK.drawS mixed rfl ?_
    refine m_take (At.mk : At 0) ?_; refine m_take (At.mk : At 1) ?_; refine m_take (At.mk : At 2) ?_; refine m_take (At.mk : At 3) ?_; refine m_take (At.mk : At 4) ?_; refine m_take (At.mk : At 5) ?_; refine m_take (At.mk : At 6) ?_
    refine TA.know (t := 22) (v := .int .i64 ((k - 1 : Nat) : Int)) (congrArg (Value.int .i64) (by rw [i64_in (by omega) (by omega)]; omega)) ?_
    refine m_take (At.mk : At 7) ?_; refine m_take (At.mk : At 8) ?_; refine m_take (At.mk : At 9) ?_
    by_cases hxy : x = y
    · refine TA.isT 25 rfl (beq_iff_eq.2 (by omega)) ?_
      refine TA.done (by kernel_rfl) ?_
      rw [if_pos hxy] at hsn
      clear IH
      refine m_run ?_
      have hck : c ≠ k := by omega
      (apply TL.pv; exact rfl; (apply PV.sliceS (i := k) (j := D.length); exact rfl; exact tb rfl; exact rfl; exact tb rfl; exact .some rfl; exact .none; exact Nat.le_of_lt hk; exact hcap))
      refine TL.know (t := 28) (v := .slice (some ⟨b, k, none⟩) (D.length - k) (c - k)) (congrArg (fun z => Value.slice z (D.length - k) (c - k)) (by
        rw [if_neg hck]
        show some (Addr.add _ _) = _
        rw [add_at, Nat.mul_one, Nat.zero_add])) ?_
      refine m_run ?_
      apply TK.iter (fun j ρ' Γ' => ∃ (q : Nat) (L : List Nat), k + q + j = D.length ∧ 1 ≤ q ∧ L.length = D.length ∧ L.take (compL (D.take (k + q))).length = compL (D.take (k + q)) ∧ L.drop (k + q - 1) = D.drop (k + q - 1) ∧ (compL (D.take (k + q))).length ≤ k + q - 1 ∧ lk ρ' 0 = .slice (some ⟨b, 0, none⟩) D.length c ∧ lk ρ' 3 = .int .i64 ((compL (D.take (k + q))).length : Int) ∧ lk ρ' 4 = .slice (some ⟨b, k, none⟩) (D.length - k) (c - k) ∧ lk ρ' 5 = .int .i64 (q : Int) ∧ Γ' = own 31 1 (.slice (some ⟨b, 0, none⟩) D.length c) D.length (u32s L) :: Γ) (D.length - k - 1)
      · refine ⟨1, D, by omega, Nat.le_refl _, rfl, ?_, rfl, ?_, rfl, ?_, rfl, rfl, rfl⟩
        · rw [hsn, List.length_take, Nat.min_eq_left (by omega)]
        · rw [hsn, List.length_take]; omega
        · rw [hsn, List.length_take, Nat.min_eq_left (by omega)]; rfl
      rintro j2 IH2 ρ2 _ ⟨q, L, hqj, hq1, hLl, hLt, hLd, hkk2, f0, f3, f4, f5, rfl⟩
      generalize hK : compL (D.take (k + q)) = K at *
      refine TK.know4 f0 f3 f4 f5 ?_
      by_cases hq : k + q < D.length
      · obtain ⟨v, hv⟩ : ∃ v, D[k + q]? = some v := ⟨D[k + q], List.getElem?_eq_getElem hq⟩
        obtain ⟨u, hu⟩ : ∃ u, D[k + q - 1]? = some u := ⟨D[k + q - 1], List.getElem?_eq_getElem (by omega)⟩
        obtain ⟨tt1, tt2⟩ := take_two hu hv (by omega)
        have hsn2 := compL_snoc (D.take (k + q - 1)) u v
        rw [← tt1, ← tt2, hK] at hsn2
        have hLget : ∀ p, k + q - 1 ≤ p → L[p]? = D[p]? := fun p hp => by
          have := congrArg (fun l => l[p - (k + q - 1)]?) hLd
          simp only [List.getElem?_drop] at this
          rwa [show k + q - 1 + (p - (k + q - 1)) = p by omega] at this
        have c1 : has (own 31 1 (.slice (some ⟨b, 0, none⟩) D.length c) D.length (u32s L) :: Γ) (fun m => cellAt m b (k + q) (.int .u32 (v : Int))) := ownU_cell (by rw [hLget _ (by omega), hv])
        have c2 : has (own 31 1 (.slice (some ⟨b, 0, none⟩) D.length c) D.length (u32s L) :: Γ) (fun m => cellAt m b (k + (q - 1)) (.int .u32 (u : Int))) := ownU_cell (by rw [hLget _ (by omega), show k + (q - 1) = k + q - 1 by omega, hu])
        refine m_run ?_
        refine TK.drawS mixed rfl ?_
        refine m_take (At.mk : At 0) ?_; refine m_take (At.mk : At 1) ?_; refine m_take (At.mk : At 2) ?_; refine m_take (At.mk : At 3) ?_; refine m_take (At.mk : At 4) ?_; refine m_take (At.mk : At 5) ?_; refine m_take (At.mk : At 6) ?_
        refine TA.know (t := 41) (v := .int .i64 ((q - 1 : Nat) : Int)) (congrArg (Value.int .i64) (by rw [i64_in (by omega) (by omega)]; omega)) ?_
        refine m_take (At.mk : At 7) ?_; refine m_take (At.mk : At 8) ?_; refine m_take (At.mk : At 9) ?_
        by_cases huv : u = v
        · refine TA.isF 44 rfl (bne_eq_false_iff_eq.2 (by omega)) ?_
          refine TA.done (by kernel_rfl) ?_
          rw [if_pos huv] at hsn2
          refine m_run ?_
          refine IH2 (j2 - 1) _ _ (by omega) ⟨q + 1, L, by omega, by omega, hLl, ?_, ?_, ?_, rfl, ?_, rfl, congrArg (Value.int .i64) (i64_succ q (by omega)), rfl⟩
          · rw [← Nat.add_assoc, hsn2]; exact hLt
          · have := congrArg (List.drop 1) hLd
            rw [List.drop_drop, List.drop_drop] at this
            rwa [show k + q - 1 + 1 = k + (q + 1) - 1 by omega] at this
          · rw [← Nat.add_assoc, hsn2]; omega
          · rw [← Nat.add_assoc, hsn2]; rfl
        · refine TA.isT 44 rfl (bne_iff_ne.2 (by omega)) ?_
          refine TA.done (by kernel_rfl) ?_
          rw [if_neg huv] at hsn2
          refine m_run ?_
          (apply TL.storeOwn 0 K.length; exact rfl; exact rfl; exact rfl; exact rfl; exact tb rfl; exact rfl; exact (Nat.zero_add _).symm)
          · omega
          refine TL.imp (Δ := own 31 1 (.slice (some ⟨b, 0, none⟩) D.length c) D.length (u32s (L.set K.length v)) :: Γ) (fun _ h => by rw [← u32s_set]; exact h) ?_
          have hKL : K.length < L.length := by omega
          have ht3 : (L.set K.length v).take (K.length + 1) = K ++ [v] := by
            rw [List.take_add_one, List.getElem?_set_self hKL, List.take_set_of_le (Nat.le_refl _), hLt]
            rfl
          refine m_run ?_
          refine IH2 (j2 - 1) _ _ (by omega) ⟨q + 1, L.set K.length v, by omega, by omega, by rw [List.length_set]; exact hLl, ?_, ?_, ?_, rfl, ?_, rfl, congrArg (Value.int .i64) (i64_succ q (by omega)), rfl⟩
          · rw [← Nat.add_assoc, hsn2, List.length_append]; exact ht3
          · rw [show k + (q + 1) - 1 = k + q by omega, List.drop_set_of_lt (by omega)]
            have := congrArg (List.drop 1) hLd
            rw [List.drop_drop, List.drop_drop] at this
            rwa [show k + q - 1 + 1 = k + q by omega] at this
          · rw [← Nat.add_assoc, hsn2, List.length_append, List.length_singleton]; omega
          · rw [← Nat.add_assoc, hsn2, List.length_append, List.length_singleton]; exact congrArg (Value.int .i64) (i64_succ K.length (by omega))
      have hkq : k + q = D.length := by omega
      rw [hkq, List.take_length] at hK
      rw [hK]
      clear IH2
      have hck2 : c ≠ K.length := by omega
      refine m_run ?_
      (apply TL.pv; exact rfl; (apply PV.sliceS (i := K.length) (j := D.length); exact rfl; exact tb rfl; exact rfl; exact tb rfl; exact .some rfl; exact .none; exact (by omega); exact hcap))
      refine TL.know (t := 56) (v := .slice (some ⟨b, K.length, none⟩) (D.length - K.length) (c - K.length)) (congrArg (fun z => Value.slice z (D.length - K.length) (c - K.length)) (by
        rw [if_neg hck2]
        show some (Addr.add _ _) = _
        rw [add_at, Nat.mul_one, Nat.zero_add])) ?_
      (apply TL.clearOwn (o := K.length) (m := D.length - K.length) 0; exact rfl; exact rfl; exact tb rfl; exact rfl; exact tb rfl; exact rfl; exact rfl; exact (by omega); exact (by omega))
      refine TL.imp (Δ := own 31 1 (.slice (some ⟨b, 0, none⟩) K.length c) K.length (u32s K) :: Γ) (fun m h => sep_mono h (fun q hq => ?_) (fun _ => id)) ?_
      · have h1 := own_cut (k := K.length) hq (by omega) (by omega)
        have h3 : ((u32s L).take K.length ++ List.replicate (D.length - K.length) (Value.int .u32 0) ++ (u32s L).drop (K.length + (D.length - K.length))).take K.length = u32s K := by
          rw [List.append_assoc, List.take_append_of_le_length (by rw [List.length_take, u32s_len]; omega), List.take_take, Nat.min_self]
          unfold u32s
          rw [← List.map_take, hLt]
        rw [← h3]
        exact h1
      refine m_run ?_
      (apply TL.pv; exact rfl; (apply PV.sliceS (i := 0) (j := K.length); exact rfl; exact tb rfl; exact rfl; exact tb rfl; exact .none; exact .some rfl; exact (by omega); exact (by omega)))
      refine TL.know (t := 59) (v := .slice (some ⟨b, 0, none⟩) K.length c) (by
        show Value.slice (if c = 0 then some ⟨b, 0, none⟩ else some (Addr.add ⟨b, 0, none⟩ (0 * 1))) (K.length - 0) (c - 0) = _
        rw [if_neg (by omega), add_at]
        rfl) ?_
      refine m_run ?_
      (apply TK.ret1; exact rfl; exact rfl; (exact m_val))
      exact ⟨_, rfl, rfl, rfl⟩
    · refine TA.isF 25 rfl (beq_eq_false_iff_ne.2 (by omega)) ?_
      refine TA.done (by kernel_rfl) ?_
      rw [if_neg hxy] at hsn
      have hk2 : compL (D.take (k + 1)) = D.take (k + 1) := by rw [hsn, List.take_add_one, hy]; rfl
      refine m_run ?_
      exact IH (j - 1) _ _ (by omega) ⟨k + 1, by omega, by omega, hk2, rfl, congrArg (Value.int .i64) (i64_succ k (by omega)), rfl⟩
  obtain rfl : k = D.length := by omega
  rw [List.take_length] at hkk
  rw [hkk]
  refine m_run ?_
  (apply TK.ret1; exact rfl; exact rfl; (exact m_val))
  exact ⟨_, rfl, rfl, rfl⟩
def varsOf (l : List Tm) : List Nat := (l.filter (·.v)).map (·.n)
theorem varsOf_snoc (l : List Tm) (x : Tm) : varsOf (l ++ [x]) = if x.v then varsOf l ++ [x.n] else varsOf l := by
  unfold varsOf
  rw [List.filter_append, List.map_append]
  cases hx : x.v <;> simp [hx]
theorem varsOf_len (l : List Tm) : (varsOf l).length ≤ l.length := by
  unfold varsOf
  rw [List.length_map]
  exact List.length_filter_le _ _
theorem u32s_snoc (l : List Nat) (x : Nat) : u32s l ++ [.int .u32 (x : Int)] = u32s (l ++ [x]) := by simp [u32s]
theorem compL_mem : ∀ (l : List Nat) (x : Nat), x ∈ compL l ↔ x ∈ l
  | [], x => Iff.rfl
  | [a], x => Iff.rfl
  | a :: b :: l, x => by
    have ih := compL_mem (b :: l) x
    have h : compL (a :: b :: l) = if a = b then compL (b :: l) else a :: compL (b :: l) := rfl
    rw [h]
    split
    · rename_i hab
      rw [ih, hab]
      simp
    · rw [List.mem_cons, ih, List.mem_cons (a := x) (b := a)]
end Go.Proofs.Ythbcfamfaicneaa.E
