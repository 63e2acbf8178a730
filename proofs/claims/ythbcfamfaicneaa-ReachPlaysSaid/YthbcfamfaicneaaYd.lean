/- Which credentials may be, as the program tells it: plain, the closure of rule, walked. -/
import Derived.Test.YthbcfamfaicneaaYc
import Derived.Test.YthbcfamfaicneaaUb
namespace Go.Proofs.Ythbcfamfaicneaa.E
open Go Go.RowKit Go.Proofs
attribute [local irreducible] TK TL TQ TA TB Fn PV
theorem tm0 (w : Tm) : (w.v == false && ((w.n : Int) == ((0 : Nat) : Int) && true)) = decide (w = ⟨false, 0⟩) := tm_eq w ⟨false, 0⟩
set_option maxRecDepth 100000 in
theorem plain_t (y : Sy) (Γ : List HP) : FnV Try.prog 63 [.agg y.cells.toArray] Γ fun v Γ' => v = .bool (plainS y) ∧ Γ' = Γ := by
  refine Fn.enter Try.func63 rfl rfl rfl fun E => ?_
  obtain ⟨s, w, a⟩ := y
  refine m_run ?_
  (apply TL.box; exact rfl; exact rfl; (exact m_lst))
  intro b1
  refine TL.imp (Δ := row b1 [.bool s, .bool w.v, .int .u32 (w.n : Int), .int .u32 (a.p : Int), .slice a.A a.l.length a.c] 43 :: Γ) (fun _ h => h) ?_
  have hb : has (row b1 [.bool s, .bool w.v, .int .u32 (w.n : Int), .int .u32 (a.p : Int), .slice a.A a.l.length a.c] 43 :: Γ) (fun m => cellsAt m b1 1 (tmC w)) := has_rows 0 rfl rfl
  cases s with
  | true =>
    refine m_run ?_
    (apply TK.retS1; exact rfl; exact rfl; (exact m_val))
    exact ⟨_, rfl, rfl, rfl⟩
    (repeat (first | exact List.Sublist.refl _ | apply List.Sublist.cons_cons | apply List.Sublist.cons))
  | false =>
    refine m_run ?_
    (apply TL.pv; exact rfl; (apply PV.build tabs; exact rfl; exact rfl; exact rfl; exact rfl; exact rfl; exact (rfl : _ = tmC ⟨false, 0⟩)))
    refine m_run ?_
    (apply TL.pv; exact rfl; (apply PV.eqSt (xs := tmC w) (ys := tmC ⟨false, 0⟩) tabs; exact rfl; exact rfl; exact rfl; exact rfl; kernel_rfl; kernel_rfl; exact congrArg some (tm0 w)))
    refine m_run ?_
    (apply TK.retS1; exact rfl; exact rfl; (exact m_val))
    exact ⟨_, rfl, rfl, rfl⟩
    (repeat (first | exact List.Sublist.refl _ | apply List.Sublist.cons_cons | apply List.Sublist.cons))
theorem index_u (A : Option Addr) (c : Nat) (l : List Nat) (v : Nat) (Γ : List HP) (hs : has Γ (srcAt 1 A l.length (u32s l))) (hn : l.length ≤ 1000000) :
    FnV Try.prog 104 [.slice A l.length c, .int .u32 (v : Int)] Γ fun r Γ' => (∃ i : Int, r = .int .i64 i ∧ decide (0 ≤ i) = decide (v ∈ l)) ∧ Γ' = Γ := by
  refine Fn.enter Try.func104 rfl rfl rfl fun E => ?_
  refine m_run ?_
  apply TK.iter (fun j ρ' Γ' => ∃ i : Nat, i + j = l.length ∧ v ∉ l.take i ∧ lk ρ' 0 = .slice A l.length c ∧ lk ρ' 1 = .int .u32 (v : Int) ∧ lk ρ' 7 = .int .i64 (l.length : Int) ∧ lk ρ' 8 = .int .i64 (i : Int) ∧ Γ' = Γ) l.length
  · exact ⟨0, Nat.zero_add _, by simp, rfl, rfl, rfl, rfl, rfl⟩
  rintro j IH ρ' Γ ⟨i, hij, hno, e0, e1, e7, e8, rfl⟩
  refine TK.know4 e0 e1 e7 e8 ?_
  by_cases hi : i < l.length
  · obtain ⟨x, hx⟩ : ∃ x, l[i]? = some x := ⟨l[i], List.getElem?_eq_getElem hi⟩
    refine TK.mem fun m0 hm0 => ?_
    obtain ⟨b, o, rfl⟩ := src_some (hs m0 hm0) (by rw [u32s_len]; omega)
    clear hm0 m0
    have hw := has_u32 hs hx
    by_cases hxv : v = x
    · subst hxv
      refine m_run ?_
      (apply TK.ret1; exact rfl; exact rfl; (exact m_val))
      refine ⟨_, rfl, ⟨_, rfl, ?_⟩, rfl⟩
      rw [decide_eq_true (by omega), decide_eq_true (List.mem_of_getElem? hx)]
    · refine m_run ?_
      refine IH (j - 1) _ _ (by omega) ⟨i + 1, by omega, ?_, rfl, rfl, rfl, congrArg (Value.int .i64) (i64_succ i (by omega)), rfl⟩
      rw [List.take_add_one, hx, List.mem_append, not_or]
      exact ⟨hno, by simpa using hxv⟩
  obtain rfl : i = l.length := by omega
  rw [List.take_length] at hno
  refine m_run ?_
  (apply TK.ret1; exact rfl; exact rfl; (exact m_val))
  refine ⟨_, rfl, ⟨_, rfl, ?_⟩, rfl⟩
  rw [decide_eq_false hno]; rfl
theorem contains_u (A : Option Addr) (c : Nat) (l : List Nat) (v : Nat) (Γ : List HP) (hs : has Γ (srcAt 1 A l.length (u32s l))) (hn : l.length ≤ 1000000) :
    FnV Try.prog 69 [.slice A l.length c, .int .u32 (v : Int)] Γ fun r Γ' => r = .bool (decide (v ∈ l)) ∧ Γ' = Γ := by
  refine Fn.enter Try.func69 rfl rfl rfl fun E => ?_
  refine m_run ?_
  (apply TL.callV; exact rfl; exact callB_of (by kernel_rfl); exact rfl; exact fun _ h => h)
  exact index_u A c l v Γ hs hn
  rintro _ Γ ⟨⟨i, rfl, hi⟩, rfl⟩
  refine m_run ?_
  (apply TK.ret1; exact rfl; exact rfl; (exact m_val))
  exact ⟨_, rfl, congrArg Value.bool hi, rfl⟩
theorem rule1_t (b : Nat) (A : Option Addr) (c : Nat) (l : List Nat) (v : Nat) (Γ : List HP) (hc : has Γ (fun m => cellAt m b 0 (.slice A l.length c))) (hs : has Γ (srcAt 1 A l.length (u32s l))) (hn : l.length ≤ 1000000) :
    FnV Try.prog 68 [.int .u32 (v : Int), .pointer (some ⟨b, 0, none⟩)] Γ fun r Γ' => r = .bool (!decide (v ∈ l)) ∧ Γ' = Γ := by
  refine Fn.enter Try.func68 rfl rfl rfl fun E => ?_
  refine m_run ?_
  (apply TL.callV; exact rfl; exact callB_of (by kernel_rfl); exact rfl; exact fun _ h => h)
  exact contains_u A c l v Γ hs hn
  rintro _ Γ ⟨rfl, rfl⟩
  refine m_run ?_
  (apply TK.ret1; exact rfl; exact rfl; (exact m_val))
  exact ⟨_, rfl, rfl, rfl⟩
theorem indexF_u (F : FuncId) (cs : List Value) (p : Nat → Bool) (A : Option Addr) (c : Nat) (l : List Nat) (Γ : List HP) (hc : Callable Try.prog F) (hs : has Γ (srcAt 1 A l.length (u32s l))) (hn : l.length ≤ 1000000)
    (hF : ∀ x ∈ l, FnV Try.prog F (.int .u32 (x : Int) :: cs) Γ fun v Γ' => v = .bool (p x) ∧ Γ' = Γ) :
    FnV Try.prog 103 [.slice A l.length c, .func (.func F) #[] cs.toArray] Γ fun v Γ' => (∃ i : Int, v = .int .i64 i ∧ decide (0 ≤ i) = l.any p) ∧ Γ' = Γ := by
  refine Fn.enter Try.func103 rfl rfl rfl fun E => ?_
  refine m_run ?_
  apply TK.iter (fun j ρ' Γ' => ∃ i : Nat, i + j = l.length ∧ (l.take i).any p = false ∧ lk ρ' 0 = .slice A l.length c ∧ lk ρ' 1 = .func (.func F) #[] cs.toArray ∧ lk ρ' 7 = .int .i64 (l.length : Int) ∧ lk ρ' 8 = .int .i64 (i : Int) ∧ Γ' = Γ) l.length
  · exact ⟨0, Nat.zero_add _, by simp, rfl, rfl, rfl, rfl, rfl⟩
  rintro j IH ρ' Γ ⟨i, hij, hno, e0, e1, e7, e8, rfl⟩
  refine TK.know4 e0 e1 e7 e8 ?_
  by_cases hi : i < l.length
  · obtain ⟨x, hx⟩ : ∃ x, l[i]? = some x := ⟨l[i], List.getElem?_eq_getElem hi⟩
    refine TK.mem fun m0 hm0 => ?_
    obtain ⟨b, o, rfl⟩ := src_some (hs m0 hm0) (by rw [u32s_len]; omega)
    clear hm0 m0
    have hw := has_u32 hs hx
    refine m_run ?_
    (apply TL.callFV (fs := []) (cs := cs); exact rfl; exact rfl; exact hc; exact rfl; exact fun _ h => h)
    exact hF x (List.mem_of_getElem? hx)
    rintro _ _ ⟨rfl, rfl⟩
    cases hp : p x with
    | true =>
      refine m_run ?_
      (apply TK.ret1; exact rfl; exact rfl; (exact m_val))
      refine ⟨_, rfl, ⟨_, rfl, ?_⟩, rfl⟩
      rw [decide_eq_true (by omega)]
      exact (List.any_eq_true.2 ⟨x, List.mem_of_getElem? hx, hp⟩).symm
    | false =>
      refine m_run ?_
      refine IH (j - 1) _ _ (by omega) ⟨i + 1, by omega, ?_, rfl, rfl, rfl, congrArg (Value.int .i64) (i64_succ i (by omega)), rfl⟩
      rw [List.take_add_one, hx, List.any_append, hno]
      simp [hp]
  obtain rfl : i = l.length := by omega
  rw [List.take_length] at hno
  refine m_run ?_
  (apply TK.ret1; exact rfl; exact rfl; (exact m_val))
  exact ⟨_, rfl, ⟨_, rfl, hno.symm⟩, rfl⟩
theorem containsF_u (F : FuncId) (cs : List Value) (p : Nat → Bool) (A : Option Addr) (c : Nat) (l : List Nat) (Γ : List HP) (hc : Callable Try.prog F) (hs : has Γ (srcAt 1 A l.length (u32s l))) (hn : l.length ≤ 1000000)
    (hF : ∀ x ∈ l, FnV Try.prog F (.int .u32 (x : Int) :: cs) Γ fun v Γ' => v = .bool (p x) ∧ Γ' = Γ) :
    FnV Try.prog 67 [.slice A l.length c, .func (.func F) #[] cs.toArray] Γ fun v Γ' => v = .bool (l.any p) ∧ Γ' = Γ := by
  refine Fn.enter Try.func67 rfl rfl rfl fun E => ?_
  refine m_run ?_
  (apply TL.callV; exact rfl; exact callB_of (by kernel_rfl); exact rfl; exact fun _ h => h)
  exact indexF_u F cs p A c l Γ hc hs hn hF
  rintro _ _ ⟨⟨i, rfl, hi⟩, rfl⟩
  refine m_run ?_
  (apply TK.ret1; exact rfl; exact rfl; exact rfl)
  exact ⟨_, rfl, congrArg Value.bool hi, rfl⟩
end Go.Proofs.Ythbcfamfaicneaa.E
