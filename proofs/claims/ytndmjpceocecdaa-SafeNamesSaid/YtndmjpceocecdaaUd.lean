/- Lengths of predicates, as the program keeps them: fits and clause, walked. -/
import Derived.Test.YtndmjpceocecdaaUc
import Derived.Test.YtndmjpceocecdaaUb
namespace Go.Proofs.Ytndmjpceocecdaa.E
open Go Go.RowKit Go.Proofs
attribute [local irreducible] TK TL TQ TA Fn PV
def u32N (n : Nat) : Value := .int .u32 (n : Int)
def lenN (n : Nat) : Value := .int .i64 (n : Int)
theorem keyU : KeyOk Try.prog 30 u32N := keyNat (tb rfl : TabOk Try.prog 30 _).1
/-- The map answers as the list of all that was seen. -/
def Says (es L : List (Nat × Nat)) : Prop := ∀ q, lookE es q = lookE L q
theorem says_put {es L : List (Nat × Nat)} {p n : Nat} (h : Says es L) (hl : lookE es p = none) : Says (setE es p n) (L ++ [(p, n)]) := fun q => by
  rw [setE_none hl, lookE_app, lookE_app, h q]
theorem says_old {es L : List (Nat × Nat)} {p n m : Nat} (h : Says es L) (hl : lookE es p = some m) : Says es (L ++ [(p, n)]) := fun q => by
  rw [h q, lookE_app]
  by_cases hq : q = p
  · subst hq
    rw [← h q, hl]; rfl
  · cases lookE L q <;> simp [lookE, hq]
set_option maxRecDepth 100000 in
theorem fits_t (mb p n : Nat) (es L : List (Nat × Nat)) (Γ : List HP) (hL : Says es L) :
    FnV Try.prog 48 [.map (some mb), .int .u32 (p : Int), .int .i64 (n : Int)] (mapA u32N lenN mb es :: Γ)
      fun v Γ' => v = .bool (fitB (lookE L p) n) ∧ ∃ es', Γ' = mapA u32N lenN mb es' :: Γ ∧ Says es' (L ++ [(p, n)]) := by
  refine Fn.enter Try.func48 rfl rfl rfl fun E => ?_
  have hm : has (mapA u32N lenN mb es :: Γ) (mapAt u32N lenN mb es) := has_at (up_map _ _ _ _) 0 rfl fun m h => mapA_at h
  refine m_run ?_
  cases hl : lookE es p with
  | some m =>
    (apply TL.pv; exact rfl; (apply PV.look2S keyU; exact tb rfl; exact rfl; exact ⟨_, (tb rfl : TabOk Try.prog 30 _).1⟩; exact (tb rfl : TabOk Try.prog 3 _); exact rfl; exact (rfl : _ = u32N p); exact hm; exact hl))
    rw [← hL p, hl]
    refine m_run ?_
    (apply TK.ret1; exact rfl; exact rfl; exact rfl)
    refine ⟨_, rfl, congrArg Value.bool ?_, es, rfl, says_old hL hl⟩
    simp only [fitB]
    by_cases h : m = n
    · simp [h]
    · rw [decide_eq_false h]
      simp; omega
  | none =>
    (apply TL.pv; exact rfl; (apply PV.look2N keyU; exact tb rfl; exact rfl; exact ⟨_, (tb rfl : TabOk Try.prog 30 _).1⟩; exact (tb rfl : TabOk Try.prog 3 _); exact rfl; exact (rfl : _ = u32N p); exact hm; exact hl))
    rw [← hL p, hl]
    refine m_run ?_
    (apply TL.mapPut 0 (kv := u32N) (vv := lenN) (nv := n); exact rfl; exact keyU; exact tb rfl; exact rfl; exact ⟨_, (tb rfl : TabOk Try.prog 30 _).1⟩; exact rfl; exact (rfl : _ = u32N p); exact rfl; exact rfl)
    refine m_run ?_
    (apply TK.ret1; exact rfl; exact rfl; (exact m_val))
    exact ⟨_, rfl, rfl, _, rfl, says_put hL hl⟩
set_option maxRecDepth 100000 in
set_option maxHeartbeats 1000000 in
theorem clause_t (mb : Nat) (c : Cl) (es L : List (Nat × Nat)) (Γ : List HP) (hL : Says es L) (h : c.ok Γ) (hn : c.small) :
    FnV Try.prog 44 [.map (some mb), .agg c.cells.toArray] (mapA u32N lenN mb es :: Γ)
      fun v Γ' => v = .bool (stepB L (atsOf c)) ∧ ∃ es', Γ' = mapA u32N lenN mb es' :: Γ ∧ Says es' (L ++ atsOf c) := by
  refine Fn.enter Try.func44 rfl rfl rfl fun E => ?_
  obtain ⟨⟨hp, hA, hc, hl⟩, A, c, l⟩ := c
  have hs0 : has Γ (srcAt 3 A l.length (ltsC l)) := h.2.1
  have hn1 : l.length ≤ 1000000 := hn.1
  refine m_run ?_
  (apply TL.box; exact rfl; exact rfl; (exact m_lst))
  intro b1
  refine TL.imp (Δ := row b1 [.int .u32 (hp : Int), .slice hA hl.length hc, .slice A l.length c] 36 :: mapA u32N lenN mb es :: Γ) (fun _ h => h) ?_
  refine TL.perm (.swap _ _ _) ?_
  refine m_run ?_
  (apply TL.callV; exact rfl; exact callB_of (by kernel_rfl); exact rfl; exact fun _ h => h)
  exact fits_t mb hp hl.length es L _ hL
  rintro _ _ ⟨rfl, es1, rfl, hL1⟩
  refine m_run ?_
  refine TK.sub (Δ := mapA u32N lenN mb es1 :: Γ) (by (repeat (first | exact List.Sublist.refl _ | apply List.Sublist.cons_cons | apply List.Sublist.cons))) ?_
  apply TK.iter (fun j ρ' Γ' => ∃ (i : Nat) (es' : List (Nat × Nat)), l.length = i + j ∧ Says es' (L ++ (hp, hl.length) :: (l.take i).map fun x => (x.a.p, x.a.l.length)) ∧ lk ρ' 0 = .map (some mb) ∧ lk ρ' 5 = .bool (stepB L ((hp, hl.length) :: (l.take i).map fun x => (x.a.p, x.a.l.length))) ∧ lk ρ' 18 = .slice A l.length c ∧ lk ρ' 19 = .int .i64 (l.length : Int) ∧ lk ρ' 20 = .int .i64 (i : Int) ∧ Γ' = mapA u32N lenN mb es' :: Γ) l.length
  · exact ⟨0, es1, by omega, hL1, rfl, congrArg Value.bool (by simp [stepB]), rfl, rfl, rfl, rfl⟩
  rintro j IH ρ' _ ⟨i, es', hj, hL', e0, e5, e18, e19, e20, rfl⟩
  refine TK.know5 e0 e5 e18 e19 e20 ?_
  by_cases hi : i < l.length
  · obtain ⟨x, hx⟩ : ∃ x, l[i]? = some x := ⟨l[i], List.getElem?_eq_getElem hi⟩
    refine TK.mem fun m0 hm0 => ?_
    obtain ⟨b, o, rfl⟩ := src_some (has_tls hs0 m0 hm0) (by rw [ltsC_len]; omega)
    clear hm0 m0
    obtain ⟨hel, _, _⟩ := has_lit hs0 hx
    refine m_run ?_
    (apply TL.alloc; exact rfl; exact tb rfl; exact (rfl : _ = [_, _, _]))
    intro b7
    refine m_run ?_
    refine TL.perm (.swap _ _ _) ?_
    (apply TL.callV; exact rfl; exact callB_of (by kernel_rfl); exact rfl; exact fun _ h => h)
    exact fits_t mb x.a.p x.a.l.length es' _ _ hL'
    rintro _ _ ⟨rfl, es2, rfl, hL2⟩
    have hts : (l.take (i + 1)).map (fun x => (x.a.p, x.a.l.length)) = (l.take i).map (fun x => (x.a.p, x.a.l.length)) ++ [(x.a.p, x.a.l.length)] := by rw [List.take_add_one, hx]; simp
    have hst := stepB_snoc ((hp, hl.length) :: (l.take i).map fun x => (x.a.p, x.a.l.length)) L (x.a.p, x.a.l.length)
    rw [List.cons_append, ← hts] at hst
    rw [List.append_assoc, List.cons_append, ← hts] at hL2
    simp only at hst
    cases hf : fitB (lookE (L ++ (hp, hl.length) :: (l.take i).map fun x => (x.a.p, x.a.l.length)) x.a.p) x.a.l.length with
    | true =>
      rw [hf, Bool.true_and] at hst
      refine m_run ?_
      refine TK.sub (Δ := mapA u32N lenN mb es2 :: Γ) (by (repeat (first | exact List.Sublist.refl _ | apply List.Sublist.cons_cons | apply List.Sublist.cons))) ?_
      exact IH (j - 1) _ _ (by omega) ⟨i + 1, es2, by omega, hL2, rfl, congrArg Value.bool hst.symm, rfl, rfl, congrArg (Value.int .i64) (i64_succ i (by omega)), rfl⟩
    | false =>
      rw [hf, Bool.false_and] at hst
      refine m_run ?_
      refine TK.sub (Δ := mapA u32N lenN mb es2 :: Γ) (by (repeat (first | exact List.Sublist.refl _ | apply List.Sublist.cons_cons | apply List.Sublist.cons))) ?_
      exact IH (j - 1) _ _ (by omega) ⟨i + 1, es2, by omega, hL2, rfl, congrArg Value.bool hst.symm, rfl, rfl, congrArg (Value.int .i64) (i64_succ i (by omega)), rfl⟩
  · rw [List.take_of_length_le (by omega)] at hL' ⊢
    refine m_run ?_
    (apply TK.ret1; exact rfl; exact rfl; (exact m_val))
    exact ⟨_, rfl, rfl, es', rfl, hL'⟩
end Go.Proofs.Ytndmjpceocecdaa.E
