/- The records of an audit: what clones, owns, counts and compares, as the program does. -/
import Derived.Test.YtoccilnobgoncaaSm
namespace Go.Proofs.Ytoccilnobgoncaa.E
open Go Go.RowKit Go.Proofs
attribute [local irreducible] TK TL TQ Fn PV
theorem count_t (b : Nat) (n : Int) (Γ : List HP) (h : has Γ (fun m => cellAt m b 128 (.int .u64 n))) :
    FnV Try.prog 22 [.pointer (some ⟨b, 0, none⟩)] Γ fun v Γ' => v = .int .u64 n ∧ Γ' = Γ := by
  refine Fn.enter Try.func22 rfl rfl rfl fun E => ?_
  refine m_run ?_
  (apply TK.ret1; exact rfl; (exact m_val))
  exact ⟨_, rfl, rfl, rfl⟩
theorem count_nil (Γ : List HP) : FnV Try.prog 22 [.pointer none] Γ fun v Γ' => v = .int .u64 0 ∧ Γ' = Γ := by
  refine Fn.enter Try.func22 rfl rfl rfl fun E => ?_
  refine m_run ?_
  (apply TK.ret1; exact rfl; (exact m_val))
  exact ⟨_, rfl, rfl, rfl⟩
/-- slices.Clone at numbers. -/
theorem clone_u32 (A : Option Addr) (n c : Nat) (cs : List Value) (Γ : List HP) (h : has Γ (srcAt 1 A n cs)) (h1 : ∀ u ∈ cs, u.oneCell' = true) (hn : n ≤ 1000000) :
    FnV Try.prog 67 [.slice A n c] Γ fun v Γ' => ∃ A' c', n ≤ c' ∧ v = .slice A' n c' ∧ Γ' = own 28 1 v n cs :: Γ := by
  refine Fn.enter Try.func67 rfl rfl rfl fun E => ?_
  cases A with
  | none =>
    refine m_run ?_
    refine TK.mem fun m hm => ?_
    obtain ⟨h2, h3 | ⟨b, o, h3, _⟩⟩ := h m hm
    · subst h3
      obtain rfl : n = 0 := by simpa using h2.symm
      refine TK.free (own_nil 28 1 (m := ·)) ?_
      (apply TK.ret1; exact rfl; (exact m_val))
      exact ⟨_, rfl, none, 0, Nat.le_refl _, rfl, rfl⟩
    · cases h3
  | some a =>
    refine m_run ?_
    (apply TL.buildSlice; exact rfl; exact tb rfl; exact rfl; exact tb rfl; exact rfl; exact rfl; exact rfl; exact rfl; (exact m_lst))
    intro b
    refine m_run ?_
    (apply TL.append 0; exact rfl; exact rfl; exact tb rfl; exact rfl; exact tb rfl; exact rfl; exact rfl; exact rfl)
    exact fun m hm => own_row (n := 0) rfl (by decide) hm
    exact rfl
    exact m_hsrc
    exact h1
    · show (0 + n) * 4 ≤ _; omega
    · unfold maxLen; omega
    exact fun _ => (rfl : _ = _ :: _)
    intro A' c' hc
    refine m_run ?_
    (apply TK.ret1; exact rfl; (exact m_val))
    refine ⟨_, rfl, A', c', by omega, ?_, ?_⟩ <;> simp
/-- 'own': a record in memory of its own. -/
theorem own_t (t p v : Int) (A : Option Addr) (n c : Nat) (cs : List Value) (Γ : List HP) (h : has Γ (srcAt 1 A n cs)) (h1 : ∀ u ∈ cs, u.oneCell' = true) (hn : n ≤ 1000000) :
    FnV Try.prog 54 [.agg #[.int .u64 t, .int .u32 p, .slice A n c, .int .u8 v]] Γ fun r Γ' => ∃ A' c', n ≤ c' ∧ r = .agg #[.int .u64 t, .int .u32 p, .slice A' n c', .int .u8 v] ∧ Γ' = own 28 1 (.slice A' n c') n cs :: Γ := by
  refine Fn.enter Try.func54 rfl rfl rfl fun E => ?_
  refine m_run ?_
  (apply TL.box; exact rfl; exact rfl; (exact m_lst))
  intro b1
  (apply TL.alloc; exact rfl; exact tb rfl; (exact m_lst))
  intro b2
  refine m_run ?_
  (apply TL.callV; exact rfl; exact callB_of (by kernel_rfl); exact rfl; exact fun _ h => h)
  exact clone_u32 A n c cs _ (by exact m_hsrc) h1 hn
  rintro _ _ ⟨A', c', hc, rfl, rfl⟩
  refine m_run ?_
  (apply TK.retRow 1; exact rfl; exact rfl; exact rfl; exact tb rfl; exact rfl; (exact m_lst); exact rfl)
  · exact ⟨_, rfl, A', c', hc, rfl, rfl⟩
  (repeat (first | exact List.Sublist.refl _ | apply List.Sublist.cons_cons | apply List.Sublist.cons))
/-! ### facts -/
structure Fact where
  p : Int
  args : List Int
def cmpArgs : List Int → List Int → Int
  | a :: xs, b :: ys => if a < b then -1 else if b < a then 1 else cmpArgs xs ys
  | _, _ => 0
def cmpFact (a b : Fact) : Int :=
  if a.p < b.p ∨ (a.p = b.p ∧ a.args.length < b.args.length) then -1 else if b.p < a.p ∨ b.args.length < a.args.length then 1 else cmpArgs a.args b.args
theorem cmpArgs_drop (k : Nat) (xs ys : List Int) (h1 : k < xs.length) (h2 : k < ys.length) :
    cmpArgs (xs.drop k) (ys.drop k) = if xs[k] < ys[k] then -1 else if ys[k] < xs[k] then 1 else cmpArgs (xs.drop (k + 1)) (ys.drop (k + 1)) := by
  rw [List.drop_eq_getElem_cons h1, List.drop_eq_getElem_cons h2]; rfl
theorem compare_t (a b : Fact) (A B : Option Addr) (c c' : Nat) (Γ : List HP) (hA : has Γ (srcAt 1 A a.args.length (nums .u32 a.args))) (hB : has Γ (srcAt 1 B b.args.length (nums .u32 b.args))) (hla : a.args.length ≤ 1000000) :
    FnV Try.prog 55 [.agg #[.int .u32 a.p, .slice A a.args.length c], .agg #[.int .u32 b.p, .slice B b.args.length c']] Γ fun v Γ' => v = .int .i64 (cmpFact a b) ∧ Γ' = Γ := by
  refine Fn.enter Try.func55 rfl rfl rfl fun E => ?_
  refine m_run ?_
  (apply TL.box; exact rfl; exact rfl; (exact m_lst))
  intro b1
  (apply TL.box; exact rfl; exact rfl; (exact m_lst))
  intro b2
  have hlt : a.p < b.p ∨ (a.p = b.p ∧ a.args.length < b.args.length) → cmpFact a b = -1 := fun h => by unfold cmpFact; rw [if_pos h]
  have hgt : ¬ (a.p < b.p ∨ (a.p = b.p ∧ a.args.length < b.args.length)) → (b.p < a.p ∨ b.args.length < a.args.length) → cmpFact a b = 1 := fun h h' => by unfold cmpFact; rw [if_neg h, if_pos h']
  have heq : a.p = b.p → a.args.length = b.args.length → cmpFact a b = cmpArgs a.args b.args := fun h h' => by unfold cmpFact; rw [if_neg (by omega), if_neg (by omega)]
  (repeat' (first | (refine TK.seq ?_) | (refine TK.region ?_) | (refine TK.block ?_) | (refine TK.inBlock ?_) | (refine TK.skip ?_) | (apply TK.exit; exact rfl) | (refine TL.nil ?_) | (apply TL.pv; exact rfl; (exact m_pv)) | (apply TL.storeR 0; exact rfl; exact rfl; (exact m_val); exact rfl; exact tb rfl; exact rfl; exact rfl; (exact m_lst); exact (rfl : _ = _ :: _)) | (apply TL.storeR 1; exact rfl; exact rfl; (exact m_val); exact rfl; exact tb rfl; exact rfl; exact rfl; (exact m_lst); exact (rfl : _ = _ :: _ :: _)) | (apply TL.storeR 2; exact rfl; exact rfl; (exact m_val); exact rfl; exact tb rfl; exact rfl; exact rfl; (exact m_lst); exact (rfl : _ = _ :: _ :: _ :: _)) | (apply TL.storeR 3; exact rfl; exact rfl; (exact m_val); exact rfl; exact tb rfl; exact rfl; exact rfl; (exact m_lst); exact (rfl : _ = _ :: _ :: _ :: _ :: _)) | (apply TL.storeR 4; exact rfl; exact rfl; (exact m_val); exact rfl; exact tb rfl; exact rfl; exact rfl; (exact m_lst); exact (rfl : _ = _ :: _ :: _ :: _ :: _ :: _)) | (apply TL.storeR 5; exact rfl; exact rfl; (exact m_val); exact rfl; exact tb rfl; exact rfl; exact rfl; (exact m_lst); exact (rfl : _ = _ :: _ :: _ :: _ :: _ :: _ :: _)) | (apply TL.storeAggR 0; exact rfl; exact rfl; exact rfl; exact rfl; exact tb rfl; exact rfl; exact rfl; (exact m_lst); exact (rfl : _ = _ :: _)) | (apply TL.storeAggR 1; exact rfl; exact rfl; exact rfl; exact rfl; exact tb rfl; exact rfl; exact rfl; (exact m_lst); exact (rfl : _ = _ :: _ :: _)) | (apply TL.storeAggR 2; exact rfl; exact rfl; exact rfl; exact rfl; exact tb rfl; exact rfl; exact rfl; (exact m_lst); exact (rfl : _ = _ :: _ :: _ :: _)) | (apply TL.storeAggR 3; exact rfl; exact rfl; exact rfl; exact rfl; exact tb rfl; exact rfl; exact rfl; (exact m_lst); exact (rfl : _ = _ :: _ :: _ :: _ :: _)) | (apply TL.storeAggR 4; exact rfl; exact rfl; exact rfl; exact rfl; exact tb rfl; exact rfl; exact rfl; (exact m_lst); exact (rfl : _ = _ :: _ :: _ :: _ :: _ :: _)) | (apply TL.storeAggR 5; exact rfl; exact rfl; exact rfl; exact rfl; exact tb rfl; exact rfl; exact rfl; (exact m_lst); exact (rfl : _ = _ :: _ :: _ :: _ :: _ :: _ :: _)) | (apply TL.guard_yes; exact rfl; exact rfl; exact rfl; exact rfl) | (apply TL.guard_no; exact rfl; exact rfl; exact rfl; exact rfl; exact rfl; exact rfl) | (apply TL.guard_un; exact rfl; exact rfl; exact rfl; exact rfl; exact rfl) | (apply TK.cond_true; exact rfl) | (apply TK.cond_false; exact rfl) | (refine TK.label ?_) | (apply TK.condT; exact rfl; (exact m_tru)) | (apply TK.condF; exact rfl; (exact m_fls)) | (apply TL.guardT; exact rfl; exact rfl; exact rfl; (exact m_tru)) | (apply TL.guardF; exact rfl; exact rfl; exact rfl; (exact m_fls)) | (apply TK.cond; exact rfl; all_goals intro) | (apply TL.guard_by; exact rfl; exact rfl; exact rfl; all_goals intro)))
  all_goals (try simp only [decide_eq_true_eq, decide_eq_false_iff_not, beq_iff_eq, beq_eq_false_iff_ne] at *)
  · (apply TK.retS1; exact rfl; (exact m_val))
    · exact ⟨_, rfl, by rw [hlt (.inl ‹_›)], rfl⟩
    · (repeat (first | exact List.Sublist.refl _ | apply List.Sublist.cons_cons | apply List.Sublist.cons))
  · (apply TK.retS1; exact rfl; (exact m_val))
    · exact ⟨_, rfl, by rw [hlt (.inr ⟨‹_›, by omega⟩)], rfl⟩
    · (repeat (first | exact List.Sublist.refl _ | apply List.Sublist.cons_cons | apply List.Sublist.cons))
  · omega
  · (apply TK.retS1; exact rfl; (exact m_val))
    · exact ⟨_, rfl, by rw [hgt (by omega) (by omega)], rfl⟩
    · (repeat (first | exact List.Sublist.refl _ | apply List.Sublist.cons_cons | apply List.Sublist.cons))
  · rw [show cmpFact a b = cmpArgs a.args b.args from heq ‹_› (by omega)]
    have hlen : a.args.length = b.args.length := by omega
    apply TK.iter (fun j ρ' Γ' => ∃ i : Nat, i + j = a.args.length ∧ cmpArgs a.args b.args = cmpArgs (a.args.drop i) (b.args.drop i) ∧ lk ρ' 5 = .int .i64 i ∧ lk ρ' 2 = .pointer (some ⟨b1, 0, none⟩) ∧ lk ρ' 3 = .pointer (some ⟨b2, 0, none⟩) ∧
      Γ' = row b2 [.int .u32 b.p, .slice B b.args.length c'] 31 :: row b1 [.int .u32 a.p, .slice A a.args.length c] 31 :: Γ) a.args.length
    · exact ⟨0, by omega, by simp, rfl, rfl, rfl, rfl⟩
    rintro j IH ρ' Γ' ⟨i, hij, hcmp, e5, e2, e3, rfl⟩
    refine TK.know3 e5 e2 e3 ?_
    by_cases hi : i < a.args.length
    · have hdrop := cmpArgs_drop i a.args b.args hi (by omega)
      refine TK.mem fun m hm => ?_
      obtain ⟨ba, oa, rfl, _⟩ := (src_num (has_tail (up_src _ _ _ _) (has_tail (up_src _ _ _ _) hA) m hm)).2 i hi
      obtain ⟨bb, ob, rfl, _⟩ := (src_num (has_tail (up_src _ _ _ _) (has_tail (up_src _ _ _ _) hB) m hm)).2 i (by omega)
      have ha := has_num hA hi
      have hb := has_num hB (i := i) (by omega)
      by_cases h1 : a.args[i] < b.args[i]
      · refine m_run ?_
        refine m_quiet ?_
        refine m_run ?_
        (apply TK.retS1; exact rfl; (exact m_val))
        · exact ⟨_, rfl, by rw [hcmp, hdrop, if_pos h1], rfl⟩
        · (repeat (first | exact List.Sublist.refl _ | apply List.Sublist.cons_cons | apply List.Sublist.cons))
      · refine m_run ?_
        refine m_quiet ?_
        refine m_run ?_
        by_cases h2 : b.args[i] < a.args[i]
        · refine m_quiet ?_
          refine m_run ?_
          (apply TK.retS1; exact rfl; (exact m_val))
          · exact ⟨_, rfl, by rw [hcmp, hdrop, if_neg h1, if_pos h2], rfl⟩
          · (repeat (first | exact List.Sublist.refl _ | apply List.Sublist.cons_cons | apply List.Sublist.cons))
        · refine m_quiet ?_
          refine m_run ?_
          refine IH (j - 1) _ _ (by omega) ⟨i + 1, by omega, ?_, congrArg (Value.int .i64) (i64_succ i (by omega)), rfl, rfl, rfl⟩
          rw [hcmp, hdrop, if_neg h1, if_neg h2]
    · refine m_run ?_
      (apply TK.retS1; exact rfl; (exact m_val))
      · exact ⟨_, rfl, by rw [hcmp, List.drop_of_length_le (by omega)]; rfl, rfl⟩
      · (repeat (first | exact List.Sublist.refl _ | apply List.Sublist.cons_cons | apply List.Sublist.cons))
  · (apply TK.retS1; exact rfl; (exact m_val))
    · exact ⟨_, rfl, by rw [hgt (by omega) (by omega)], rfl⟩
    · (repeat (first | exact List.Sublist.refl _ | apply List.Sublist.cons_cons | apply List.Sublist.cons))
  · omega
  · omega
end Go.Proofs.Ytoccilnobgoncaa.E
