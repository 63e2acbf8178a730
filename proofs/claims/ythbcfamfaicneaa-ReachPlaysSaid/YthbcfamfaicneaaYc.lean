/- Terms put one behind the other: Grow, Concat, Clone; a said atom, flat: walked. -/
import Derived.Test.YthbcfamfaicneaaYb
import Derived.Test.YthbcfamfaicneaaSc
namespace Go.Proofs.Ythbcfamfaicneaa.E
open Go Go.RowKit Go.Proofs
attribute [local irreducible] TK TL TQ TA TB Fn PV
theorem tmsC_one (l : List Tm) : ∀ u ∈ tmsC l, u.oneCell' = true := by
  intro u hu
  obtain ⟨p, _, hp⟩ := List.mem_flatMap.1 hu
  simp only [tmC, List.mem_cons, List.not_mem_nil, or_false] at hp
  rcases hp with rfl | rfl <;> rfl
abbrev ownTm (A : Option Addr) (k : Nat) (T : List Tm) : HP := own 38 2 (.slice A T.length k) T.length (tmsC T)
set_option maxRecDepth 100000 in
set_option maxHeartbeats 1000000 in
theorem grow_t (n : Nat) (Γ : List HP) (hn : n ≤ 2000000) : FnV Try.prog 119 [.slice none 0 0, .int .i64 (n : Int)] Γ fun v Γ' => ∃ A c, n ≤ c ∧ v = .slice A 0 c ∧ Γ' = ownTm A c [] :: Γ := by
  refine Fn.enter Try.func119 rfl rfl rfl fun E => ?_
  by_cases h0 : n = 0
  · subst h0
    refine TK.free (H := ownTm none 0 []) (fun m hm => own_nil _ _ hm) ?_
    refine m_run ?_
    (apply TK.ret1; exact rfl; exact rfl; (exact m_val))
    exact ⟨_, rfl, none, 0, Nat.le_refl _, rfl, rfl⟩
  · refine m_run ?_
    rw [show IntKind.i64.wrap ((n : Int) - IntKind.i64.wrap (((0 : Nat) : Int) - ((0 : Nat) : Int))) = n by rw [i64_in (x := ((0 : Nat) : Int) - ((0 : Nat) : Int)) (by omega) (by omega), i64_in (by omega) (by omega)]; omega]
    refine m_run ?_
    (apply TL.sliceHi; exact rfl; exact rfl; exact rfl; exact tb rfl; exact rfl; exact tb rfl; exact Int.le_refl _; exact Int.natCast_nonneg _)
    refine m_run ?_
    (apply TL.appZG; exact rfl; exact tb rfl; exact rfl; exact tb rfl; exact tb rfl; exact rfl; exact rfl; exact rfl; exact rfl; exact rfl; exact rfl; exact (by omega); exact (by omega))
    intro A c Z hc
    refine m_run ?_
    (apply TL.sliceHi; exact rfl; exact rfl; exact rfl; exact tb rfl; exact rfl; exact tb rfl; exact Int.le_refl _; exact Int.natCast_nonneg _)
    refine TL.imp (Δ := ownTm A c [] :: Γ) (fun m hm => sep_mono hm (fun _ h => by
      have := own_shrink h (Nat.zero_le n)
      rw [Nat.zero_mul, List.take_zero] at this
      exact this) (fun _ h => h)) ?_
    refine m_run ?_
    (apply TK.ret1; exact rfl; exact rfl; (exact m_val))
    exact ⟨_, rfl, A, c, hc, rfl, rfl⟩
theorem clone_t (A : Option Addr) (c : Nat) (l : List Tm) (Γ : List HP) (hs : has Γ (srcAt 2 A l.length (tmsC l))) (hk : l.length ≤ 1000000) :
    FnV Try.prog 105 [.slice A l.length c] Γ fun v Γ' => ∃ A' c', l.length ≤ c' ∧ v = .slice A' l.length c' ∧ Γ' = ownTm A' c' l :: Γ := by
  refine Fn.enter Try.func105 rfl rfl rfl fun E => ?_
  cases A with
  | none =>
    refine TK.mem fun m hm => ?_
    have hk0 : l = [] := by
      have h1 := (hs m hm).1
      rcases (hs m hm).2 with h | ⟨b, o, e, _⟩
      · rw [h] at h1
        exact List.eq_nil_of_length_eq_zero (by simp at h1; omega)
      · cases e
    clear hm m
    subst hk0
    refine TK.free (H := ownTm none 0 []) (fun m hm => own_nil _ _ hm) ?_
    refine m_run ?_
    (apply TK.ret1; exact rfl; exact rfl; (exact m_val))
    exact ⟨_, rfl, none, 0, Nat.le_refl _, rfl, rfl⟩
  | some a =>
    refine m_run ?_
    (apply TL.buildSlice; exact rfl; exact tb rfl; exact rfl; exact tb rfl; exact rfl; exact rfl; exact rfl; exact rfl; (exact m_lst))
    intro b
    refine m_run ?_
    (apply TL.append 0; exact rfl; exact rfl; exact tb rfl; exact rfl; exact tb rfl; exact rfl; exact rfl; exact rfl)
    · exact fun _ h => own_row (n := 0) rfl (by decide) h
    · exact rfl
    · exact has_tls hs
    · exact tmsC_one l
    · show (0 + l.length) * 8 ≤ _; omega
    · show 0 + l.length ≤ maxLen; unfold maxLen; omega
    · exact fun _ => (rfl : _ = _ :: _)
    intro A' c' hc
    rw [Nat.zero_add, List.nil_append] at *
    refine m_run ?_
    (apply TK.ret1; exact rfl; exact rfl; (exact m_val))
    exact ⟨_, rfl, A', c', hc, rfl, rfl⟩
set_option maxRecDepth 100000 in
set_option maxHeartbeats 2000000 in
/-- Concat of one term and others. -/
theorem concat_t (b0 b1 : Nat) (w : Tm) (A : Option Addr) (c : Nat) (l : List Tm) (Γ : List HP) (h0 : has Γ (srcAt 1 (some ⟨b0, 0, none⟩) 2 [.slice (some ⟨b1, 0, none⟩) 1 1, .slice A l.length c])) (h1 : has Γ (srcAt 2 (some ⟨b1, 0, none⟩) 1 (tmsC [w]))) (hs : has Γ (srcAt 2 A l.length (tmsC l))) (hk : l.length ≤ 1000000) :
    FnV Try.prog 99 [.slice (some ⟨b0, 0, none⟩) 2 2] Γ fun v Γ' => ∃ A' c', (w :: l).length ≤ c' ∧ v = .slice A' (w :: l).length c' ∧ Γ' = ownTm A' c' (w :: l) :: Γ := by
  refine Fn.enter Try.func99 rfl rfl rfl fun E => ?_
  have hA : has Γ (fun m => cellAt m b0 0 (.slice (some ⟨b1, 0, none⟩) 1 1)) := has_imp h0 fun m hm => by
    rcases hm.2 with h | ⟨b, o, e, h⟩
    · cases h
    · injection e with e; injection e with e1 e2 _; subst e1; subst e2; exact h 0 _ rfl
  have hB : has Γ (fun m => cellAt m b0 1 (.slice A l.length c)) := has_imp h0 fun m hm => by
    rcases hm.2 with h | ⟨b, o, e, h⟩
    · cases h
    · injection e with e; injection e with e1 e2 _; subst e1; subst e2; exact h 1 _ rfl
  refine m_run ?_
  refine TK.loop ?_
  refine m_run ?_
  refine TK.inLoop ?_
  refine m_run ?_
  refine TL.know (t := 11) (v := .int .i64 ((1 : Nat) : Int)) rfl ?_
  refine m_run ?_
  rw [show IntKind.i64.wrap (IntKind.i64.wrap (0 + ((1 : Nat) : Int)) + (l.length : Int)) = ((l.length + 1 : Nat) : Int) by rw [i64_in (x := 0 + ((1 : Nat) : Int)) (by omega) (by omega), i64_in (by omega) (by omega)]; omega]
  refine m_run ?_
  refine TK.inLoop ?_
  refine m_run ?_
  (apply TL.callV; exact rfl; exact callB_of (by kernel_rfl); exact rfl; exact fun _ h => h)
  exact grow_t (l.length + 1) Γ (by omega)
  rintro _ _ ⟨B, k, hk, rfl, rfl⟩
  refine m_run ?_
  refine TK.loop ?_
  refine m_run ?_
  (apply TL.append 0; exact rfl; exact rfl; exact tb rfl; exact rfl; exact tb rfl; exact rfl; exact rfl; exact rfl)
  · exact fun _ h => h
  · exact rfl
  · exact has_tls h1
  · exact tmsC_one [w]
  · show (0 + 1) * 8 ≤ _; omega
  · show 0 + 1 ≤ maxLen; unfold maxLen; omega
  · exact fun _ => (rfl : _ = _ :: _)
  intro B2 k2 hk2
  refine m_run ?_
  refine TK.inLoop ?_
  refine m_run ?_
  refine TL.know (t := 27) (v := .int .i64 ((1 : Nat) : Int)) rfl ?_
  refine m_run ?_
  (apply TL.append 0; exact rfl; exact rfl; exact tb rfl; exact rfl; exact tb rfl; exact rfl; exact rfl; exact rfl)
  · exact fun _ h => h
  · exact rfl
  · exact has_tls hs
  · exact tmsC_one l
  · show (0 + 1 + l.length) * 8 ≤ _; omega
  · show 0 + 1 + l.length ≤ maxLen; unfold maxLen; omega
  · exact fun _ => (rfl : _ = _ :: _)
  intro B3 k3 hk3
  refine m_run ?_
  refine TK.inLoop ?_
  rw [show ([] : List Tm).length + 1 + l.length = (w :: l).length by simp; omega] at *
  refine m_run ?_
  (apply TK.ret1; exact rfl; exact rfl; (exact m_val))
  exact ⟨_, rfl, B3, k3, hk3, rfl, rfl⟩
theorem flat_t (w : Tm) (a : Atm) (Γ : List HP) (ha : a.ok Γ) (hk : a.l.length ≤ 1000000) :
    FnV Try.prog 64 [.agg (tmC w).toArray, .agg a.cells.toArray] Γ fun v Γ' => ∃ B k, (w :: a.l).length ≤ k ∧ v = .agg (Atm.cells ⟨a.p, B, k, w :: a.l⟩).toArray ∧ Γ' = ownTm B k (w :: a.l) :: Γ := by
  refine Fn.enter Try.func64 rfl rfl rfl fun E => ?_
  obtain ⟨p, A, c, l⟩ := a
  refine m_run ?_
  (apply TL.box; exact rfl; exact rfl; (exact m_lst))
  intro b2
  refine m_run ?_
  (apply TL.box; exact rfl; exact rfl; (exact m_lst))
  intro b3
  refine m_run ?_
  (apply TL.alloc; exact rfl; exact tb rfl; exact (rfl : _ = [_, _]))
  intro b4
  refine TL.imp (Δ := row b4 [.int .u32 0, .slice none 0 0] 41 :: row b3 [.int .u32 (p : Int), .slice A l.length c] 41 :: row b2 [.bool w.v, .int .u32 (w.n : Int)] 38 :: Γ) (fun _ h => h) ?_
  refine m_run ?_
  refine TK.drawB mixed rfl 9 (row b4 [.int .u32 0, .slice none 0 0] 41 :: row b3 [.int .u32 (p : Int), .slice A l.length c] 41 :: row b2 [.bool w.v, .int .u32 (w.n : Int)] 38 :: Γ) Γ ?_
  refine m_bake (At.mk : At 0) ?_; refine m_bake (At.mk : At 1) ?_; refine m_bake (At.mk : At 2) ?_; refine m_bake (At.mk : At 4) ?_; refine m_bake (At.mk : At 5) ?_
  (apply TB.one 3; kernel_rfl; exact rfl; exact rfl)
  (apply TL.buildSlice (l := tmsC [w]); exact rfl; exact tb rfl; exact rfl; exact tb rfl; exact rfl; exact rfl; exact rfl; exact rfl; exact rfl)
  intro b8
  refine TL.backB (by (focus ((repeat (first | assumption | exact Ent.refl _ | apply Ent.tail)); done))) ?_
  (apply TB.one 6; kernel_rfl; exact rfl; exact rfl)
  (apply TL.buildSlice (l := [.slice (some ⟨b8, 0, none⟩) 1 1, .slice A l.length c]); exact rfl; exact tb rfl; exact rfl; exact tb rfl; exact rfl; exact rfl; exact rfl; exact rfl; exact rfl)
  intro b11
  refine TL.backB (by (focus ((repeat (first | assumption | exact Ent.refl _ | apply Ent.tail)); done))) ?_
  (apply TB.one 7; kernel_rfl; exact rfl; exact rfl)
  (apply TL.callV; exact rfl; exact callB_of (by kernel_rfl); exact rfl; exact fun _ h => h)
  exact concat_t b11 b8 w A c l _ (has_src_row 0 rfl rfl) (has_src_row 1 rfl rfl) (has_tls (has_tls (has_tls (has_tls (has_tls ha.1))))) hk
  rintro _ _ ⟨B, k, hk, rfl, rfl⟩
  refine TL.backB (by (focus ((repeat (first | assumption | exact Ent.refl _ | apply Ent.tail)); done))) ?_
  (apply TB.takeA (At.mk : At 8); exact rfl; exact rfl; kernel_rfl; exact rfl; ((focus ((repeat (first | assumption | exact Ent.refl _ | apply Ent.tail)); done))); (apply PV.build tabs; exact rfl; exact rfl; exact rfl; exact rfl; exact rfl; exact (rfl : _ = Atm.cells ⟨p, B, k, w :: l⟩)))
  (apply TB.last; kernel_rfl; exact rfl)
  (apply TL.storeAggR 3; exact rfl; exact rfl; exact rfl; exact rfl; exact tb rfl; exact rfl; exact rfl; (exact m_lst); exact (rfl : _ = _ :: _ :: _ :: _ :: _))
  refine TL.back (by (focus ((repeat (first | assumption | exact Ent.refl _ | apply Ent.tail)); done))) ?_
  refine TA.done (by kernel_rfl) ?_
  refine m_run ?_
  (apply TK.retRow (i := 3) (Δ := ownTm B k (w :: l) :: Γ); exact rfl; exact rfl; exact rfl; exact rfl; exact tb rfl; exact rfl; exact (rfl : _ = [_, _]); exact rfl)
  · exact ⟨_, rfl, B, k, hk, rfl, rfl⟩
  · (repeat (first | exact List.Sublist.refl _ | apply List.Sublist.cons_cons | apply List.Sublist.cons))
end Go.Proofs.Ythbcfamfaicneaa.E
