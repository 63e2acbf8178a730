/- The document's Of, Lift, Vars: walked. -/
import Derived.Test.YtokggdgagfmacaaE0
namespace Go.Proofs.Ytokggdgagfmacaa.E
open Go Go.RowKit Go.Proofs
attribute [local irreducible] TK TL TQ TA TB Fn PV
set_option maxRecDepth 100000 in
set_option maxHeartbeats 1000000 in
theorem rof_t (a : Atm) (Γ : List HP) (h : a.ok Γ) (hn : a.l.length ≤ 1000000) :
    FnV Try.prog 53 [.agg a.cells.toArray] Γ fun v Γ' => (groundA a.l = true ∧ ∃ B k, a.l.length ≤ k ∧ v = .tuple #[.agg (Fct.cells ⟨a.p, B, k, a.l.map (·.n)⟩).toArray, .bool true] ∧ Γ' = own 23 1 (.slice B a.l.length k) a.l.length (u32s (a.l.map (·.n))) :: Γ)
      ∨ (groundA a.l = false ∧ v = .tuple #[.agg (Fct.cells ⟨0, none, 0, []⟩).toArray, .bool false] ∧ Γ' = Γ) := by
  refine Fn.enter Try.func53 rfl rfl rfl fun E => ?_
  obtain ⟨p, A, c, l⟩ := a
  have hs0 : has Γ (srcAt 2 A l.length (tmsC l)) := h.1
  replace hn : l.length ≤ 1000000 := hn
  refine m_run ?_
  (apply TL.box; exact rfl; exact rfl; (exact m_lst))
  intro b1
  refine TL.imp (Δ := row b1 [.int .u32 (p : Int), .slice A l.length c] 42 :: Γ) (fun _ h => h) ?_
  refine m_run ?_
  (apply TL.alloc; exact rfl; exact tb rfl; (exact m_lst))
  intro b2
  refine m_run ?_
  (apply TL.callV; exact rfl; exact callB_of (by kernel_rfl); exact rfl; exact fun _ h => h)
  exact rground_t ⟨p, A, c, l⟩ _ (Atm.ok_tl (Atm.ok_tl h)) hn
  rintro _ _ ⟨rfl, rfl⟩
  cases hg : groundA l with
  | false =>
    refine m_run ?_
    (apply TL.pv; exact rfl; (apply PV.build tabs; exact rfl; exact rfl; exact rfl; exact rfl; exact rfl; exact (rfl : _ = [Value.int .u32 0, .slice none 0 0])))
    refine m_run ?_
    refine TK.imp (Δ := row b2 (Fct.cells ⟨0, none, 0, []⟩) 26 :: row b1 [.int .u32 (p : Int), .slice A l.length c] 42 :: Γ) (fun _ h => h) ?_
    exact TK.retSub (Δ := Γ) (fun R' hR' => TK.rets rfl rfl (.cons (.agg rfl (tb rfl) rfl rfl (has_rows (vs := Fct.cells ⟨0, none, 0, []⟩) 0 rfl rfl)) (.cons (.tmp rfl) .nil)) (hR' _ (by (repeat (first | exact List.Sublist.refl _ | apply List.Sublist.cons_cons | apply List.Sublist.cons))))) ⟨_, rfl, .inr ⟨rfl, rfl, rfl⟩⟩
  | true =>
    refine m_run ?_
    (apply TL.pv; exact rfl; (apply PV.build tabs; exact rfl; exact rfl; exact rfl; exact rfl; exact rfl; exact (rfl : _ = [Value.int .u32 (p : Int), .slice none 0 0])))
    (apply TL.alloc; exact rfl; exact tb rfl; exact (rfl : _ = [_, _]))
    intro b4
    refine m_run ?_
    refine TK.imp (Δ := row b4 [.int .u32 (p : Int), .slice none 0 0] 26 :: row b2 [.int .u32 0, .slice none 0 0] 26 :: row b1 [.int .u32 (p : Int), .slice A l.length c] 42 :: Γ) (fun _ h => h) ?_
    refine TK.free (H := own 23 1 (.slice none 0 0) 0 []) (fun m h => own_nil _ _ h) ?_
    apply TK.iter (fun j ρ' Γ' => ∃ (i : Nat) (B : Option Addr) (k : Nat), i + j = l.length ∧ i ≤ k ∧ lk ρ' 1 = .pointer (some ⟨b1, 0, none⟩) ∧ lk ρ' 2 = .pointer (some ⟨b2, 0, none⟩) ∧ lk ρ' 4 = .pointer (some ⟨b4, 0, none⟩) ∧ lk ρ' 5 = .int .i64 (i : Int) ∧ Γ' = own 23 1 (.slice B i k) i (u32s ((l.take i).map (·.n))) :: row b4 [.int .u32 (p : Int), .slice B i k] 26 :: row b2 [.int .u32 0, .slice none 0 0] 26 :: row b1 [.int .u32 (p : Int), .slice A l.length c] 42 :: Γ) l.length
    · exact ⟨0, none, 0, Nat.zero_add _, Nat.le_refl _, rfl, rfl, rfl, rfl, rfl⟩
    rintro j IH ρ' _ ⟨i, B, k, hij, hk, e1, e2, e4, e5, rfl⟩
    refine TK.know4 e1 e2 e4 e5 ?_
    by_cases hi : i < l.length
    · obtain ⟨x, hx⟩ : ∃ x, l[i]? = some x := ⟨l[i], List.getElem?_eq_getElem hi⟩
      have hsn : u32s ((l.take i).map (·.n)) ++ u32s [x.n] = u32s ((l.take (i + 1)).map (·.n)) := by
        rw [List.take_add_one, hx]; simp [u32s]
      refine TK.mem fun m0 hm0 => ?_
      obtain ⟨b, o, rfl⟩ := src_some (has_tls (has_tls (has_tls (has_tls hs0))) m0 hm0) (by rw [tmsC_len]; omega)
      clear hm0 m0
      have hel : has Γ (fun z => cellAt z b (o + i * 2 + 1) (.int .u32 (x.n : Int))) := has_cell (has_el (f := tmC) (fun _ => rfl) (by decide) hs0 hx) 1 rfl
      refine m_run ?_
      refine TK.drawB mixed rfl 11 (row b4 [.int .u32 (p : Int), .slice B i k] 26 :: row b2 [.int .u32 0, .slice none 0 0] 26 :: row b1 [.int .u32 (p : Int), .slice (some ⟨b, o, none⟩) l.length c] 42 :: Γ) Γ ?_
      refine m_bake (At.mk : At 0) ?_; refine m_bake (At.mk : At 1) ?_; refine m_bake (At.mk : At 2) ?_; refine m_bake (At.mk : At 3) ?_; refine m_bake (At.mk : At 4) ?_; refine m_bake (At.mk : At 5) ?_; refine m_bake (At.mk : At 6) ?_; refine m_bake (At.mk : At 7) ?_
      (apply TB.one 8; kernel_rfl; exact rfl; exact rfl)
      (apply TL.buildSlice (l := u32s [x.n]); exact rfl; exact tb rfl; exact rfl; exact tb rfl; exact rfl; exact rfl; exact rfl; exact rfl; exact rfl)
      intro b28
      refine TL.backB (by (focus ((repeat (first | assumption | exact Ent.refl _ | apply Ent.tail)); done))) ?_
      (apply TB.one 9; kernel_rfl; exact rfl; exact rfl)
      (apply TL.append 1; exact rfl; exact rfl; exact tb rfl; exact rfl; exact tb rfl; exact rfl; exact rfl; exact rfl)
      · exact fun _ h => h
      · exact rfl
      · exact has_src_row 0 rfl rfl
      · exact one_of rfl
      · show (i + 1) * 4 ≤ _; omega
      · show i + 1 ≤ maxLen; unfold maxLen; omega
      · exact fun _ => (rfl : _ = _ :: _ :: _)
      intro B' k' hk'
      rw [hsn]
      refine TL.backB (by (focus ((repeat (first | assumption | exact Ent.refl _ | apply Ent.tail)); done))) ?_
      refine m_bake (At.mk : At 10) ?_
      (apply TB.last; kernel_rfl; exact rfl)
      refine m_rrun ?_
      refine TL.back (by (focus ((repeat (first | assumption | exact Ent.refl _ | apply Ent.tail)); done))) ?_
      refine TA.done (by kernel_rfl) ?_
      refine m_run ?_
      refine TK.sub (Δ := own 23 1 (.slice B' (i + 1) k') (i + 1) (u32s ((l.take (i + 1)).map (·.n))) :: row b4 [.int .u32 (p : Int), .slice B' (i + 1) k'] 26 :: row b2 [.int .u32 0, .slice none 0 0] 26 :: row b1 [.int .u32 (p : Int), .slice (some ⟨b, o, none⟩) l.length c] 42 :: Γ) (by (repeat (first | exact List.Sublist.refl _ | apply List.Sublist.cons_cons | apply List.Sublist.cons))) ?_
      exact IH (j - 1) _ _ (by omega) ⟨i + 1, B', k', by omega, hk', rfl, rfl, rfl, congrArg (Value.int .i64) (i64_succ i (by omega)), rfl⟩
    obtain rfl : i = l.length := by omega
    rw [List.take_length]
    have hml : (l.map (·.n)).length = l.length := List.length_map ..
    refine m_run ?_
    refine TK.imp (Δ := own 23 1 (.slice B l.length k) l.length (u32s (l.map (·.n))) :: row b4 [.int .u32 (p : Int), .slice B l.length k] 26 :: row b2 (Fct.cells ⟨p, B, k, l.map (·.n)⟩) 26 :: row b1 [.int .u32 (p : Int), .slice A l.length c] 42 :: Γ) (fun _ h => by unfold Fct.cells; simp only [hml]; exact h) ?_
    exact TK.retSub (Δ := own 23 1 (.slice B l.length k) l.length (u32s (l.map (·.n))) :: Γ) (fun R' hR' => TK.rets rfl rfl (.cons (.agg rfl (tb rfl) rfl rfl (has_rows (vs := Fct.cells ⟨p, B, k, l.map (·.n)⟩) 2 rfl rfl)) (.cons (.tmp rfl) .nil)) (hR' _ (by (repeat (first | exact List.Sublist.refl _ | apply List.Sublist.cons_cons | apply List.Sublist.cons))))) ⟨_, rfl, .inl ⟨rfl, B, k, hk, rfl, rfl⟩⟩
set_option maxRecDepth 100000 in
set_option maxHeartbeats 1000000 in
theorem rlift_t (f : Fct) (Γ : List HP) (h : f.ok Γ) (hn : f.l.length ≤ 1000000) :
    FnV Try.prog 56 [.agg f.cells.toArray] Γ fun v Γ' => ∃ B k, f.l.length ≤ k ∧ v = .agg (Atm.cells ⟨f.p, B, k, liftT f.l⟩).toArray ∧ Γ' = own 54 2 (.slice B f.l.length k) f.l.length (tmsC (liftT f.l)) :: Γ := by
  refine Fn.enter Try.func56 rfl rfl rfl fun E => ?_
  obtain ⟨p, A, c, l⟩ := f
  have hs0 : has Γ (srcAt 1 A l.length (u32s l)) := h.1
  replace hn : l.length ≤ 1000000 := hn
  refine m_run ?_
  (apply TL.box; exact rfl; exact rfl; (exact m_lst))
  intro b1
  refine TL.imp (Δ := row b1 [.int .u32 (p : Int), .slice A l.length c] 26 :: Γ) (fun _ h => h) ?_
  refine m_run ?_
  (apply TL.alloc; exact rfl; exact tb rfl; (exact m_lst))
  intro b2
  refine m_run ?_
  (apply TL.pv; exact rfl; (apply PV.build tabs; exact rfl; exact rfl; exact rfl; exact rfl; exact rfl; exact (rfl : _ = [Value.int .u32 (p : Int), .slice none 0 0])))
  (apply TL.alloc; exact rfl; exact tb rfl; exact (rfl : _ = [_, _]))
  intro b3
  refine m_run ?_
  refine TK.imp (Δ := row b3 [.int .u32 (p : Int), .slice none 0 0] 42 :: row b2 [.int .u32 0, .slice none 0 0] 42 :: row b1 [.int .u32 (p : Int), .slice A l.length c] 26 :: Γ) (fun _ h => h) ?_
  refine TK.free (H := own 54 2 (.slice none 0 0) 0 []) (fun m h => own_nil _ _ h) ?_
  apply TK.iter (fun j ρ' Γ' => ∃ (i : Nat) (B : Option Addr) (k : Nat), i + j = l.length ∧ i ≤ k ∧ lk ρ' 1 = .pointer (some ⟨b1, 0, none⟩) ∧ lk ρ' 2 = .pointer (some ⟨b2, 0, none⟩) ∧ lk ρ' 3 = .pointer (some ⟨b3, 0, none⟩) ∧ lk ρ' 4 = .int .i64 (i : Int) ∧ Γ' = own 54 2 (.slice B i k) i (tmsC (liftT (l.take i))) :: row b3 [.int .u32 (p : Int), .slice B i k] 42 :: row b2 [.int .u32 0, .slice none 0 0] 42 :: row b1 [.int .u32 (p : Int), .slice A l.length c] 26 :: Γ) l.length
  · exact ⟨0, none, 0, Nat.zero_add _, Nat.le_refl _, rfl, rfl, rfl, rfl, rfl⟩
  rintro j IH ρ' _ ⟨i, B, k, hij, hk, e1, e2, e3, e4, rfl⟩
  refine TK.know4 e1 e2 e3 e4 ?_
  by_cases hi : i < l.length
  · obtain ⟨x, hx⟩ : ∃ x, l[i]? = some x := ⟨l[i], List.getElem?_eq_getElem hi⟩
    have hsn : tmsC (liftT (l.take i)) ++ tmC ⟨false, x⟩ = tmsC (liftT (l.take (i + 1))) := by
      rw [List.take_add_one, hx]
      simp [liftT, tmsC]
    refine TK.mem fun m0 hm0 => ?_
    obtain ⟨b, o, rfl⟩ := src_some (has_tls (has_tls (has_tls (has_tls hs0))) m0 hm0) (by rw [u32s_len]; omega)
    clear hm0 m0
    have hel := has_u32 hs0 hx
    refine m_run ?_
    refine TK.drawB mixed rfl 11 (row b3 [.int .u32 (p : Int), .slice B i k] 42 :: row b2 [.int .u32 0, .slice none 0 0] 42 :: row b1 [.int .u32 (p : Int), .slice (some ⟨b, o, none⟩) l.length c] 26 :: Γ) Γ ?_
    refine m_bake (At.mk : At 0) ?_; refine m_bake (At.mk : At 1) ?_; refine m_bake (At.mk : At 2) ?_; refine m_bake (At.mk : At 3) ?_; refine m_bake (At.mk : At 4) ?_; refine m_bake (At.mk : At 5) ?_; refine m_bake (At.mk : At 6) ?_
    (apply TB.takeA (At.mk : At 7); exact rfl; exact rfl; kernel_rfl; exact rfl; ((focus ((repeat (first | assumption | exact Ent.refl _ | apply Ent.tail)); done))); (apply PV.build tabs; exact rfl; exact rfl; exact rfl; exact rfl; exact rfl; exact (rfl : _ = tmC ⟨false, x⟩)))
    (apply TB.one 8; kernel_rfl; exact rfl; exact rfl)
    (apply TL.buildSlice (l := tmC ⟨false, x⟩); exact rfl; exact tb rfl; exact rfl; exact tb rfl; exact rfl; exact rfl; exact rfl; exact rfl; exact rfl)
    intro b23
    refine TL.backB (by (focus ((repeat (first | assumption | exact Ent.refl _ | apply Ent.tail)); done))) ?_
    (apply TB.one 9; kernel_rfl; exact rfl; exact rfl)
    (apply TL.append 1; exact rfl; exact rfl; exact tb rfl; exact rfl; exact tb rfl; exact rfl; exact rfl; exact rfl)
    · exact fun _ h => h
    · exact rfl
    · exact has_src_row 0 rfl rfl
    · exact one_of rfl
    · show (i + 1) * 8 ≤ _; omega
    · show i + 1 ≤ maxLen; unfold maxLen; omega
    · exact fun _ => (rfl : _ = _ :: _ :: _)
    intro B' k' hk'
    rw [hsn]
    refine TL.backB (by (focus ((repeat (first | assumption | exact Ent.refl _ | apply Ent.tail)); done))) ?_
    refine m_bake (At.mk : At 10) ?_
    (apply TB.last; kernel_rfl; exact rfl)
    refine m_rrun ?_
    refine TL.back (by (focus ((repeat (first | assumption | exact Ent.refl _ | apply Ent.tail)); done))) ?_
    refine TA.done (by kernel_rfl) ?_
    refine m_run ?_
    refine TK.sub (Δ := own 54 2 (.slice B' (i + 1) k') (i + 1) (tmsC (liftT (l.take (i + 1)))) :: row b3 [.int .u32 (p : Int), .slice B' (i + 1) k'] 42 :: row b2 [.int .u32 0, .slice none 0 0] 42 :: row b1 [.int .u32 (p : Int), .slice (some ⟨b, o, none⟩) l.length c] 26 :: Γ) (by (repeat (first | exact List.Sublist.refl _ | apply List.Sublist.cons_cons | apply List.Sublist.cons))) ?_
    exact IH (j - 1) _ _ (by omega) ⟨i + 1, B', k', by omega, hk', rfl, rfl, rfl, congrArg (Value.int .i64) (i64_succ i (by omega)), rfl⟩
  obtain rfl : i = l.length := by omega
  rw [List.take_length]
  have hml := lift_len l
  refine m_run ?_
  refine TK.imp (Δ := own 54 2 (.slice B l.length k) l.length (tmsC (liftT l)) :: row b3 [.int .u32 (p : Int), .slice B l.length k] 42 :: row b2 (Atm.cells ⟨p, B, k, liftT l⟩) 42 :: row b1 [.int .u32 (p : Int), .slice A l.length c] 26 :: Γ) (fun _ h => by unfold Atm.cells; simp only [hml]; exact h) ?_
  (apply TK.retRow (i := 2); exact rfl; exact rfl; exact rfl; exact rfl; exact tb rfl; exact rfl; (exact m_lst); exact rfl)
  · exact ⟨_, rfl, B, k, hk, rfl, rfl⟩
  · (repeat (first | exact List.Sublist.refl _ | apply List.Sublist.cons_cons | apply List.Sublist.cons))
end Go.Proofs.Ytokggdgagfmacaa.E
