/- Of, Match (with variables of small numbers), walked. -/
import Derived.Test.YtokggdgagfmacaaB7
namespace Go.Proofs.Ytokggdgagfmacaa.E
open Go Go.RowKit Go.Proofs
attribute [local irreducible] TK TL TQ TA Fn PV
theorem mkx_t (n : Nat) (Γ : List HP) : FnV Try.prog 40 [.int .u32 (n : Int)] Γ fun v Γ' => v = .agg (tmC ⟨true, n⟩).toArray ∧ Γ' = Γ := by
  refine Fn.enter Try.func40 rfl rfl rfl fun E => ?_
  refine m_run ?_
  (apply TL.alloc; exact rfl; exact tb rfl; (exact m_lst))
  intro b2
  refine m_run ?_
  (apply TL.pv; exact rfl; (apply PV.build tabs; exact rfl; exact rfl; exact rfl; exact rfl; exact rfl; exact (rfl : _ = tmC ⟨true, n⟩)))
  refine m_run ?_
  (apply TK.retRow (i := 0); exact rfl; exact rfl; exact rfl; exact rfl; exact tb rfl; exact rfl; (exact m_lst); exact rfl)
  · exact ⟨_, rfl, rfl, rfl⟩
  · (repeat (first | exact List.Sublist.refl _ | apply List.Sublist.cons_cons | apply List.Sublist.cons))
theorem mks_t (n : Nat) (Γ : List HP) : FnV Try.prog 43 [.int .u32 (n : Int)] Γ fun v Γ' => v = .agg (tmC ⟨false, n⟩).toArray ∧ Γ' = Γ := by
  refine Fn.enter Try.func43 rfl rfl rfl fun E => ?_
  refine m_run ?_
  (apply TL.alloc; exact rfl; exact tb rfl; (exact m_lst))
  intro b2
  refine m_run ?_
  (apply TL.pv; exact rfl; (apply PV.build tabs; exact rfl; exact rfl; exact rfl; exact rfl; exact rfl; exact (rfl : _ = tmC ⟨false, n⟩)))
  refine m_run ?_
  (apply TK.retRow (i := 0); exact rfl; exact rfl; exact rfl; exact rfl; exact tb rfl; exact rfl; (exact m_lst); exact rfl)
  · exact ⟨_, rfl, rfl, rfl⟩
  · (repeat (first | exact List.Sublist.refl _ | apply List.Sublist.cons_cons | apply List.Sublist.cons))
def kindT (t : Tm) (n : Nat) : Int := if t.v then 2 else if t.n = n then 1 else 0
theorem kind_t (t : Tm) (n : Nat) (Γ : List HP) : FnV Try.prog 91 [.agg (tmC t).toArray, .int .u32 (n : Int)] Γ fun v Γ' => v = .int .i64 (kindT t n) ∧ Γ' = Γ := by
  refine Fn.enter Try.func91 rfl rfl rfl fun E => ?_
  obtain ⟨v, k⟩ := t
  refine m_run ?_
  (apply TL.box; exact rfl; exact rfl; (exact m_lst))
  intro b2
  cases v with
  | true =>
    refine TL.imp (Δ := row b2 [.bool true, .int .u32 (k : Int)] 54 :: Γ) (fun _ h => h) ?_
    refine m_run ?_
    (apply TK.retS1; exact rfl; exact rfl; (exact m_val))
    · exact ⟨_, rfl, rfl, rfl⟩
    · (repeat (first | exact List.Sublist.refl _ | apply List.Sublist.cons_cons | apply List.Sublist.cons))
  | false =>
    refine TL.imp (Δ := row b2 [.bool false, .int .u32 (k : Int)] 54 :: Γ) (fun _ h => h) ?_
    by_cases h : k = n
    · refine m_run ?_
      (apply TK.retS1; exact rfl; exact rfl; (exact m_val))
      · exact ⟨_, rfl, congrArg (Value.int .i64) (by simp [kindT, h]), rfl⟩
      · (repeat (first | exact List.Sublist.refl _ | apply List.Sublist.cons_cons | apply List.Sublist.cons))
    · refine m_run ?_
      (apply TK.retS1; exact rfl; exact rfl; (exact m_val))
      · exact ⟨_, rfl, congrArg (Value.int .i64) (by simp [kindT, h]), rfl⟩
      · (repeat (first | exact List.Sublist.refl _ | apply List.Sublist.cons_cons | apply List.Sublist.cons))
/-! ### Of -/
set_option maxRecDepth 100000 in
set_option maxHeartbeats 1000000 in
theorem of_t (a : Atm) (Γ : List HP) (h : a.ok Γ) (hn : a.l.length ≤ 1000000) :
    FnV Try.prog 52 [.agg a.cells.toArray] Γ fun v Γ' => (groundA a.l = true ∧ ∃ B k, a.l.length ≤ k ∧ v = .tuple #[.agg (Fct.cells ⟨a.p, B, k, a.l.map (·.n)⟩).toArray, .bool true] ∧ Γ' = own 23 1 (.slice B a.l.length k) a.l.length (u32s (a.l.map (·.n))) :: Γ)
      ∨ (groundA a.l = false ∧ v = .tuple #[.agg (Fct.cells ⟨0, none, 0, []⟩).toArray, .bool false] ∧ Γ' = Γ) := by
  refine Fn.enter Try.func52 rfl rfl rfl fun E => ?_
  obtain ⟨p, A, c, l⟩ := a
  have hs0 : has Γ (srcAt 2 A l.length (tmsC l)) := h.1
  replace hn : l.length ≤ 1000000 := hn
  refine m_run ?_
  (apply TL.box; exact rfl; exact rfl; (exact m_lst))
  intro b1
  refine TL.imp (Δ := row b1 [.int .u32 (p : Int), .slice A l.length c] 42 :: Γ) (fun _ h => h) ?_
  refine m_run ?_
  (apply TL.alloc; exact rfl; exact tb rfl; (exact m_lst))
  intro b2
  refine m_run ?_
  (apply TL.callV; exact rfl; exact callB_of (by kernel_rfl); exact rfl; exact fun _ h => h)
  exact ground_t ⟨p, A, c, l⟩ _ (Atm.ok_tl (Atm.ok_tl h)) hn
  rintro _ _ ⟨rfl, rfl⟩
  cases hg : groundA l with
  | false =>
    refine m_run ?_
    refine TK.imp (Δ := row b2 (Fct.cells ⟨0, none, 0, []⟩) 26 :: row b1 [.int .u32 (p : Int), .slice A l.length c] 42 :: Γ) (fun _ h => h) ?_
    exact TK.retSub (Δ := Γ) (fun R' hR' => TK.rets rfl rfl (.cons (.agg rfl (tb rfl) rfl rfl (has_rows (vs := Fct.cells ⟨0, none, 0, []⟩) 0 rfl rfl)) (.cons (.tmp rfl) .nil)) (hR' _ (by (repeat (first | exact List.Sublist.refl _ | apply List.Sublist.cons_cons | apply List.Sublist.cons))))) ⟨_, rfl, .inr ⟨rfl, rfl, rfl⟩⟩
  | true =>
    refine m_run ?_
    refine TK.sub (Δ := row b2 [.int .u32 (p : Int), .slice none 0 0] 26 :: Γ) (by (repeat (first | exact List.Sublist.refl _ | apply List.Sublist.cons_cons | apply List.Sublist.cons))) ?_
    refine TK.free (H := own 23 1 (.slice none 0 0) 0 []) (fun m h => own_nil _ _ h) ?_
    refine TK.perm (List.Perm.swap _ _ _) ?_
    apply TK.iter (fun j ρ' Γ' => ∃ (i : Nat) (B : Option Addr) (k : Nat), i + j = l.length ∧ i ≤ k ∧ lk ρ' 2 = .pointer (some ⟨b2, 0, none⟩) ∧ lk ρ' 14 = .slice A l.length c ∧ lk ρ' 15 = .int .i64 (l.length : Int) ∧ lk ρ' 16 = .int .i64 (i : Int) ∧ Γ' = row b2 [.int .u32 (p : Int), .slice B i k] 26 :: own 23 1 (.slice B i k) i (u32s ((l.take i).map (·.n))) :: Γ) l.length
    · exact ⟨0, none, 0, Nat.zero_add _, Nat.le_refl _, rfl, rfl, rfl, rfl, rfl⟩
    rintro j IH ρ' _ ⟨i, B, k, hij, hk, e2, e14, e15, e16, rfl⟩
    refine TK.know4 e2 e14 e15 e16 ?_
    by_cases hi : i < l.length
    · obtain ⟨x, hx⟩ : ∃ x, l[i]? = some x := ⟨l[i], List.getElem?_eq_getElem hi⟩
      have hsn : u32s ((l.take i).map (·.n)) ++ [.int .u32 (x.n : Int)] = u32s ((l.take (i + 1)).map (·.n)) := by
        rw [u32s_snoc, List.take_add_one, hx, List.map_append]; rfl
      refine TK.mem fun m0 hm0 => ?_
      obtain ⟨b, o, rfl⟩ := src_some (has_tls (has_tls hs0) m0 hm0) (by rw [tmsC_len]; omega)
      clear hm0 m0
      have hel := has_el (f := tmC) (fun _ => rfl) (by decide) hs0 hx
      refine m_run ?_
      (apply TL.alloc; exact rfl; exact tb rfl; exact (rfl : _ = [_, _]))
      intro b5
      refine m_run ?_
      (apply TL.buildSlice (l := [.int .u32 (x.n : Int)]); exact rfl; exact tb rfl; exact rfl; exact tb rfl; exact rfl; exact rfl; exact rfl; exact rfl; exact rfl)
      intro b24
      refine m_run ?_
      (apply TL.append 3; exact rfl; exact rfl; exact tb rfl; exact rfl; exact tb rfl; exact rfl; exact rfl; exact rfl)
      · exact fun _ h => h
      · exact rfl
      · exact has_src_row 0 rfl rfl
      · exact one_of rfl
      · show (i + 1) * 4 ≤ _; omega
      · show i + 1 ≤ maxLen; unfold maxLen; omega
      · exact fun _ => (rfl : _ = _ :: _ :: _ :: _ :: _)
      intro B' k' hk'
      rw [hsn]
      refine m_run ?_
      refine TK.sub (Δ := row b2 [.int .u32 (p : Int), .slice B' (i + 1) k'] 26 :: own 23 1 (.slice B' (i + 1) k') (i + 1) (u32s ((l.take (i + 1)).map (·.n))) :: Γ) (by (repeat (first | exact List.Sublist.refl _ | apply List.Sublist.cons_cons | apply List.Sublist.cons))) ?_
      exact IH (j - 1) _ _ (by omega) ⟨i + 1, B', k', by omega, hk', rfl, rfl, rfl, congrArg (Value.int .i64) (i64_succ i (by omega)), rfl⟩
    obtain rfl : i = l.length := by omega
    rw [List.take_length]
    have hml : (l.map (·.n)).length = l.length := List.length_map ..
    refine m_run ?_
    refine TK.imp (Δ := row b2 (Fct.cells ⟨p, B, k, l.map (·.n)⟩) 26 :: own 23 1 (.slice B l.length k) l.length (u32s (l.map (·.n))) :: Γ) (fun _ h => by unfold Fct.cells; simp only [hml]; exact h) ?_
    exact TK.retSub (Δ := own 23 1 (.slice B l.length k) l.length (u32s (l.map (·.n))) :: Γ) (fun R' hR' => TK.rets rfl rfl (.cons (.agg rfl (tb rfl) rfl rfl (has_rows (vs := Fct.cells ⟨p, B, k, l.map (·.n)⟩) 0 rfl rfl)) (.cons (.tmp rfl) .nil)) (hR' _ (by (repeat (first | exact List.Sublist.refl _ | apply List.Sublist.cons_cons | apply List.Sublist.cons))))) ⟨_, rfl, .inl ⟨rfl, B, k, hk, rfl, rfl⟩⟩
end Go.Proofs.Ytokggdgagfmacaa.E
