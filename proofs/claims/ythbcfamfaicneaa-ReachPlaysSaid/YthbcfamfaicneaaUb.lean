/- Vars of any atom, walked. -/
import Derived.Test.YthbcfamfaicneaaUa
import Derived.Test.YthbcfamfaicneaaTwB
namespace Go.Proofs.Ythbcfamfaicneaa.E
open Go Go.RowKit Go.Proofs
attribute [local irreducible] TK TL TQ TA Fn PV
set_option maxRecDepth 100000 in
set_option maxHeartbeats 2000000 in
theorem varsG_t (a : Atm) (Γ : List HP) (h : a.ok Γ) (hn : a.l.length ≤ 1000000) :
    FnV Try.prog 65 [.agg a.cells.toArray] Γ fun v Γ' => ∃ (D : List Nat) (B : Option Addr) (k : Nat), D.Perm (varsOf a.l) ∧ D.Pairwise (· ≤ ·) ∧ (compL D).length ≤ k ∧ v = .slice B (compL D).length k ∧ Γ' = own 31 1 (.slice B (compL D).length k) (compL D).length (u32s (compL D)) :: Γ := by
  refine Fn.enter Try.func65 rfl rfl rfl fun E => ?_
  obtain ⟨p, A, c, l⟩ := a
  have hs0 : has Γ (srcAt 2 A l.length (tmsC l)) := h.1
  replace hn : l.length ≤ 1000000 := hn
  have hv := varsOf_len l
  refine m_run ?_
  (apply TL.box; exact rfl; exact rfl; (exact m_lst))
  intro b1
  refine TL.imp (Δ := row b1 [.int .u32 (p : Int), .slice A l.length c] 41 :: Γ) (fun _ h => h) ?_
  refine m_run ?_
  refine TK.sub (Δ := Γ) (by (repeat (first | exact List.Sublist.refl _ | apply List.Sublist.cons_cons | apply List.Sublist.cons))) ?_
  refine TK.free (H := own 31 1 (.slice none 0 0) 0 []) (fun m h => own_nil _ _ h) ?_
  apply TK.iter (fun j ρ' Γ' => ∃ (i : Nat) (B : Option Addr) (k : Nat), i + j = l.length ∧ (varsOf (l.take i)).length ≤ k ∧ lk ρ' 7 = .slice A l.length c ∧ lk ρ' 8 = .int .i64 (l.length : Int) ∧ lk ρ' 9 = .int .i64 (i : Int) ∧ lk ρ' 3 = .slice B (varsOf (l.take i)).length k ∧ Γ' = own 31 1 (.slice B (varsOf (l.take i)).length k) (varsOf (l.take i)).length (u32s (varsOf (l.take i))) :: Γ) l.length
  · exact ⟨0, none, 0, Nat.zero_add _, Nat.le_refl _, rfl, rfl, rfl, rfl, rfl⟩
  rintro j IH ρ' _ ⟨i, B, k, hij, hk, e7, e8, e9, e3, rfl⟩
  refine TK.know4 e7 e8 e9 e3 ?_
  have hvi := varsOf_len (l.take i)
  rw [List.length_take] at hvi
  by_cases hi : i < l.length
  · obtain ⟨x, hx⟩ : ∃ x, l[i]? = some x := ⟨l[i], List.getElem?_eq_getElem hi⟩
    have hsn := varsOf_snoc (l.take i) x
    rw [show l.take i ++ [x] = l.take (i + 1) by rw [List.take_add_one, hx]; rfl] at hsn
    refine TK.mem fun m0 hm0 => ?_
    obtain ⟨b, o, rfl⟩ := src_some (has_tls hs0 m0 hm0) (by rw [tmsC_len]; omega)
    clear hm0 m0
    have hel := has_el (f := tmC) (fun _ => rfl) (by decide) hs0 hx
    refine m_run ?_
    (apply TL.alloc; exact rfl; exact tb rfl; exact (rfl : _ = [_, _]))
    intro b5
    cases hxv : x.v with
    | false =>
      rw [hxv] at hsn
      refine m_run ?_
      refine TK.know (t := 14) (v := .bool false) (congrArg Value.bool hxv) ?_
      refine m_run ?_
      refine TK.sub (Δ := own 31 1 (.slice B (varsOf (l.take i)).length k) (varsOf (l.take i)).length (u32s (varsOf (l.take i))) :: Γ) (by (repeat (first | exact List.Sublist.refl _ | apply List.Sublist.cons_cons | apply List.Sublist.cons))) ?_
      exact IH (j - 1) _ _ (by omega) ⟨i + 1, B, k, by omega, by rw [hsn]; exact hk, rfl, rfl, congrArg (Value.int .i64) (i64_succ i (by omega)), by rw [hsn]; rfl, by rw [hsn]; rfl⟩
    | true =>
      rw [hxv] at hsn
      refine m_run ?_
      (apply TL.buildSlice (l := [.int .u32 (x.n : Int)]); exact rfl; exact tb rfl; exact rfl; exact tb rfl; exact rfl; exact rfl; exact rfl; exact rfl; exact rfl)
      intro b18
      refine m_run ?_
      (apply TL.append 2; exact rfl; exact rfl; exact tb rfl; exact rfl; exact tb rfl; exact rfl; exact rfl; exact rfl)
      · exact fun _ h => h
      · exact rfl
      · exact has_src_row 0 rfl rfl
      · exact one_of rfl
      · show ((varsOf (l.take i)).length + 1) * 4 ≤ _; omega
      · show (varsOf (l.take i)).length + 1 ≤ maxLen; unfold maxLen; omega
      · exact fun _ => (rfl : _ = _ :: _ :: _ :: _)
      intro B' k' hk'
      rw [u32s_snoc]
      have hle : (varsOf (l.take i) ++ [x.n]).length = (varsOf (l.take i)).length + 1 := by simp
      refine m_run ?_
      refine TK.sub (Δ := own 31 1 (.slice B' ((varsOf (l.take i)).length + 1) k') ((varsOf (l.take i)).length + 1) (u32s (varsOf (l.take i) ++ [x.n])) :: Γ) (by (repeat (first | exact List.Sublist.refl _ | apply List.Sublist.cons_cons | apply List.Sublist.cons))) ?_
      exact IH (j - 1) _ _ (by omega) ⟨i + 1, B', k', by omega, by rw [hsn, if_pos rfl, hle]; exact hk', rfl, rfl, congrArg (Value.int .i64) (i64_succ i (by omega)), by rw [hsn, if_pos rfl, hle]; rfl, by rw [hsn, if_pos rfl, hle]⟩
  obtain rfl : i = l.length := by omega
  rw [List.take_length] at hk ⊢
  generalize varsOf l = V at *
  clear IH
  refine m_run ?_
  (apply TL.callV; exact rfl; exact callB_of (by kernel_rfl); exact rfl; exact fun _ h => h)
  exact SU.sortN_t B k V Γ (by omega)
  rintro _ _ ⟨rfl, D, hp, hs, rfl⟩
  have hDl : D.length = V.length := hp.length_eq
  refine m_run ?_
  rw [← hDl]
  (apply TL.callV; exact rfl; exact callB_of (by kernel_rfl); exact rfl; exact fun _ h => h)
  exact compact_t B k D Γ (by omega)
  rintro _ _ ⟨rfl, rfl⟩
  have hcl := compL_len D
  refine m_run ?_
  (apply TK.ret1; exact rfl; exact rfl; (exact m_val))
  exact ⟨_, rfl, D, B, k, hp, hs, by omega, rfl, rfl⟩
end Go.Proofs.Ythbcfamfaicneaa.E
