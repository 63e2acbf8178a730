/- The document's bytes; small things of the laws: walked. -/
import Derived.Test.YtokggdgagfmacaaXc
namespace Go.Proofs.Ytokggdgagfmacaa.E
open Go Go.RowKit Go.Proofs
section
/- The document's bytes of terms, atoms, facts: walked. -/
attribute [local irreducible] TK TL TQ TA TB Fn PV
set_option maxRecDepth 100000 in
theorem rbit_t (x : Bool) (Γ : List HP) : FnV Try.prog 74 [.bool x] Γ fun v Γ' => v = .int .u8 ((b8 (bitN x)).toNat : Int) ∧ Γ' = Γ := by
  refine Fn.enter Try.func74 rfl rfl rfl fun E => ?_
  cases x <;> (refine m_run ?_; (apply TK.ret1; exact rfl; exact rfl; (exact m_val)); exact ⟨_, rfl, rfl, rfl⟩)
set_option maxRecDepth 100000 in
theorem rterm_t (t : Tm) (Γ : List HP) (ht : t.n ≤ 4294967295) : FnV Try.prog 113 [.agg (tmC t).toArray] Γ (RB 5 Γ (termB t)) := by
  refine Fn.enter Try.func113 rfl rfl rfl fun E => ?_
  obtain ⟨x, n⟩ := t
  replace ht : n ≤ 4294967295 := ht
  refine m_run ?_
  (apply TL.box; exact rfl; exact rfl; (exact m_lst))
  intro b1
  refine TL.imp (Δ := row b1 [.bool x, .int .u32 (n : Int)] 54 :: Γ) (fun _ h => h) ?_
  refine m_run ?_
  refine TK.drawS mixed rfl ?_
  refine m_take (At.mk : At 0) ?_; refine m_take (At.mk : At 1) ?_; refine m_take (At.mk : At 2) ?_
  refine TA.know (t := 5) (v := .int .u64 (n : Int)) (congrArg (Value.int .u64) (u64_nat (by omega))) ?_
  refine m_take (At.mk : At 3) ?_
  refine TA.know (t := 6) (v := .int .u64 ((2 * n : Nat) : Int)) (congrArg (Value.int .u64) (by rw [show (2 : Int) * (n : Int) = ((2 * n : Nat) : Int) by omega, u64_nat (by omega)])) ?_
  refine m_take (At.mk : At 4) ?_; refine m_take (At.mk : At 5) ?_
  (apply TA.one 6; kernel_rfl; exact rfl)
  (apply TL.callV; exact rfl; exact callB_of (by kernel_rfl); exact rfl; exact fun _ h => h)
  exact rbit_t x _
  rintro _ _ ⟨rfl, rfl⟩
  refine TL.back (by (focus ((repeat (first | assumption | exact Ent.refl _ | apply Ent.tail)); done))) ?_
  have hb8 : (b8 (bitN x)).toNat = bitN x := by cases x <;> rfl
  refine m_take (At.mk : At 7) ?_
  refine TA.know (t := 10) (v := .int .u64 ((bitN x : Nat) : Int)) (congrArg (Value.int .u64) (by have := bitN_le x; rw [hb8, u64_nat (by omega)])) ?_
  refine m_take (At.mk : At 8) ?_
  refine TA.know (t := 11) (v := .int .u64 ((2 * n + bitN x : Nat) : Int)) (congrArg (Value.int .u64) (by have := bitN_le x; rw [← Int.natCast_add, u64_nat (by omega)])) ?_
  (apply TA.one 9; kernel_rfl; exact rfl)
  (apply TL.callV; exact rfl; exact callB_of (by kernel_rfl); exact rfl; exact fun _ h => h)
  exact var_t (2 * n + bitN x) _ (by have := bitN_le x; omega)
  rintro _ _ ⟨A2, c2, rfl, hc2, rfl⟩
  refine TL.back (by (focus ((repeat (first | assumption | exact Ent.refl _ | apply Ent.tail)); done))) ?_
  refine m_take (At.mk : At 10) ?_
  refine TA.done (by kernel_rfl) ?_
  refine m_run ?_
  (apply TK.retS1; exact rfl; exact rfl; (exact m_val))
  · exact ⟨_, rfl, A2, c2, rfl, hc2, rfl⟩
  · (repeat (first | exact List.Sublist.refl _ | apply List.Sublist.cons_cons | apply List.Sublist.cons))
set_option maxRecDepth 100000 in
set_option maxHeartbeats 2000000 in
theorem ratom_t (a : Atm) (Γ : List HP) (h : a.ok Γ) (hf : a.fit) (hn : a.l.length ≤ 1000) : FnV Try.prog 73 [.agg a.cells.toArray] Γ (RB 5 Γ (atmB a)) := by
  refine Fn.enter Try.func73 rfl rfl rfl fun E => ?_
  obtain ⟨p, A0, c0, ts⟩ := a
  have hs0 : has Γ (srcAt 2 A0 ts.length (tmsC ts)) := h.1
  have hp : p ≤ 4294967295 := hf.1
  have hts : ∀ t ∈ ts, t.n ≤ 4294967295 := hf.2
  replace hn : ts.length ≤ 1000 := hn
  have hpl := u32_len hp
  refine m_run ?_
  (apply TL.box; exact rfl; exact rfl; (exact m_lst))
  intro b1
  refine TL.imp (Δ := row b1 [.int .u32 (p : Int), .slice A0 ts.length c0] 42 :: Γ) (fun _ h => h) ?_
  refine m_run ?_
  refine TK.drawE mixed rfl (row b1 [.int .u32 (p : Int), .slice A0 ts.length c0] 42 :: Γ) ?_
  refine m_take (At.mk : At 0) ?_; refine m_take (At.mk : At 1) ?_; refine m_take (At.mk : At 2) ?_
  refine TA.know (t := 7) (v := .int .u64 (p : Int)) (congrArg (Value.int .u64) (u64_nat (by omega))) ?_
  refine m_take (At.mk : At 4) ?_; refine m_take (At.mk : At 5) ?_; refine m_take (At.mk : At 6) ?_; refine m_take (At.mk : At 7) ?_
  refine TA.know (t := 12) (v := .int .u8 ((b8 ts.length).toNat : Int)) (congrArg (Value.int .u8) (u8_wrap ts.length)) ?_
  refine TA.twoJ 3 8 (fun ρ' Γ' => ∃ (b13 : Nat) (A2 : Option Addr) (c2 : Nat), (varM p).length ≤ c2 ∧ lk ρ' 1 = .pointer (some ⟨b1, 0, none⟩) ∧ lk ρ' 8 = .slice A2 (varM p).length c2 ∧ lk ρ' 13 = .slice (some ⟨b13, 0, none⟩) 1 1 ∧ Γ' = row b13 (bytesV [b8 ts.length]) 5 :: bsA 5 (.slice A2 (varM p).length c2) (varM p) :: row b1 [.int .u32 (p : Int), .slice A0 ts.length c0] 42 :: Γ) (by kernel_rfl) rfl rfl rfl ?_ ?_ ?_
  · intro tail
    (apply TL.callV; exact rfl; exact callB_of (by kernel_rfl); exact rfl; exact fun _ h => h)
    exact var_t p _ (by omega)
    rintro _ _ ⟨A2, c2, rfl, hc2, rfl⟩
    refine TL.back (by (focus ((repeat (first | assumption | exact Ent.refl _ | apply Ent.tail)); done))) ?_
    (apply TA.one 8; kernel_rfl; exact rfl)
    (apply TL.buildSlice (l := bytesV [b8 ts.length]); exact rfl; exact tb rfl; exact rfl; exact tb rfl; exact rfl; exact rfl; exact rfl; exact rfl; exact rfl)
    intro b13
    refine TL.back (by (focus ((repeat (first | assumption | exact Ent.refl _ | apply Ent.tail)); done))) ?_
    exact tail _ _ ⟨b13, A2, c2, hc2, rfl, rfl, rfl, rfl⟩
  · intro tail
    (apply TL.buildSlice (l := bytesV [b8 ts.length]); exact rfl; exact tb rfl; exact rfl; exact tb rfl; exact rfl; exact rfl; exact rfl; exact rfl; exact rfl)
    intro b13
    refine TL.back (by (focus ((repeat (first | assumption | exact Ent.refl _ | apply Ent.tail)); done))) ?_
    (apply TA.one 3; kernel_rfl; exact rfl)
    (apply TL.callV; exact rfl; exact callB_of (by kernel_rfl); exact rfl; exact fun _ h => h)
    exact var_t p _ (by omega)
    rintro _ _ ⟨A2, c2, rfl, hc2, rfl⟩
    refine TL.perm (List.Perm.swap _ _ _) ?_
    refine TL.back (by (focus ((repeat (first | assumption | exact Ent.refl _ | apply Ent.tail)); done))) ?_
    exact tail _ _ ⟨b13, A2, c2, hc2, rfl, rfl, rfl, rfl⟩
  rintro ρ3 _ ⟨b13, A2, c2, hc2, g1, gc, gl, rfl⟩
  refine TA.know g1 (TA.know (t := 8) (v := .slice A2 (varM p).length c2) gc (TA.know (t := 13) (v := .slice (some ⟨b13, 0, none⟩) 1 1) gl ?_))
  (apply TA.one 9; kernel_rfl; exact rfl)
  (apply TL.appB (s := [ b8 ts.length]) 1; exact rfl; exact rfl; exact tb rfl; exact rfl; exact tb rfl; exact rfl; exact rfl; exact rfl; exact rfl; exact fun _ h => h; exact rfl; exact has_src_row 0 rfl rfl)
  · simp only [List.length_append, List.length_singleton]; omega
  · exact fun _ => (rfl : _ = _ :: _ :: _)
  intro A3 c3 hc3
  refine TL.back (by (focus ((repeat (first | assumption | exact Ent.refl _ | apply Ent.tail)); done))) ?_
  refine m_take (At.mk : At 10) ?_
  refine TA.done (by kernel_rfl) ?_
  refine m_run ?_
  refine TK.sub (Δ := bsA 5 (.slice A3 (varM p ++ [b8 ts.length]).length c3) (varM p ++ [b8 ts.length]) :: row b1 [.int .u32 (p : Int), .slice A0 ts.length c0] 42 :: Γ) (by (repeat (first | exact List.Sublist.refl _ | apply List.Sublist.cons_cons | apply List.Sublist.cons))) ?_
  apply TK.iter (fun j ρ' Γ' => ∃ (i : Nat) (A4 : Option Addr) (c4 : Nat), i + j = ts.length ∧ (varM p ++ [b8 ts.length] ++ tmsB (ts.take i)).length ≤ c4 ∧ lk ρ' 1 = .pointer (some ⟨b1, 0, none⟩) ∧ lk ρ' 3 = .slice A4 (varM p ++ [b8 ts.length] ++ tmsB (ts.take i)).length c4 ∧ lk ρ' 4 = .int .i64 (i : Int) ∧ Γ' = bsA 5 (.slice A4 (varM p ++ [b8 ts.length] ++ tmsB (ts.take i)).length c4) (varM p ++ [b8 ts.length] ++ tmsB (ts.take i)) :: row b1 [.int .u32 (p : Int), .slice A0 ts.length c0] 42 :: Γ) ts.length
  · refine ⟨0, A3, c3, Nat.zero_add _, ?_, rfl, ?_, rfl, ?_⟩
    · rw [List.take_zero, show tmsB [] = [] from rfl, List.append_nil]; exact hc3
    · rw [List.take_zero, show tmsB [] = [] from rfl, List.append_nil]; rfl
    · rw [List.take_zero, show tmsB [] = [] from rfl, List.append_nil]
  rintro j IH ρ' _ ⟨i, A4, c4, hij, hc4, e1, e3, e4, rfl⟩
  refine TK.know3 e1 e3 e4 ?_
  by_cases hi : i < ts.length
  · obtain ⟨x, hx⟩ : ∃ x, ts[i]? = some x := ⟨ts[i], List.getElem?_eq_getElem hi⟩
    have hxm := List.mem_of_getElem? hx
    refine TK.mem fun m0 hm0 => ?_
    obtain ⟨b, o, rfl⟩ := src_some (has_tls (has_tls hs0) m0 hm0) (by rw [tmsC_len]; omega)
    clear hm0 m0
    have htk : tmsB (ts.take (i + 1)) = tmsB (ts.take i) ++ termB x := flatB_snoc hx
    have hel := has_el (f := tmC) (fun _ => rfl) (by decide) hs0 hx
    have htl : (tmsB (ts.take i)).length ≤ ts.length * 5 := flatB_take _ _ fun t ht => termB_len (hts t ht)
    have hll : (varM p ++ [b8 ts.length] ++ tmsB (ts.take i)).length ≤ 10000 := by simp only [List.length_append, List.length_singleton]; omega
    have hxl := termB_len (hts x hxm)
    generalize hL : varM p ++ [b8 ts.length] ++ tmsB (ts.take i) = L at hc4 hll ⊢
    refine m_run ?_
    (apply TL.callV; exact rfl; exact callB_of (by kernel_rfl); exact rfl; exact fun _ h => h)
    exact rterm_t x _ (hts x hxm)
    rintro _ _ ⟨A5, c5, rfl, hc5, rfl⟩
    refine m_run ?_
    (apply TL.appB 1; exact rfl; exact rfl; exact tb rfl; exact rfl; exact tb rfl; exact rfl; exact rfl; exact rfl; exact rfl; exact fun _ h => h; exact rfl; (exact m_hsrc))
    · first | omega | (simp only [List.length_append]; omega)
    · exact fun _ => (rfl : _ = _ :: _ :: _)
    intro A6 c6 hc6
    refine TL.drop ?_
    refine m_run ?_
    refine IH (j - 1) _ _ (by omega) ⟨i + 1, A6, c6, by omega, ?_, rfl, ?_, congrArg (Value.int .i64) (i64_succ i (by omega)), ?_⟩
    · rw [htk, ← List.append_assoc, hL]; exact hc6
    · rw [htk, ← List.append_assoc, hL]; rfl
    · rw [htk, ← List.append_assoc, hL]
  obtain rfl : i = ts.length := by omega
  rw [List.take_length] at hc4 ⊢
  refine m_run ?_
  (apply TK.retS1; exact rfl; exact rfl; (exact m_val))
  · exact ⟨_, rfl, A4, c4, rfl, hc4, rfl⟩
  · (repeat (first | exact List.Sublist.refl _ | apply List.Sublist.cons_cons | apply List.Sublist.cons))
set_option maxRecDepth 100000 in
set_option maxHeartbeats 2000000 in
theorem rfact_t (f : Fct) (Γ : List HP) (h : f.ok Γ) (hf : f.fit) (hn : f.l.length ≤ 1000) : FnV Try.prog 19 [.agg f.cells.toArray] Γ (RB 5 Γ (fctB f)) := by
  refine Fn.enter Try.func19 rfl rfl rfl fun E => ?_
  obtain ⟨p, A0, c0, ts⟩ := f
  have hs0 : has Γ (srcAt 1 A0 ts.length (u32s ts)) := h.1
  have hp : p ≤ 4294967295 := hf.1
  have hts : ∀ t ∈ ts, t ≤ 4294967295 := hf.2
  replace hn : ts.length ≤ 1000 := hn
  have hpl := u32_len hp
  refine m_run ?_
  (apply TL.box; exact rfl; exact rfl; (exact m_lst))
  intro b1
  refine TL.imp (Δ := row b1 [.int .u32 (p : Int), .slice A0 ts.length c0] 26 :: Γ) (fun _ h => h) ?_
  refine m_run ?_
  refine TK.drawE mixed rfl (row b1 [.int .u32 (p : Int), .slice A0 ts.length c0] 26 :: Γ) ?_
  refine m_take (At.mk : At 0) ?_; refine m_take (At.mk : At 1) ?_; refine m_take (At.mk : At 2) ?_
  refine TA.know (t := 7) (v := .int .u64 (p : Int)) (congrArg (Value.int .u64) (u64_nat (by omega))) ?_
  refine m_take (At.mk : At 4) ?_; refine m_take (At.mk : At 5) ?_; refine m_take (At.mk : At 6) ?_; refine m_take (At.mk : At 7) ?_
  refine TA.know (t := 12) (v := .int .u8 ((b8 ts.length).toNat : Int)) (congrArg (Value.int .u8) (u8_wrap ts.length)) ?_
  refine TA.twoJ 3 8 (fun ρ' Γ' => ∃ (b13 : Nat) (A2 : Option Addr) (c2 : Nat), (varM p).length ≤ c2 ∧ lk ρ' 1 = .pointer (some ⟨b1, 0, none⟩) ∧ lk ρ' 8 = .slice A2 (varM p).length c2 ∧ lk ρ' 13 = .slice (some ⟨b13, 0, none⟩) 1 1 ∧ Γ' = row b13 (bytesV [b8 ts.length]) 5 :: bsA 5 (.slice A2 (varM p).length c2) (varM p) :: row b1 [.int .u32 (p : Int), .slice A0 ts.length c0] 26 :: Γ) (by kernel_rfl) rfl rfl rfl ?_ ?_ ?_
  · intro tail
    (apply TL.callV; exact rfl; exact callB_of (by kernel_rfl); exact rfl; exact fun _ h => h)
    exact var_t p _ (by omega)
    rintro _ _ ⟨A2, c2, rfl, hc2, rfl⟩
    refine TL.back (by (focus ((repeat (first | assumption | exact Ent.refl _ | apply Ent.tail)); done))) ?_
    (apply TA.one 8; kernel_rfl; exact rfl)
    (apply TL.buildSlice (l := bytesV [b8 ts.length]); exact rfl; exact tb rfl; exact rfl; exact tb rfl; exact rfl; exact rfl; exact rfl; exact rfl; exact rfl)
    intro b13
    refine TL.back (by (focus ((repeat (first | assumption | exact Ent.refl _ | apply Ent.tail)); done))) ?_
    exact tail _ _ ⟨b13, A2, c2, hc2, rfl, rfl, rfl, rfl⟩
  · intro tail
    (apply TL.buildSlice (l := bytesV [b8 ts.length]); exact rfl; exact tb rfl; exact rfl; exact tb rfl; exact rfl; exact rfl; exact rfl; exact rfl; exact rfl)
    intro b13
    refine TL.back (by (focus ((repeat (first | assumption | exact Ent.refl _ | apply Ent.tail)); done))) ?_
    (apply TA.one 3; kernel_rfl; exact rfl)
    (apply TL.callV; exact rfl; exact callB_of (by kernel_rfl); exact rfl; exact fun _ h => h)
    exact var_t p _ (by omega)
    rintro _ _ ⟨A2, c2, rfl, hc2, rfl⟩
    refine TL.perm (List.Perm.swap _ _ _) ?_
    refine TL.back (by (focus ((repeat (first | assumption | exact Ent.refl _ | apply Ent.tail)); done))) ?_
    exact tail _ _ ⟨b13, A2, c2, hc2, rfl, rfl, rfl, rfl⟩
  rintro ρ3 _ ⟨b13, A2, c2, hc2, g1, gc, gl, rfl⟩
  refine TA.know g1 (TA.know (t := 8) (v := .slice A2 (varM p).length c2) gc (TA.know (t := 13) (v := .slice (some ⟨b13, 0, none⟩) 1 1) gl ?_))
  (apply TA.one 9; kernel_rfl; exact rfl)
  (apply TL.appB (s := [ b8 ts.length]) 1; exact rfl; exact rfl; exact tb rfl; exact rfl; exact tb rfl; exact rfl; exact rfl; exact rfl; exact rfl; exact fun _ h => h; exact rfl; exact has_src_row 0 rfl rfl)
  · simp only [List.length_append, List.length_singleton]; omega
  · exact fun _ => (rfl : _ = _ :: _ :: _)
  intro A3 c3 hc3
  refine TL.back (by (focus ((repeat (first | assumption | exact Ent.refl _ | apply Ent.tail)); done))) ?_
  refine m_take (At.mk : At 10) ?_
  refine TA.done (by kernel_rfl) ?_
  refine m_run ?_
  refine TK.sub (Δ := bsA 5 (.slice A3 (varM p ++ [b8 ts.length]).length c3) (varM p ++ [b8 ts.length]) :: row b1 [.int .u32 (p : Int), .slice A0 ts.length c0] 26 :: Γ) (by (repeat (first | exact List.Sublist.refl _ | apply List.Sublist.cons_cons | apply List.Sublist.cons))) ?_
  apply TK.iter (fun j ρ' Γ' => ∃ (i : Nat) (A4 : Option Addr) (c4 : Nat), i + j = ts.length ∧ (varM p ++ [b8 ts.length] ++ nmsB (ts.take i)).length ≤ c4 ∧ lk ρ' 1 = .pointer (some ⟨b1, 0, none⟩) ∧ lk ρ' 3 = .slice A4 (varM p ++ [b8 ts.length] ++ nmsB (ts.take i)).length c4 ∧ lk ρ' 4 = .int .i64 (i : Int) ∧ Γ' = bsA 5 (.slice A4 (varM p ++ [b8 ts.length] ++ nmsB (ts.take i)).length c4) (varM p ++ [b8 ts.length] ++ nmsB (ts.take i)) :: row b1 [.int .u32 (p : Int), .slice A0 ts.length c0] 26 :: Γ) ts.length
  · refine ⟨0, A3, c3, Nat.zero_add _, ?_, rfl, ?_, rfl, ?_⟩
    · rw [List.take_zero, show nmsB [] = [] from rfl, List.append_nil]; exact hc3
    · rw [List.take_zero, show nmsB [] = [] from rfl, List.append_nil]; rfl
    · rw [List.take_zero, show nmsB [] = [] from rfl, List.append_nil]
  rintro j IH ρ' _ ⟨i, A4, c4, hij, hc4, e1, e3, e4, rfl⟩
  refine TK.know3 e1 e3 e4 ?_
  by_cases hi : i < ts.length
  · obtain ⟨x, hx⟩ : ∃ x, ts[i]? = some x := ⟨ts[i], List.getElem?_eq_getElem hi⟩
    have hxm := List.mem_of_getElem? hx
    refine TK.mem fun m0 hm0 => ?_
    obtain ⟨b, o, rfl⟩ := src_some (has_tls (has_tls hs0) m0 hm0) (by rw [u32s_len]; omega)
    clear hm0 m0
    have htk : nmsB (ts.take (i + 1)) = nmsB (ts.take i) ++ varM x := flatB_snoc hx
    have hel := has_u32 hs0 hx
    have htl : (nmsB (ts.take i)).length ≤ ts.length * 5 := flatB_take _ _ fun t ht => u32_len (hts t ht)
    have hll : (varM p ++ [b8 ts.length] ++ nmsB (ts.take i)).length ≤ 10000 := by simp only [List.length_append, List.length_singleton]; omega
    have hx5 := hts x hxm
    have hxl := u32_len hx5
    generalize hL : varM p ++ [b8 ts.length] ++ nmsB (ts.take i) = L at hc4 hll ⊢
    refine m_run ?_
    refine TL.know (t := 28) (v := .int .u64 (x : Int)) (congrArg (Value.int .u64) (u64_nat (by omega))) ?_
    (apply TL.callV; exact rfl; exact callB_of (by kernel_rfl); exact rfl; exact fun _ h => h)
    exact var_t x _ (by omega)
    rintro _ _ ⟨A5, c5, rfl, hc5, rfl⟩
    refine m_run ?_
    (apply TL.appB 1; exact rfl; exact rfl; exact tb rfl; exact rfl; exact tb rfl; exact rfl; exact rfl; exact rfl; exact rfl; exact fun _ h => h; exact rfl; (exact m_hsrc))
    · first | omega | (simp only [List.length_append]; omega)
    · exact fun _ => (rfl : _ = _ :: _ :: _)
    intro A6 c6 hc6
    refine TL.drop ?_
    refine m_run ?_
    refine IH (j - 1) _ _ (by omega) ⟨i + 1, A6, c6, by omega, ?_, rfl, ?_, congrArg (Value.int .i64) (i64_succ i (by omega)), ?_⟩
    · rw [htk, ← List.append_assoc, hL]; exact hc6
    · rw [htk, ← List.append_assoc, hL]; rfl
    · rw [htk, ← List.append_assoc, hL]
  obtain rfl : i = ts.length := by omega
  rw [List.take_length] at hc4 ⊢
  refine m_run ?_
  (apply TK.retS1; exact rfl; exact rfl; (exact m_val))
  · exact ⟨_, rfl, A4, c4, rfl, hc4, rfl⟩
  · (repeat (first | exact List.Sublist.refl _ | apply List.Sublist.cons_cons | apply List.Sublist.cons))
end
section
/- The document's bytes of says, clauses, rules: walked. -/
attribute [local irreducible] TK TL TQ TA TB Fn PV
set_option maxRecDepth 100000 in
theorem rsay_t (y : Sy) (Γ : List HP) (h : y.a.ok Γ) (hf : y.fit) (hn : y.a.l.length ≤ 1000) : FnV Try.prog 86 [.agg y.cells.toArray] Γ (RB 5 Γ (sayB y)) := by
  refine Fn.enter Try.func86 rfl rfl rfl fun E => ?_
  obtain ⟨s, ⟨wv, wn⟩, a⟩ := y
  have hw : wn ≤ 4294967295 := hf.1
  have hwl : (termB ⟨wv, wn⟩).length ≤ 5 := termB_len hw
  replace hn : a.l.length ≤ 1000 := hn
  have hal : (atmB a).length ≤ 6 + a.l.length * 5 := atmB_len hf.2
  refine m_run ?_
  (apply TL.box; exact rfl; exact rfl; (exact m_lst))
  intro b1
  refine TL.imp (Δ := row b1 [.bool s, .bool wv, .int .u32 (wn : Int), .int .u32 (a.p : Int), .slice a.A a.l.length a.c] 56 :: Γ) (fun _ h => h) ?_
  refine m_run ?_
  (apply TL.callV; exact rfl; exact callB_of (by kernel_rfl); exact rfl; exact fun _ h => h)
  exact rbit_t s _
  rintro _ _ ⟨rfl, rfl⟩
  (apply TL.buildSlice (l := bytesV [b8 (bitN s)]); exact rfl; exact tb rfl; exact rfl; exact tb rfl; exact rfl; exact rfl; exact rfl; exact rfl; exact rfl)
  intro b7
  refine TL.imp (Δ := bsA 5 (.slice (some ⟨b7, 0, none⟩) [b8 (bitN s)].length 1) [b8 (bitN s)] :: row b1 [.bool s, .bool wv, .int .u32 (wn : Int), .int .u32 (a.p : Int), .slice a.A a.l.length a.c] 56 :: Γ) (fun m hm => sep_mono hm (fun _ h => bs_row rfl rfl (by simp [maxLen]) h) fun _ h => h) ?_
  cases s with
  | true =>
    refine m_run ?_
    (apply TL.callV; exact rfl; exact callB_of (by kernel_rfl); exact rfl; exact fun _ h => h)
    exact rterm_t ⟨wv, wn⟩ _ hw
    rintro _ _ ⟨A2, c2, rfl, hc2, rfl⟩
    refine m_run ?_
    (apply TL.appB 1; exact rfl; exact rfl; exact tb rfl; exact rfl; exact tb rfl; exact rfl; exact rfl; exact rfl; exact rfl; exact fun _ h => h; exact rfl; (exact m_hsrc))
    · simp only [List.length_append, List.length_singleton]; omega
    · exact fun _ => (rfl : _ = _ :: _ :: _)
    intro A3 c3 hc3
    refine TL.drop ?_
    refine m_run ?_
    (apply TL.callV; exact rfl; exact callB_of (by kernel_rfl); exact rfl; exact fun _ h => h)
    exact ratom_t a _ (Atm.ok_tl (Atm.ok_tl h)) hf.2 hn
    rintro _ _ ⟨A4, c4, rfl, hc4, rfl⟩
    refine m_run ?_
    (apply TL.appB 1; exact rfl; exact rfl; exact tb rfl; exact rfl; exact tb rfl; exact rfl; exact rfl; exact rfl; exact rfl; exact fun _ h => h; exact rfl; (exact m_hsrc))
    · simp only [List.length_append, List.length_singleton]; omega
    · exact fun _ => (rfl : _ = _ :: _ :: _)
    intro A5 c5 hc5
    refine TL.drop ?_
    refine m_run ?_
    (apply TK.retS1; exact rfl; exact rfl; (exact m_val))
    · exact ⟨_, rfl, A5, c5, rfl, hc5, rfl⟩
    · (repeat (first | exact List.Sublist.refl _ | apply List.Sublist.cons_cons | apply List.Sublist.cons))
  | false =>
    refine m_run ?_
    (apply TL.callV; exact rfl; exact callB_of (by kernel_rfl); exact rfl; exact fun _ h => h)
    exact ratom_t a _ (Atm.ok_tl (Atm.ok_tl h)) hf.2 hn
    rintro _ _ ⟨A4, c4, rfl, hc4, rfl⟩
    refine m_run ?_
    (apply TL.appB 1; exact rfl; exact rfl; exact tb rfl; exact rfl; exact tb rfl; exact rfl; exact rfl; exact rfl; exact rfl; exact fun _ h => h; exact rfl; (exact m_hsrc))
    · simp only [List.length_append, List.length_singleton]; omega
    · exact fun _ => (rfl : _ = _ :: _ :: _)
    intro A5 c5 hc5
    refine TL.drop ?_
    refine m_run ?_
    (apply TK.retS1; exact rfl; exact rfl; (exact m_val))
    · exact ⟨_, rfl, A5, c5, rfl, hc5, rfl⟩
    · (repeat (first | exact List.Sublist.refl _ | apply List.Sublist.cons_cons | apply List.Sublist.cons))
set_option maxRecDepth 100000 in
set_option maxHeartbeats 2000000 in
theorem rclause_t (r : Cl) (Γ : List HP) (h : r.ok Γ) (hf : r.fit) (hn : r.l.length ≤ 1000 ∧ r.h.l.length ≤ 1000 ∧ ∀ x ∈ r.l, x.a.l.length ≤ 1000) : FnV Try.prog 26 [.agg r.cells.toArray] Γ (RB 5 Γ (clB r)) := by
  refine Fn.enter Try.func26 rfl rfl rfl fun E => ?_
  obtain ⟨⟨hp, hA, hc, hl0⟩, A0, c0, ts⟩ := r
  have hs0 : has Γ (srcAt 3 A0 ts.length (ltsC ts)) := h.2.1
  have hes : ∀ x ∈ ts, x.a.ok Γ := h.2.2.2
  have hts : ∀ x ∈ ts, x.a.fit := hf.2
  obtain ⟨hn1, hn2, hn3⟩ := hn
  replace hn1 : ts.length ≤ 1000 := hn1
  replace hn3 : ∀ x ∈ ts, x.a.l.length ≤ 1000 := hn3
  have hhl : (atmB ⟨hp, hA, hc, hl0⟩).length ≤ 6000 := Nat.le_trans (atmB_len hf.1) (by have : hl0.length ≤ 1000 := hn2; show _ + hl0.length * 5 ≤ 6000; omega)
  refine m_run ?_
  (apply TL.box; exact rfl; exact rfl; (exact m_lst))
  intro b1
  refine TL.imp (Δ := row b1 [.int .u32 (hp : Int), .slice hA hl0.length hc, .slice A0 ts.length c0] 45 :: Γ) (fun _ h => h) ?_
  refine m_run ?_
  refine TK.drawE mixed rfl (row b1 [.int .u32 (hp : Int), .slice hA hl0.length hc, .slice A0 ts.length c0] 45 :: Γ) ?_
  refine m_take (At.mk : At 0) ?_; refine m_take (At.mk : At 1) ?_; refine m_take (At.mk : At 3) ?_; refine m_take (At.mk : At 4) ?_; refine m_take (At.mk : At 5) ?_; refine m_take (At.mk : At 6) ?_
  refine TA.know (t := 11) (v := .int .u8 ((b8 ts.length).toNat : Int)) (congrArg (Value.int .u8) (u8_wrap ts.length)) ?_
  refine TA.twoJ 2 7 (fun ρ' Γ' => ∃ (b13 : Nat) (A2 : Option Addr) (c2 : Nat), (atmB ⟨hp, hA, hc, hl0⟩).length ≤ c2 ∧ lk ρ' 1 = .pointer (some ⟨b1, 0, none⟩) ∧ lk ρ' 7 = .slice A2 (atmB ⟨hp, hA, hc, hl0⟩).length c2 ∧ lk ρ' 12 = .slice (some ⟨b13, 0, none⟩) 1 1 ∧ Γ' = row b13 (bytesV [b8 ts.length]) 5 :: bsA 5 (.slice A2 (atmB ⟨hp, hA, hc, hl0⟩).length c2) (atmB ⟨hp, hA, hc, hl0⟩) :: row b1 [.int .u32 (hp : Int), .slice hA hl0.length hc, .slice A0 ts.length c0] 45 :: Γ) (by kernel_rfl) rfl rfl rfl ?_ ?_ ?_
  · intro tail
    (apply TL.callV; exact rfl; exact callB_of (by kernel_rfl); exact rfl; exact fun _ h => h)
    exact ratom_t ⟨hp, hA, hc, hl0⟩ _ (Atm.ok_tl h.1) hf.1 hn2
    rintro _ _ ⟨A2, c2, rfl, hc2, rfl⟩
    refine TL.back (by (focus ((repeat (first | assumption | exact Ent.refl _ | apply Ent.tail)); done))) ?_
    (apply TA.one 7; kernel_rfl; exact rfl)
    (apply TL.buildSlice (l := bytesV [b8 ts.length]); exact rfl; exact tb rfl; exact rfl; exact tb rfl; exact rfl; exact rfl; exact rfl; exact rfl; exact rfl)
    intro b13
    refine TL.back (by (focus ((repeat (first | assumption | exact Ent.refl _ | apply Ent.tail)); done))) ?_
    exact tail _ _ ⟨b13, A2, c2, hc2, rfl, rfl, rfl, rfl⟩
  · intro tail
    (apply TL.buildSlice (l := bytesV [b8 ts.length]); exact rfl; exact tb rfl; exact rfl; exact tb rfl; exact rfl; exact rfl; exact rfl; exact rfl; exact rfl)
    intro b13
    refine TL.back (by (focus ((repeat (first | assumption | exact Ent.refl _ | apply Ent.tail)); done))) ?_
    (apply TA.one 2; kernel_rfl; exact rfl)
    (apply TL.callV; exact rfl; exact callB_of (by kernel_rfl); exact rfl; exact fun _ h => h)
    exact ratom_t ⟨hp, hA, hc, hl0⟩ _ (Atm.ok_tl (Atm.ok_tl h.1)) hf.1 hn2
    rintro _ _ ⟨A2, c2, rfl, hc2, rfl⟩
    refine TL.perm (List.Perm.swap _ _ _) ?_
    refine TL.back (by (focus ((repeat (first | assumption | exact Ent.refl _ | apply Ent.tail)); done))) ?_
    exact tail _ _ ⟨b13, A2, c2, hc2, rfl, rfl, rfl, rfl⟩
  rintro ρ3 _ ⟨b13, A2, c2, hc2, g1, gc, gl, rfl⟩
  refine TA.know g1 (TA.know (t := 7) (v := .slice A2 (atmB ⟨hp, hA, hc, hl0⟩).length c2) gc (TA.know (t := 12) (v := .slice (some ⟨b13, 0, none⟩) 1 1) gl ?_))
  (apply TA.one 8; kernel_rfl; exact rfl)
  (apply TL.appB (s := [ b8 ts.length]) 1; exact rfl; exact rfl; exact tb rfl; exact rfl; exact tb rfl; exact rfl; exact rfl; exact rfl; exact rfl; exact fun _ h => h; exact rfl; exact has_src_row 0 rfl rfl)
  · simp only [List.length_append, List.length_singleton]; omega
  · exact fun _ => (rfl : _ = _ :: _ :: _)
  intro A3 c3 hc3
  refine TL.back (by (focus ((repeat (first | assumption | exact Ent.refl _ | apply Ent.tail)); done))) ?_
  refine m_take (At.mk : At 9) ?_
  refine TA.done (by kernel_rfl) ?_
  refine m_run ?_
  refine TK.sub (Δ := bsA 5 (.slice A3 (atmB ⟨hp, hA, hc, hl0⟩ ++ [b8 ts.length]).length c3) (atmB ⟨hp, hA, hc, hl0⟩ ++ [b8 ts.length]) :: row b1 [.int .u32 (hp : Int), .slice hA hl0.length hc, .slice A0 ts.length c0] 45 :: Γ) (by (repeat (first | exact List.Sublist.refl _ | apply List.Sublist.cons_cons | apply List.Sublist.cons))) ?_
  apply TK.iter (fun j ρ' Γ' => ∃ (i : Nat) (A4 : Option Addr) (c4 : Nat), i + j = ts.length ∧ (atmB ⟨hp, hA, hc, hl0⟩ ++ [b8 ts.length] ++ litsB (ts.take i)).length ≤ c4 ∧ lk ρ' 1 = .pointer (some ⟨b1, 0, none⟩) ∧ lk ρ' 3 = .slice A4 (atmB ⟨hp, hA, hc, hl0⟩ ++ [b8 ts.length] ++ litsB (ts.take i)).length c4 ∧ lk ρ' 4 = .int .i64 (i : Int) ∧ Γ' = bsA 5 (.slice A4 (atmB ⟨hp, hA, hc, hl0⟩ ++ [b8 ts.length] ++ litsB (ts.take i)).length c4) (atmB ⟨hp, hA, hc, hl0⟩ ++ [b8 ts.length] ++ litsB (ts.take i)) :: row b1 [.int .u32 (hp : Int), .slice hA hl0.length hc, .slice A0 ts.length c0] 45 :: Γ) ts.length
  · refine ⟨0, A3, c3, Nat.zero_add _, ?_, rfl, ?_, rfl, ?_⟩
    · rw [List.take_zero, show litsB [] = [] from rfl, List.append_nil]; exact hc3
    · rw [List.take_zero, show litsB [] = [] from rfl, List.append_nil]; rfl
    · rw [List.take_zero, show litsB [] = [] from rfl, List.append_nil]
  rintro j IH ρ' _ ⟨i, A4, c4, hij, hc4, e1, e3, e4, rfl⟩
  refine TK.know3 e1 e3 e4 ?_
  by_cases hi : i < ts.length
  · obtain ⟨x, hx⟩ : ∃ x, ts[i]? = some x := ⟨ts[i], List.getElem?_eq_getElem hi⟩
    have hxm := List.mem_of_getElem? hx
    refine TK.mem fun m0 hm0 => ?_
    obtain ⟨b, o, rfl⟩ := src_some (has_tls (has_tls hs0) m0 hm0) (by rw [ltsC_len]; omega)
    clear hm0 m0
    have htk : litsB (ts.take (i + 1)) = litsB (ts.take i) ++ litB x := flatB_snoc hx
    obtain ⟨hel, hno, hat⟩ := has_lit hs0 hx
    have hxl : (litB x).length ≤ 5007 := Nat.le_trans (litB_len (hts x hxm) (hn3 x hxm)) (by decide)
    have htl : (litsB (ts.take i)).length ≤ ts.length * 5007 := flatB_take _ _ fun x hx => Nat.le_trans (litB_len (hts x hx) (hn3 x hx)) (by decide)
    have hll : (atmB ⟨hp, hA, hc, hl0⟩ ++ [b8 ts.length] ++ litsB (ts.take i)).length ≤ 10000000 := by simp only [List.length_append, List.length_singleton]; omega
    have hx2 : litB x = [b8 (bitN x.no)] ++ atmB x.a := rfl
    have hx3 : (atmB x.a).length ≤ 5007 := by rw [hx2, List.length_append] at hxl; omega
    generalize hL : atmB ⟨hp, hA, hc, hl0⟩ ++ [b8 ts.length] ++ litsB (ts.take i) = L at hc4 hll ⊢
    refine m_run ?_
    refine TK.drawE mixed rfl (row b1 [.int .u32 (hp : Int), .slice hA hl0.length hc, .slice (some ⟨b, o, none⟩) ts.length c0] 45 :: Γ) ?_
    refine m_take (At.mk : At 0) ?_; refine m_take (At.mk : At 1) ?_; refine m_take (At.mk : At 2) ?_; refine m_take (At.mk : At 3) ?_; refine m_take (At.mk : At 4) ?_; refine m_take (At.mk : At 5) ?_; refine m_take (At.mk : At 6) ?_; refine m_take (At.mk : At 10) ?_; refine m_take (At.mk : At 11) ?_; refine m_take (At.mk : At 12) ?_; refine m_take (At.mk : At 13) ?_; refine m_take (At.mk : At 14) ?_; refine m_take (At.mk : At 15) ?_
    (apply TA.one 7; kernel_rfl; exact rfl)
    (apply TL.callV; exact rfl; exact callB_of (by kernel_rfl); exact rfl; exact fun _ h => h)
    exact rbit_t x.no _
    rintro _ _ ⟨rfl, rfl⟩
    refine TL.back (by (focus ((repeat (first | assumption | exact Ent.refl _ | apply Ent.tail)); done))) ?_
    (apply TA.one 8; kernel_rfl; exact rfl)
    (apply TL.buildSlice (l := bytesV [b8 (bitN x.no)]); exact rfl; exact tb rfl; exact rfl; exact tb rfl; exact rfl; exact rfl; exact rfl; exact rfl; exact rfl)
    intro b29
    refine TL.back (by (focus ((repeat (first | assumption | exact Ent.refl _ | apply Ent.tail)); done))) ?_
    (apply TA.one 9; kernel_rfl; exact rfl)
    (apply TL.appB (s := [ b8 (bitN x.no)]) 1; exact rfl; exact rfl; exact tb rfl; exact rfl; exact tb rfl; exact rfl; exact rfl; exact rfl; exact rfl; exact fun _ h => h; exact rfl; exact has_src_row 0 rfl rfl)
    · simp only [List.length_append, List.length_singleton]; omega
    · exact fun _ => (rfl : _ = _ :: _ :: _)
    intro A5 c5 hc5
    refine TL.back (by (focus ((repeat (first | assumption | exact Ent.refl _ | apply Ent.tail)); done))) ?_
    (apply TA.one 16; kernel_rfl; exact rfl)
    (apply TL.callV; exact rfl; exact callB_of (by kernel_rfl); exact rfl; exact fun _ h => h)
    exact ratom_t x.a _ (Atm.ok_tl (Atm.ok_tl (Atm.ok_tl (hes x hxm)))) (hts x hxm) (hn3 x hxm)
    rintro _ _ ⟨A6, c6, rfl, hc6, rfl⟩
    refine TL.back (by (focus ((repeat (first | assumption | exact Ent.refl _ | apply Ent.tail)); done))) ?_
    (apply TA.one 17; kernel_rfl; exact rfl)
    (apply TL.appB 2; exact rfl; exact rfl; exact tb rfl; exact rfl; exact tb rfl; exact rfl; exact rfl; exact rfl; exact rfl; exact fun _ h => h; exact rfl; (exact m_hsrc))
    · simp only [List.length_append, List.length_singleton]; omega
    · exact fun _ => (rfl : _ = _ :: _ :: _ :: _)
    intro A7 c7 hc7
    refine TL.back (by (focus ((repeat (first | assumption | exact Ent.refl _ | apply Ent.tail)); done))) ?_
    refine m_take (At.mk : At 18) ?_
    refine TA.done (by kernel_rfl) ?_
    refine m_run ?_
    refine TK.sub (List.Sublist.cons _ (List.Sublist.cons _ (List.Sublist.refl _))) ?_
    refine IH (j - 1) _ _ (by omega) ⟨i + 1, A7, c7, by omega, ?_, rfl, ?_, congrArg (Value.int .i64) (i64_succ i (by omega)), ?_⟩
    · rw [htk, ← List.append_assoc, hL, hx2, ← List.append_assoc]; exact hc7
    · rw [htk, ← List.append_assoc, hL, hx2, ← List.append_assoc]; rfl
    · rw [htk, ← List.append_assoc, hL, hx2, ← List.append_assoc]
  obtain rfl : i = ts.length := by omega
  rw [List.take_length] at hc4 ⊢
  refine m_run ?_
  (apply TK.retS1; exact rfl; exact rfl; (exact m_val))
  · exact ⟨_, rfl, A4, c4, rfl, hc4, rfl⟩
  · (repeat (first | exact List.Sublist.refl _ | apply List.Sublist.cons_cons | apply List.Sublist.cons))
set_option maxRecDepth 100000 in
set_option maxHeartbeats 2000000 in
theorem rrule_t (r : Rl) (Γ : List HP) (h : r.ok Γ) (hf : r.fit) (hn : r.l.length ≤ 1000 ∧ r.h.a.l.length ≤ 1000 ∧ ∀ x ∈ r.l, x.y.a.l.length ≤ 1000) : FnV Try.prog 34 [.agg r.cells.toArray] Γ (RB 5 Γ (rlB r)) := by
  refine Fn.enter Try.func34 rfl rfl rfl fun E => ?_
  obtain ⟨⟨hs1, ⟨wv, wn⟩, ⟨hp, hA, hc, hl0⟩⟩, A0, c0, ts⟩ := r
  have hs0 : has Γ (srcAt 6 A0 ts.length (cdsC ts)) := h.2.1
  have hes : ∀ x ∈ ts, x.y.a.ok Γ := h.2.2.2
  have hts : ∀ x ∈ ts, x.y.fit := hf.2
  obtain ⟨hn1, hn2, hn3⟩ := hn
  replace hn1 : ts.length ≤ 1000 := hn1
  replace hn3 : ∀ x ∈ ts, x.y.a.l.length ≤ 1000 := hn3
  have hhl : (sayB ⟨hs1, ⟨wv, wn⟩, ⟨hp, hA, hc, hl0⟩⟩).length ≤ 6000 := Nat.le_trans (sayB_len hf.1) (by have : hl0.length ≤ 1000 := hn2; show _ + hl0.length * 5 ≤ 6000; omega)
  refine m_run ?_
  (apply TL.box; exact rfl; exact rfl; (exact m_lst))
  intro b1
  refine TL.imp (Δ := row b1 [.bool hs1, .bool wv, .int .u32 (wn : Int), .int .u32 (hp : Int), .slice hA hl0.length hc, .slice A0 ts.length c0] 59 :: Γ) (fun _ h => h) ?_
  refine m_run ?_
  refine TK.drawE mixed rfl (row b1 [.bool hs1, .bool wv, .int .u32 (wn : Int), .int .u32 (hp : Int), .slice hA hl0.length hc, .slice A0 ts.length c0] 59 :: Γ) ?_
  refine m_take (At.mk : At 0) ?_; refine m_take (At.mk : At 1) ?_; refine m_take (At.mk : At 3) ?_; refine m_take (At.mk : At 4) ?_; refine m_take (At.mk : At 5) ?_; refine m_take (At.mk : At 6) ?_
  refine TA.know (t := 11) (v := .int .u8 ((b8 ts.length).toNat : Int)) (congrArg (Value.int .u8) (u8_wrap ts.length)) ?_
  refine TA.twoJ 2 7 (fun ρ' Γ' => ∃ (b13 : Nat) (A2 : Option Addr) (c2 : Nat), (sayB ⟨hs1, ⟨wv, wn⟩, ⟨hp, hA, hc, hl0⟩⟩).length ≤ c2 ∧ lk ρ' 1 = .pointer (some ⟨b1, 0, none⟩) ∧ lk ρ' 7 = .slice A2 (sayB ⟨hs1, ⟨wv, wn⟩, ⟨hp, hA, hc, hl0⟩⟩).length c2 ∧ lk ρ' 12 = .slice (some ⟨b13, 0, none⟩) 1 1 ∧ Γ' = row b13 (bytesV [b8 ts.length]) 5 :: bsA 5 (.slice A2 (sayB ⟨hs1, ⟨wv, wn⟩, ⟨hp, hA, hc, hl0⟩⟩).length c2) (sayB ⟨hs1, ⟨wv, wn⟩, ⟨hp, hA, hc, hl0⟩⟩) :: row b1 [.bool hs1, .bool wv, .int .u32 (wn : Int), .int .u32 (hp : Int), .slice hA hl0.length hc, .slice A0 ts.length c0] 59 :: Γ) (by kernel_rfl) rfl rfl rfl ?_ ?_ ?_
  · intro tail
    (apply TL.callV; exact rfl; exact callB_of (by kernel_rfl); exact rfl; exact fun _ h => h)
    exact rsay_t ⟨hs1, ⟨wv, wn⟩, ⟨hp, hA, hc, hl0⟩⟩ _ (Atm.ok_tl h.1) hf.1 hn2
    rintro _ _ ⟨A2, c2, rfl, hc2, rfl⟩
    refine TL.back (by (focus ((repeat (first | assumption | exact Ent.refl _ | apply Ent.tail)); done))) ?_
    (apply TA.one 7; kernel_rfl; exact rfl)
    (apply TL.buildSlice (l := bytesV [b8 ts.length]); exact rfl; exact tb rfl; exact rfl; exact tb rfl; exact rfl; exact rfl; exact rfl; exact rfl; exact rfl)
    intro b13
    refine TL.back (by (focus ((repeat (first | assumption | exact Ent.refl _ | apply Ent.tail)); done))) ?_
    exact tail _ _ ⟨b13, A2, c2, hc2, rfl, rfl, rfl, rfl⟩
  · intro tail
    (apply TL.buildSlice (l := bytesV [b8 ts.length]); exact rfl; exact tb rfl; exact rfl; exact tb rfl; exact rfl; exact rfl; exact rfl; exact rfl; exact rfl)
    intro b13
    refine TL.back (by (focus ((repeat (first | assumption | exact Ent.refl _ | apply Ent.tail)); done))) ?_
    (apply TA.one 2; kernel_rfl; exact rfl)
    (apply TL.callV; exact rfl; exact callB_of (by kernel_rfl); exact rfl; exact fun _ h => h)
    exact rsay_t ⟨hs1, ⟨wv, wn⟩, ⟨hp, hA, hc, hl0⟩⟩ _ (Atm.ok_tl (Atm.ok_tl h.1)) hf.1 hn2
    rintro _ _ ⟨A2, c2, rfl, hc2, rfl⟩
    refine TL.perm (List.Perm.swap _ _ _) ?_
    refine TL.back (by (focus ((repeat (first | assumption | exact Ent.refl _ | apply Ent.tail)); done))) ?_
    exact tail _ _ ⟨b13, A2, c2, hc2, rfl, rfl, rfl, rfl⟩
  rintro ρ3 _ ⟨b13, A2, c2, hc2, g1, gc, gl, rfl⟩
  refine TA.know g1 (TA.know (t := 7) (v := .slice A2 (sayB ⟨hs1, ⟨wv, wn⟩, ⟨hp, hA, hc, hl0⟩⟩).length c2) gc (TA.know (t := 12) (v := .slice (some ⟨b13, 0, none⟩) 1 1) gl ?_))
  (apply TA.one 8; kernel_rfl; exact rfl)
  (apply TL.appB (s := [ b8 ts.length]) 1; exact rfl; exact rfl; exact tb rfl; exact rfl; exact tb rfl; exact rfl; exact rfl; exact rfl; exact rfl; exact fun _ h => h; exact rfl; exact has_src_row 0 rfl rfl)
  · simp only [List.length_append, List.length_singleton]; omega
  · exact fun _ => (rfl : _ = _ :: _ :: _)
  intro A3 c3 hc3
  refine TL.back (by (focus ((repeat (first | assumption | exact Ent.refl _ | apply Ent.tail)); done))) ?_
  refine m_take (At.mk : At 9) ?_
  refine TA.done (by kernel_rfl) ?_
  refine m_run ?_
  refine TK.sub (Δ := bsA 5 (.slice A3 (sayB ⟨hs1, ⟨wv, wn⟩, ⟨hp, hA, hc, hl0⟩⟩ ++ [b8 ts.length]).length c3) (sayB ⟨hs1, ⟨wv, wn⟩, ⟨hp, hA, hc, hl0⟩⟩ ++ [b8 ts.length]) :: row b1 [.bool hs1, .bool wv, .int .u32 (wn : Int), .int .u32 (hp : Int), .slice hA hl0.length hc, .slice A0 ts.length c0] 59 :: Γ) (by (repeat (first | exact List.Sublist.refl _ | apply List.Sublist.cons_cons | apply List.Sublist.cons))) ?_
  apply TK.iter (fun j ρ' Γ' => ∃ (i : Nat) (A4 : Option Addr) (c4 : Nat), i + j = ts.length ∧ (sayB ⟨hs1, ⟨wv, wn⟩, ⟨hp, hA, hc, hl0⟩⟩ ++ [b8 ts.length] ++ cdsB (ts.take i)).length ≤ c4 ∧ lk ρ' 1 = .pointer (some ⟨b1, 0, none⟩) ∧ lk ρ' 3 = .slice A4 (sayB ⟨hs1, ⟨wv, wn⟩, ⟨hp, hA, hc, hl0⟩⟩ ++ [b8 ts.length] ++ cdsB (ts.take i)).length c4 ∧ lk ρ' 4 = .int .i64 (i : Int) ∧ Γ' = bsA 5 (.slice A4 (sayB ⟨hs1, ⟨wv, wn⟩, ⟨hp, hA, hc, hl0⟩⟩ ++ [b8 ts.length] ++ cdsB (ts.take i)).length c4) (sayB ⟨hs1, ⟨wv, wn⟩, ⟨hp, hA, hc, hl0⟩⟩ ++ [b8 ts.length] ++ cdsB (ts.take i)) :: row b1 [.bool hs1, .bool wv, .int .u32 (wn : Int), .int .u32 (hp : Int), .slice hA hl0.length hc, .slice A0 ts.length c0] 59 :: Γ) ts.length
  · refine ⟨0, A3, c3, Nat.zero_add _, ?_, rfl, ?_, rfl, ?_⟩
    · rw [List.take_zero, show cdsB [] = [] from rfl, List.append_nil]; exact hc3
    · rw [List.take_zero, show cdsB [] = [] from rfl, List.append_nil]; rfl
    · rw [List.take_zero, show cdsB [] = [] from rfl, List.append_nil]
  rintro j IH ρ' _ ⟨i, A4, c4, hij, hc4, e1, e3, e4, rfl⟩
  refine TK.know3 e1 e3 e4 ?_
  by_cases hi : i < ts.length
  · obtain ⟨x, hx⟩ : ∃ x, ts[i]? = some x := ⟨ts[i], List.getElem?_eq_getElem hi⟩
    have hxm := List.mem_of_getElem? hx
    refine TK.mem fun m0 hm0 => ?_
    obtain ⟨b, o, rfl⟩ := src_some (has_tls (has_tls hs0) m0 hm0) (by rw [cdsC_len]; omega)
    clear hm0 m0
    have htk : cdsB (ts.take (i + 1)) = cdsB (ts.take i) ++ cdB x := flatB_snoc hx
    obtain ⟨hel, hno, hat⟩ := has_cond hs0 hx
    have hxl : (cdB x).length ≤ 5013 := Nat.le_trans (cdB_len (hts x hxm) (hn3 x hxm)) (by decide)
    have htl : (cdsB (ts.take i)).length ≤ ts.length * 5013 := flatB_take _ _ fun x hx => Nat.le_trans (cdB_len (hts x hx) (hn3 x hx)) (by decide)
    have hll : (sayB ⟨hs1, ⟨wv, wn⟩, ⟨hp, hA, hc, hl0⟩⟩ ++ [b8 ts.length] ++ cdsB (ts.take i)).length ≤ 10000000 := by simp only [List.length_append, List.length_singleton]; omega
    have hx2 : cdB x = [b8 (bitN x.no)] ++ sayB x.y := rfl
    have hx3 : (sayB x.y).length ≤ 5013 := by rw [hx2, List.length_append] at hxl; omega
    generalize hL : sayB ⟨hs1, ⟨wv, wn⟩, ⟨hp, hA, hc, hl0⟩⟩ ++ [b8 ts.length] ++ cdsB (ts.take i) = L at hc4 hll ⊢
    refine m_run ?_
    refine TK.drawE mixed rfl (row b1 [.bool hs1, .bool wv, .int .u32 (wn : Int), .int .u32 (hp : Int), .slice hA hl0.length hc, .slice (some ⟨b, o, none⟩) ts.length c0] 59 :: Γ) ?_
    refine m_take (At.mk : At 0) ?_; refine m_take (At.mk : At 1) ?_; refine m_take (At.mk : At 2) ?_; refine m_take (At.mk : At 3) ?_; refine m_take (At.mk : At 4) ?_; refine m_take (At.mk : At 5) ?_; refine m_take (At.mk : At 6) ?_; refine m_take (At.mk : At 10) ?_; refine m_take (At.mk : At 11) ?_; refine m_take (At.mk : At 12) ?_; refine m_take (At.mk : At 13) ?_; refine m_take (At.mk : At 14) ?_; refine m_take (At.mk : At 15) ?_
    (apply TA.one 7; kernel_rfl; exact rfl)
    (apply TL.callV; exact rfl; exact callB_of (by kernel_rfl); exact rfl; exact fun _ h => h)
    exact rbit_t x.no _
    rintro _ _ ⟨rfl, rfl⟩
    refine TL.back (by (focus ((repeat (first | assumption | exact Ent.refl _ | apply Ent.tail)); done))) ?_
    (apply TA.one 8; kernel_rfl; exact rfl)
    (apply TL.buildSlice (l := bytesV [b8 (bitN x.no)]); exact rfl; exact tb rfl; exact rfl; exact tb rfl; exact rfl; exact rfl; exact rfl; exact rfl; exact rfl)
    intro b29
    refine TL.back (by (focus ((repeat (first | assumption | exact Ent.refl _ | apply Ent.tail)); done))) ?_
    (apply TA.one 9; kernel_rfl; exact rfl)
    (apply TL.appB (s := [ b8 (bitN x.no)]) 1; exact rfl; exact rfl; exact tb rfl; exact rfl; exact tb rfl; exact rfl; exact rfl; exact rfl; exact rfl; exact fun _ h => h; exact rfl; exact has_src_row 0 rfl rfl)
    · simp only [List.length_append, List.length_singleton]; omega
    · exact fun _ => (rfl : _ = _ :: _ :: _)
    intro A5 c5 hc5
    refine TL.back (by (focus ((repeat (first | assumption | exact Ent.refl _ | apply Ent.tail)); done))) ?_
    (apply TA.one 16; kernel_rfl; exact rfl)
    (apply TL.callV; exact rfl; exact callB_of (by kernel_rfl); exact rfl; exact fun _ h => h)
    exact rsay_t x.y _ (Atm.ok_tl (Atm.ok_tl (Atm.ok_tl (hes x hxm)))) (hts x hxm) (hn3 x hxm)
    rintro _ _ ⟨A6, c6, rfl, hc6, rfl⟩
    refine TL.back (by (focus ((repeat (first | assumption | exact Ent.refl _ | apply Ent.tail)); done))) ?_
    (apply TA.one 17; kernel_rfl; exact rfl)
    (apply TL.appB 2; exact rfl; exact rfl; exact tb rfl; exact rfl; exact tb rfl; exact rfl; exact rfl; exact rfl; exact rfl; exact fun _ h => h; exact rfl; (exact m_hsrc))
    · simp only [List.length_append, List.length_singleton]; omega
    · exact fun _ => (rfl : _ = _ :: _ :: _ :: _)
    intro A7 c7 hc7
    refine TL.back (by (focus ((repeat (first | assumption | exact Ent.refl _ | apply Ent.tail)); done))) ?_
    refine m_take (At.mk : At 18) ?_
    refine TA.done (by kernel_rfl) ?_
    refine m_run ?_
    refine TK.sub (List.Sublist.cons _ (List.Sublist.cons _ (List.Sublist.refl _))) ?_
    refine IH (j - 1) _ _ (by omega) ⟨i + 1, A7, c7, by omega, ?_, rfl, ?_, congrArg (Value.int .i64) (i64_succ i (by omega)), ?_⟩
    · rw [htk, ← List.append_assoc, hL, hx2, ← List.append_assoc]; exact hc7
    · rw [htk, ← List.append_assoc, hL, hx2, ← List.append_assoc]; rfl
    · rw [htk, ← List.append_assoc, hL, hx2, ← List.append_assoc]
  obtain rfl : i = ts.length := by omega
  rw [List.take_length] at hc4 ⊢
  refine m_run ?_
  (apply TK.retS1; exact rfl; exact rfl; (exact m_val))
  · exact ⟨_, rfl, A4, c4, rfl, hc4, rfl⟩
  · (repeat (first | exact List.Sublist.refl _ | apply List.Sublist.cons_cons | apply List.Sublist.cons))
end
section
/- Small things of the laws of layer 6: vast, roomy, kept, MayFact, Big, SameSay, SameRule: walked. -/
attribute [local irreducible] TK TL TQ TA TB Fn PV
set_option maxRecDepth 100000 in
theorem vast_t (A : Option Addr) (n c : Nat) (Γ : List HP) : FnV Try.prog 13 [.slice A n c] Γ fun v Γ' => v = .bool (decide (4096 < n)) ∧ Γ' = Γ := by
  refine Fn.enter Try.func13 rfl rfl rfl fun E => ?_
  refine m_run ?_
  (apply TK.ret1; exact rfl; exact rfl; (exact m_val))
  refine ⟨_, rfl, congrArg Value.bool ?_, rfl⟩
  exact decide_eq_decide.2 (by omega)
set_option maxRecDepth 100000 in
theorem roomy_t (A : Option Addr) (m c : Nat) (l : List UInt8) (Γ : List HP) (hs : has Γ (srcAt 1 A m (bytesV l))) (hl : l.length ≤ 1000000000) :
    FnV Try.prog 15 [.slice A m c] Γ fun v Γ' => ∃ g, v = .slice (some ⟨g, 0, none⟩) l.length (l.length + 600) ∧ Γ' = row g (bytesV (l ++ List.replicate 600 0)) 5 :: Γ := by
  refine Fn.enter Try.func15 rfl rfl rfl fun E => ?_
  refine TK.mem fun m0 hm0 => ?_
  obtain rfl := src_lenB (hs m0 hm0)
  refine m_run ?_
  refine TL.know (t := 5) (v := .int .i64 ((l.length + 600 : Nat) : Int)) (congrArg (Value.int .i64) (by rw [i64_in (by omega) (by omega)]; omega)) ?_
  (apply TL.makeRow (n := 0) (c := l.length + 600); exact rfl; exact rfl; exact rfl; exact tb rfl; exact rfl; exact tb rfl; exact rfl; exact rfl)
  · omega
  · show 1 * _ ≤ _; omega
  · unfold maxLen; omega
  intro g
  refine m_run ?_
  (apply TL.appRoom (n := 0) (m := l.length) (cap := l.length + 600) (cur' := bytesV (l ++ List.replicate 600 0)) 0; exact rfl; exact rfl; exact tb rfl; exact rfl; exact tb rfl; exact rfl; exact rfl; exact rfl; (exact m_hsrc); exact bytesV_one l)
  · simp
  · omega
  · have e : (List.replicate (l.length + 600) (Value.int .u8 0)).drop (0 * 1 + (bytesV l).length) = bytesV (List.replicate 600 0) := by
      rw [List.drop_replicate, bytesV_length]
      have : l.length + 600 - (0 * 1 + l.length) = 600 := by omega
      rw [this]; rfl
    rw [bytesV_append, ← e]
    rfl
  · exact rfl
  refine m_run ?_
  (apply TK.ret1; exact rfl; exact rfl; (exact m_val))
  exact ⟨_, rfl, g, by rw [Nat.zero_add], rfl⟩
set_option maxRecDepth 100000 in
theorem kept_t (A B : Option Addr) (m' c' : Nat) (l : List UInt8) (Γ : List HP) (h1 : has Γ (srcAt 1 A (l.length + 600) (bytesV (l ++ List.replicate 600 0)))) (h2 : has Γ (srcAt 1 B m' (bytesV l))) (hl : l.length + 600 ≤ 1000000000) :
    FnV Try.prog 17 [.slice A l.length (l.length + 600), .slice B m' c'] Γ fun v Γ' => v = .bool true ∧ Γ' = Γ := by
  refine Fn.enter Try.func17 rfl rfl rfl fun E => ?_
  refine TK.mem fun m0 hm0 => ?_
  obtain rfl := src_lenB (h2 m0 hm0)
  have h3 : has Γ (srcAt 1 A l.length (bytesV l)) := has_imp h1 fun m hm => by
    have := src_take hm (show l.length ≤ l.length + 600 by omega)
    rwa [bytesV_append, Nat.mul_one, List.take_left' (bytesV_length l)] at this
  refine m_run ?_
  refine TL.know (t := 15) (v := .int .i64 ((l.length + 600 : Nat) : Int)) (congrArg (Value.int .i64) (by rw [i64_in (by omega) (by omega)]; omega)) ?_
  (apply TL.sliceHi (i := ((l.length + 600 : Nat) : Int)); exact rfl; exact rfl; exact rfl; exact tb rfl; exact rfl; exact tb rfl; omega; omega)
  rw [Int.toNat_natCast]
  refine m_run ?_
  apply TK.iter (fun j ρ' Γ' => ∃ (i : Nat), i + j = l.length + 600 ∧ l.length ≤ i ∧ lk ρ' 5 = .slice A (l.length + 600) (l.length + 600) ∧ lk ρ' 6 = .int .i64 (i : Int) ∧ Γ' = Γ) 600
  · exact ⟨l.length, rfl, Nat.le_refl _, rfl, rfl, rfl⟩
  rintro j IH ρ' Γ ⟨i, hij, hil, e5, e6, rfl⟩
  refine TK.know2 e5 e6 ?_
  by_cases hi : i < l.length + 600
  · have hz : (l ++ List.replicate 600 (0 : UInt8))[i]? = some 0 := by
      rw [List.getElem?_append_right hil, List.getElem?_replicate, if_pos (by omega)]
    refine TK.mem fun m1 hm1 => ?_
    obtain ⟨b, o, rfl⟩ := src_some (h1 m1 hm1) (by rw [bytesV_length, List.length_append, List.length_replicate]; omega)
    have hcell := has_byte h1 hz
    refine m_run ?_
    exact IH (j - 1) _ _ (by omega) ⟨i + 1, by omega, by omega, rfl, congrArg (Value.int .i64) (i64_succ i (by omega)), rfl⟩
  · refine m_run ?_
    (apply TK.ret1; exact rfl; exact rfl; (exact m_val))
    exact ⟨_, rfl, rfl, rfl⟩
theorem has_rowB {Γ : List HP} {g e n : Nat} {l s : List UInt8} (i : Nat) (hi : Γ[i]? = some (row g (bytesV (l ++ s)) e)) (hn : n = l.length) : has Γ (srcAt 1 (some ⟨g, 0, none⟩) n (bytesV l)) :=
  has_at (up_src _ _ _ _) i hi fun m hm => by
    subst hn
    have h := src_take (src_row (n := (l ++ s).length) hm rfl (by rw [bytesV_length, Nat.mul_one])) (show l.length ≤ (l ++ s).length by simp)
    rwa [bytesV_append, Nat.mul_one, List.take_left' (bytesV_length l)] at h
theorem has_rowA {Γ : List HP} {g e n : Nat} {l : List UInt8} (i : Nat) (hi : Γ[i]? = some (row g (bytesV l) e)) (hn : n = l.length) : has Γ (srcAt 1 (some ⟨g, 0, none⟩) n (bytesV l)) :=
  has_at (up_src _ _ _ _) i hi fun m hm => by
    subst hn
    exact src_row hm rfl (by rw [bytesV_length, Nat.mul_one])
set_option maxRecDepth 100000 in
theorem mayfact_t (f : Fct) (Γ : List HP) : FnV Try.prog 18 [.agg f.cells.toArray] Γ fun v Γ' => v = .bool (decide (f.l.length ≤ 6)) ∧ Γ' = Γ := by
  refine Fn.enter Try.func18 rfl rfl rfl fun E => ?_
  refine m_run ?_
  (apply TL.box; exact rfl; exact rfl; (exact m_lst))
  intro b1
  refine TL.imp (Δ := row b1 [.int .u32 (f.p : Int), .slice f.A f.l.length f.c] 26 :: Γ) (fun _ h => h) ?_
  refine m_run ?_
  (apply TK.retS1; exact rfl; exact rfl; (exact m_val))
  · exact ⟨_, rfl, congrArg Value.bool (decide_eq_decide.2 (by omega)), rfl⟩
  · (repeat (first | exact List.Sublist.refl _ | apply List.Sublist.cons_cons | apply List.Sublist.cons))
end
section
/- The document's Big, SameSay, SameRule: walked. -/
attribute [local irreducible] TK TL TQ TA TB Fn PV
def sameY (a b : Sy) : Bool := (a.s == b.s) && (decide (a.w = b.w) && sameA a.a b.a)
theorem sameY_self (a : Sy) : sameY a a = true := by simp [sameY, sameA_self]
theorem sameY_comm (a b : Sy) : sameY a b = sameY b a := by
  unfold sameY
  rw [sameA_comm, show (a.s == b.s) = (b.s == a.s) by cases a.s <;> cases b.s <;> rfl, show decide (a.w = b.w) = decide (b.w = a.w) from decide_eq_decide.2 eq_comm]
def sameCs : List Cd → List Cd → Bool
  | [], [] => true
  | x :: l, y :: m => (x.no == y.no && sameY x.y y.y) && sameCs l m
  | _, _ => false
theorem sameCs_self : ∀ l : List Cd, sameCs l l = true
  | [] => rfl
  | x :: l => by simp [sameCs, sameY_self, sameCs_self l]
theorem sameCs_comm : ∀ l m : List Cd, sameCs l m = sameCs m l
  | [], [] => rfl
  | [], _ :: _ => rfl
  | _ :: _, [] => rfl
  | x :: l, y :: m => by
    simp only [sameCs]
    rw [sameY_comm, sameCs_comm l m]
    cases x.no <;> cases y.no <;> rfl
theorem sameCs_len : ∀ {l m : List Cd}, sameCs l m = true → l.length = m.length
  | [], [], _ => rfl
  | [], _ :: _, h => by cases h
  | _ :: _, [], h => by cases h
  | x :: l, y :: m, h => by
    simp only [sameCs, Bool.and_eq_true] at h
    rw [List.length_cons, List.length_cons, sameCs_len h.2]
theorem sameCs_take {l m : List Cd} : ∀ (i : Nat) {x y : Cd}, sameCs (l.take i) (m.take i) = true → l[i]? = some x → m[i]? = some y → sameCs (l.take (i + 1)) (m.take (i + 1)) = (x.no == y.no && sameY x.y y.y) ∧ ((x.no == y.no && sameY x.y y.y) = false → sameCs l m = false) := by
  induction l generalizing m with
  | nil => intro i x y _ h; simp at h
  | cons a l ih =>
    intro i x y h h1 h2
    cases m with
    | nil => simp at h2
    | cons b m =>
      cases i with
      | zero =>
        simp only [List.getElem?_cons_zero, Option.some.injEq] at h1 h2
        subst h1; subst h2
        refine ⟨by simp [sameCs], fun h3 => ?_⟩
        simp only [sameCs, h3, Bool.false_and]
      | succ i =>
        simp only [List.take_succ_cons, sameCs, Bool.and_eq_true] at h
        have := ih (m := m) i h.2 (by simpa using h1) (by simpa using h2)
        refine ⟨?_, fun h3 => ?_⟩
        · simp only [List.take_succ_cons, sameCs, this.1]
          simp [h.1.1, h.1.2]
        · simp only [sameCs, this.2 h3, Bool.and_false]
theorem sameCs_neq {l m : List Cd} (h : l.length ≠ m.length) : sameCs l m = false := by
  cases hs : sameCs l m with
  | false => rfl
  | true => exact absurd (sameCs_len hs) h
def sameR (a b : Rl) : Bool := sameY a.h b.h && sameCs a.l b.l
theorem sameR_self (a : Rl) : sameR a a = true := by simp [sameR, sameY_self, sameCs_self]
theorem sameR_comm (a b : Rl) : sameR a b = sameR b a := by unfold sameR; rw [sameY_comm, sameCs_comm]
def bigR (r : Rl) : Bool := decide (100 < r.l.length) || decide (100 < r.h.a.l.length) || r.l.any fun x => decide (100 < x.y.a.l.length)
set_option maxRecDepth 100000 in
set_option maxHeartbeats 1000000 in
theorem rsameSay_t (a b : Sy) (Γ : List HP) (ha : a.a.ok Γ) (hb : b.a.ok Γ) (hn : a.a.l.length ≤ 1000000) :
    FnV Try.prog 90 [.agg a.cells.toArray, .agg b.cells.toArray] Γ fun v Γ' => v = .bool (sameY a b) ∧ Γ' = Γ := by
  refine Fn.enter Try.func90 rfl rfl rfl fun E => ?_
  obtain ⟨s, ⟨wv, wn⟩, ⟨p, A0, c0, ts⟩⟩ := a
  obtain ⟨s', ⟨wv', wn'⟩, ⟨p', A0', c0', ts'⟩⟩ := b
  refine m_run ?_
  (apply TL.box; exact rfl; exact rfl; (exact m_lst))
  intro b2
  refine m_run ?_
  (apply TL.box; exact rfl; exact rfl; (exact m_lst))
  intro b3
  refine TL.imp (Δ := row b3 [.bool s', .bool wv', .int .u32 (wn' : Int), .int .u32 (p' : Int), .slice A0' ts'.length c0'] 56 :: row b2 [.bool s, .bool wv, .int .u32 (wn : Int), .int .u32 (p : Int), .slice A0 ts.length c0] 56 :: Γ) (fun _ h => h) ?_
  by_cases hs : s = s'
  · subst hs
    refine m_run ?_
    refine TL.know (t := 10) (v := .bool true) (congrArg Value.bool (by cases s <;> rfl)) ?_
    refine m_run ?_
    (apply TL.pv; exact rfl; (apply PV.eqSt (xs := tmC ⟨wv, wn⟩) (ys := tmC ⟨wv', wn'⟩) tabs; exact rfl; exact rfl; exact rfl; exact rfl; kernel_rfl; kernel_rfl; exact congrArg some (tm_eq ⟨wv, wn⟩ ⟨wv', wn'⟩)))
    by_cases hw : (⟨wv, wn⟩ : Tm) = ⟨wv', wn'⟩
    · refine TL.know (t := 15) (v := .bool true) (congrArg Value.bool (decide_eq_true hw)) ?_
      refine m_run ?_
      (apply TL.callV; exact rfl; exact callB_of (by kernel_rfl); exact rfl; exact fun _ h => h)
      exact rsameAtom_t ⟨p, A0, c0, ts⟩ ⟨p', A0', c0', ts'⟩ _ (Atm.ok_tl (Atm.ok_tl ha)) (Atm.ok_tl (Atm.ok_tl hb)) hn
      rintro _ _ ⟨rfl, rfl⟩
      refine m_run ?_
      (apply TK.retS1; exact rfl; exact rfl; (exact m_val))
      · exact ⟨_, rfl, congrArg Value.bool (by simp only [sameY, hw, decide_true, Bool.true_and, beq_self_eq_true]), rfl⟩
      · (repeat (first | exact List.Sublist.refl _ | apply List.Sublist.cons_cons | apply List.Sublist.cons))
    · refine TL.know (t := 15) (v := .bool false) (congrArg Value.bool (decide_eq_false hw)) ?_
      refine m_run ?_
      (apply TK.retS1; exact rfl; exact rfl; (exact m_val))
      · exact ⟨_, rfl, congrArg Value.bool (by simp only [sameY, decide_eq_false hw, Bool.false_and, Bool.and_false]), rfl⟩
      · (repeat (first | exact List.Sublist.refl _ | apply List.Sublist.cons_cons | apply List.Sublist.cons))
  · refine m_run ?_
    (apply TK.retS1; exact rfl; exact rfl; (exact m_val))
    · exact ⟨_, rfl, congrArg Value.bool (by cases s <;> cases s' <;> first | rfl | exact absurd rfl hs), rfl⟩
    · (repeat (first | exact List.Sublist.refl _ | apply List.Sublist.cons_cons | apply List.Sublist.cons))
set_option maxRecDepth 100000 in
set_option maxHeartbeats 2000000 in
theorem rsameR_t (a b : Rl) (Γ : List HP) (ha : a.ok Γ) (hb : b.ok Γ) (hn : a.small) :
    FnV Try.prog 37 [.agg a.cells.toArray, .agg b.cells.toArray] Γ fun v Γ' => v = .bool (sameR a b) ∧ Γ' = Γ := by
  refine Fn.enter Try.func37 rfl rfl rfl fun E => ?_
  obtain ⟨⟨s1, ⟨v1, n1⟩, ⟨hp, hA, hc, hl⟩⟩, A, c, l⟩ := a
  obtain ⟨⟨s2, ⟨v2, n2⟩, ⟨kp, kA, kc, kl⟩⟩, B, d, m⟩ := b
  have hs : has Γ (srcAt 6 A l.length (cdsC l)) := ha.2.1
  have ht : has Γ (srcAt 6 B m.length (cdsC m)) := hb.2.1
  have ha0 : ∀ x ∈ l, x.y.a.ok Γ := ha.2.2.2
  have hb0 : ∀ x ∈ m, x.y.a.ok Γ := hb.2.2.2
  have hn1 : l.length ≤ 1000000 := hn.1
  have hn3 : ∀ x ∈ l, x.y.a.l.length ≤ 1000000 := hn.2.2
  refine m_run ?_
  (apply TL.box; exact rfl; exact rfl; (exact m_lst))
  intro b1
  refine m_run ?_
  (apply TL.box; exact rfl; exact rfl; (exact m_lst))
  intro b2
  refine TL.imp (Δ := row b2 [.bool s2, .bool v2, .int .u32 (n2 : Int), .int .u32 (kp : Int), .slice kA kl.length kc, .slice B m.length d] 59 :: row b1 [.bool s1, .bool v1, .int .u32 (n1 : Int), .int .u32 (hp : Int), .slice hA hl.length hc, .slice A l.length c] 59 :: Γ) (fun _ h => h) ?_
  refine m_run ?_
  (apply TL.callV; exact rfl; exact callB_of (by kernel_rfl); exact rfl; exact fun _ h => h)
  exact rsameSay_t ⟨s1, ⟨v1, n1⟩, ⟨hp, hA, hc, hl⟩⟩ ⟨s2, ⟨v2, n2⟩, ⟨kp, kA, kc, kl⟩⟩ _ (Atm.ok_tl (Atm.ok_tl ha.1)) (Atm.ok_tl (Atm.ok_tl hb.1)) hn.2.1
  rintro _ _ ⟨rfl, rfl⟩
  cases hh : sameY ⟨s1, ⟨v1, n1⟩, ⟨hp, hA, hc, hl⟩⟩ ⟨s2, ⟨v2, n2⟩, ⟨kp, kA, kc, kl⟩⟩ with
  | false =>
    refine m_run ?_
    (apply TK.retS1; exact rfl; exact rfl; (exact m_val))
    · exact ⟨_, rfl, by simp [sameR, hh], rfl⟩
    · (repeat (first | exact List.Sublist.refl _ | apply List.Sublist.cons_cons | apply List.Sublist.cons))
  | true =>
    by_cases hlm : l.length = m.length
    · refine m_run ?_
      apply TK.iter (fun j ρ' Γ' => ∃ i : Nat, i + j = l.length ∧ sameCs (l.take i) (m.take i) = true ∧ lk ρ' 2 = .pointer (some ⟨b1, 0, none⟩) ∧ lk ρ' 3 = .pointer (some ⟨b2, 0, none⟩) ∧ lk ρ' 5 = .int .i64 (i : Int) ∧ Γ' = row b2 [.bool s2, .bool v2, .int .u32 (n2 : Int), .int .u32 (kp : Int), .slice kA kl.length kc, .slice B m.length d] 59 :: row b1 [.bool s1, .bool v1, .int .u32 (n1 : Int), .int .u32 (hp : Int), .slice hA hl.length hc, .slice A l.length c] 59 :: Γ) l.length
      · exact ⟨0, Nat.zero_add _, rfl, rfl, rfl, rfl, rfl⟩
      rintro j IH ρ' _ ⟨i, hij, htk, e2, e3, e5, rfl⟩
      refine TK.know3 e2 e3 e5 ?_
      by_cases hi : i < l.length
      · obtain ⟨x, hx⟩ : ∃ x, l[i]? = some x := ⟨l[i], List.getElem?_eq_getElem hi⟩
        obtain ⟨y, hy⟩ : ∃ y, m[i]? = some y := ⟨m[i], List.getElem?_eq_getElem (by omega)⟩
        have hst := sameCs_take i htk hx hy
        have hxm := List.mem_of_getElem? hx
        have hym := List.mem_of_getElem? hy
        refine TK.mem fun m0 hm0 => ?_
        obtain ⟨b, o, rfl⟩ := src_some (has_tls (has_tls hs) m0 hm0) (by rw [cdsC_len]; omega)
        obtain ⟨b', o', rfl⟩ := src_some (has_tls (has_tls ht) m0 hm0) (by rw [cdsC_len]; omega)
        clear hm0 m0
        obtain ⟨_, hx2, hx3⟩ := has_cond (has_tls (K := row b2 [.bool s2, .bool v2, .int .u32 (n2 : Int), .int .u32 (kp : Int), .slice kA kl.length kc, .slice (some ⟨b', o', none⟩) m.length d] 59) (has_tls (K := row b1 [.bool s1, .bool v1, .int .u32 (n1 : Int), .int .u32 (hp : Int), .slice hA hl.length hc, .slice (some ⟨b, o, none⟩) l.length c] 59) hs)) hx
        obtain ⟨_, hy2, hy3⟩ := has_cond (has_tls (K := row b2 [.bool s2, .bool v2, .int .u32 (n2 : Int), .int .u32 (kp : Int), .slice kA kl.length kc, .slice (some ⟨b', o', none⟩) m.length d] 59) (has_tls (K := row b1 [.bool s1, .bool v1, .int .u32 (n1 : Int), .int .u32 (hp : Int), .slice hA hl.length hc, .slice (some ⟨b, o, none⟩) l.length c] 59) ht)) hy
        refine m_run ?_
        refine TK.drawS mixed rfl ?_
        refine m_take (At.mk : At 0) ?_; refine m_take (At.mk : At 1) ?_; refine m_take (At.mk : At 2) ?_; refine m_take (At.mk : At 3) ?_; refine m_take (At.mk : At 4) ?_; refine m_take (At.mk : At 5) ?_; refine m_take (At.mk : At 6) ?_; refine m_take (At.mk : At 7) ?_; refine m_take (At.mk : At 8) ?_; refine m_take (At.mk : At 9) ?_; refine m_take (At.mk : At 10) ?_; refine m_take (At.mk : At 11) ?_; refine m_take (At.mk : At 12) ?_
        by_cases hno : x.no = y.no
        · refine TA.isF 40 rfl (by rw [hno]; simp) ?_
          refine m_take (At.mk : At 13) ?_; refine m_take (At.mk : At 14) ?_; refine m_take (At.mk : At 15) ?_; refine m_take (At.mk : At 16) ?_; refine m_take (At.mk : At 17) ?_; refine m_take (At.mk : At 18) ?_; refine m_take (At.mk : At 19) ?_; refine m_take (At.mk : At 20) ?_; refine m_take (At.mk : At 21) ?_; refine m_take (At.mk : At 22) ?_; refine m_take (At.mk : At 23) ?_; refine m_take (At.mk : At 24) ?_; refine m_take (At.mk : At 25) ?_
          (apply TA.one 26; kernel_rfl; exact rfl)
          refine m_rrun ?_
          (apply TL.callV; exact rfl; exact callB_of (by kernel_rfl); exact rfl; exact fun _ h => h)
          exact rsameSay_t x.y y.y _ (Atm.ok_tl (Atm.ok_tl (ha0 x hxm))) (Atm.ok_tl (Atm.ok_tl (hb0 y hym))) (hn3 x hxm)
          rintro _ _ ⟨rfl, rfl⟩
          refine TL.back (by (focus ((repeat (first | assumption | exact Ent.refl _ | apply Ent.tail)); done))) ?_
          refine m_take (At.mk : At 27) ?_; refine m_take (At.mk : At 28) ?_
          refine TA.done (by kernel_rfl) ?_
          cases hv : sameY x.y y.y with
          | true =>
            rw [hv, hno] at hst
            have h1 := hst.1
            refine m_run ?_
            exact IH (j - 1) _ _ (by omega) ⟨i + 1, by omega, by rw [h1]; simp, rfl, rfl, congrArg (Value.int .i64) (i64_succ i (by omega)), rfl⟩
          | false =>
            have := hst.2 (by rw [hv]; simp)
            refine m_run ?_
            (apply TK.retS1; exact rfl; exact rfl; (exact m_val))
            · exact ⟨_, rfl, by simp [sameR, this], rfl⟩
            · (repeat (first | exact List.Sublist.refl _ | apply List.Sublist.cons_cons | apply List.Sublist.cons))
        · refine TA.isT 40 rfl (by cases hxn : x.no <;> cases hyn : y.no <;> simp_all) ?_
          refine m_take (At.mk : At 13) ?_; refine m_take (At.mk : At 14) ?_; refine m_take (At.mk : At 15) ?_; refine m_take (At.mk : At 16) ?_; refine m_take (At.mk : At 17) ?_; refine m_take (At.mk : At 18) ?_; refine m_take (At.mk : At 19) ?_; refine m_take (At.mk : At 20) ?_; refine m_take (At.mk : At 21) ?_; refine m_take (At.mk : At 22) ?_; refine m_take (At.mk : At 23) ?_; refine m_take (At.mk : At 24) ?_; refine m_take (At.mk : At 25) ?_; refine m_take (At.mk : At 26) ?_; refine m_take (At.mk : At 27) ?_; refine m_take (At.mk : At 28) ?_
          refine TA.done (by kernel_rfl) ?_
          have := hst.2 (by simp [hno])
          refine m_run ?_
          (apply TK.retS1; exact rfl; exact rfl; (exact m_val))
          · exact ⟨_, rfl, by simp [sameR, this], rfl⟩
          · (repeat (first | exact List.Sublist.refl _ | apply List.Sublist.cons_cons | apply List.Sublist.cons))
      obtain rfl : i = l.length := by omega
      rw [List.take_length, hlm, List.take_length] at htk
      refine m_run ?_
      (apply TK.retS1; exact rfl; exact rfl; (exact m_val))
      · exact ⟨_, rfl, by simp [sameR, hh, htk], rfl⟩
      · (repeat (first | exact List.Sublist.refl _ | apply List.Sublist.cons_cons | apply List.Sublist.cons))
    · have := sameCs_neq hlm
      refine m_run ?_
      (apply TK.retS1; exact rfl; exact rfl; (exact m_val))
      · exact ⟨_, rfl, by simp [sameR, this], rfl⟩
      · (repeat (first | exact List.Sublist.refl _ | apply List.Sublist.cons_cons | apply List.Sublist.cons))
set_option maxRecDepth 100000 in
set_option maxHeartbeats 1000000 in
theorem rbigR_t (c : Rl) (Γ : List HP) (h : c.ok Γ) : FnV Try.prog 30 [.agg c.cells.toArray] Γ fun v Γ' => v = .bool (bigR c) ∧ Γ' = Γ := by
  refine Fn.enter Try.func30 rfl rfl rfl fun E => ?_
  obtain ⟨⟨s1, ⟨v1, n1⟩, ⟨hp, hA, hc, hl⟩⟩, A, c, l⟩ := c
  have hs0 : has Γ (srcAt 6 A l.length (cdsC l)) := h.2.1
  by_cases h1 : 100 < l.length
  · refine m_run ?_
    (apply TL.box; exact rfl; exact rfl; (exact m_lst))
    intro b1
    refine TL.imp (Δ := row b1 [.bool s1, .bool v1, .int .u32 (n1 : Int), .int .u32 (hp : Int), .slice hA hl.length hc, .slice A l.length c] 59 :: Γ) (fun _ h => h) ?_
    refine m_run ?_
    (apply TK.retS1; exact rfl; exact rfl; (exact m_val))
    · exact ⟨_, rfl, congrArg Value.bool (by simp [bigR, h1]), rfl⟩
    · (repeat (first | exact List.Sublist.refl _ | apply List.Sublist.cons_cons | apply List.Sublist.cons))
  refine m_run ?_
  (apply TL.box; exact rfl; exact rfl; (exact m_lst))
  intro b1
  refine TL.imp (Δ := row b1 [.bool s1, .bool v1, .int .u32 (n1 : Int), .int .u32 (hp : Int), .slice hA hl.length hc, .slice A l.length c] 59 :: Γ) (fun _ h => h) ?_
  by_cases h2 : 100 < hl.length
  · refine m_run ?_
    (apply TK.retS1; exact rfl; exact rfl; (exact m_val))
    · exact ⟨_, rfl, congrArg Value.bool (by simp [bigR, h2]), rfl⟩
    · (repeat (first | exact List.Sublist.refl _ | apply List.Sublist.cons_cons | apply List.Sublist.cons))
  refine m_run ?_
  apply TK.iter (fun j ρ' Γ' => ∃ i : Nat, i + j = l.length ∧ ((l.take i).any fun x => decide (100 < x.y.a.l.length)) = false ∧ lk ρ' 1 = .pointer (some ⟨b1, 0, none⟩) ∧ lk ρ' 3 = .int .i64 (i : Int) ∧ Γ' = row b1 [.bool s1, .bool v1, .int .u32 (n1 : Int), .int .u32 (hp : Int), .slice hA hl.length hc, .slice A l.length c] 59 :: Γ) l.length
  · exact ⟨0, Nat.zero_add _, by simp, rfl, rfl, rfl⟩
  rintro j IH ρ' _ ⟨i, hij, hno, e1, e3, rfl⟩
  refine TK.know2 e1 e3 ?_
  by_cases hi : i < l.length
  · obtain ⟨x, hx⟩ : ∃ x, l[i]? = some x := ⟨l[i], List.getElem?_eq_getElem hi⟩
    have hxm := List.mem_of_getElem? hx
    refine TK.mem fun m0 hm0 => ?_
    obtain ⟨b, o, rfl⟩ := src_some (has_tls hs0 m0 hm0) (by rw [cdsC_len]; omega)
    clear hm0 m0
    obtain ⟨_, _, hat⟩ := has_cond hs0 hx
    have hsl : has Γ (fun m => cellAt m b (o + i * 6 + 1 + 3 + 1) (.slice x.y.a.A x.y.a.l.length x.y.a.c)) := has_cell hat 4 rfl
    by_cases hm : 100 < x.y.a.l.length
    · have : (l.any fun x => decide (100 < x.y.a.l.length)) = true := List.any_eq_true.2 ⟨x, hxm, by simp [hm]⟩
      refine m_run ?_
      (apply TK.retS1; exact rfl; exact rfl; (exact m_val))
      · exact ⟨_, rfl, congrArg Value.bool (by simp [bigR, this]), rfl⟩
      · (repeat (first | exact List.Sublist.refl _ | apply List.Sublist.cons_cons | apply List.Sublist.cons))
    · refine m_run ?_
      refine IH (j - 1) _ _ (by omega) ⟨i + 1, by omega, ?_, rfl, congrArg (Value.int .i64) (i64_succ i (by omega)), rfl⟩
      rw [List.take_add_one, hx, List.any_append, hno]
      simp; omega
  obtain rfl : i = l.length := by omega
  rw [List.take_length] at hno
  refine m_run ?_
  (apply TK.retS1; exact rfl; exact rfl; (exact m_val))
  · exact ⟨_, rfl, congrArg Value.bool (by simp only [bigR, hno, h1, h2, decide_false, Bool.or_false]), rfl⟩
  · (repeat (first | exact List.Sublist.refl _ | apply List.Sublist.cons_cons | apply List.Sublist.cons))
end
end Go.Proofs.Ytokggdgagfmacaa.E
