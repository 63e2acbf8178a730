/- The document's padding of a message, walked. -/
import Derived.Test.YtdookobgkcnncaaDoorH5
namespace Go.Proofs.YtdookobgkcnncaaDoor.E
open Go Go.RowKit Go.Proofs
attribute [local irreducible] TK TL TQ TA Fn PV
set_option maxRecDepth 100000 in
theorem padded_t (A : Option Addr) (c : Nat) (l : List UInt8) (Γ : List HP) (hs : has Γ (srcAt 1 A l.length (bytesV l))) (hl : l.length ≤ 1000000000) :
    FnV Tryd.prog 28 [.slice A l.length c] Γ (RB 5 Γ (padded l)) := by
  refine Fn.enter Tryd.func28 rfl rfl rfl fun E => ?_
  refine m_run ?_
  (apply TL.buildSlice; exact rfl; exact tb rfl; exact rfl; exact tb rfl; exact rfl; exact rfl; exact rfl; exact rfl; (exact m_lst))
  intro b1
  refine m_run ?_
  (apply TL.appB 0; exact rfl; exact rfl; exact tb rfl; exact rfl; exact tb rfl; exact rfl; exact rfl; exact rfl; exact rfl; exact fun _ h => bs_row (l := []) rfl rfl (by decide) h; exact rfl; (exact m_hsrc))
  · rw [List.length_nil]; omega
  · exact fun _ => (rfl : _ = _ :: _)
  intro A1 c1 hc1
  rw [List.nil_append] at hc1 ⊢
  refine m_run ?_
  (apply TL.buildSlice; exact rfl; exact tb rfl; exact rfl; exact tb rfl; exact rfl; exact rfl; exact rfl; exact rfl; (exact m_lst))
  intro b2
  refine m_run ?_
  (apply TL.appB (s := [ 128]) 1; exact rfl; exact rfl; exact tb rfl; exact rfl; exact tb rfl; exact rfl; exact rfl; exact rfl; exact rfl; exact fun _ h => h; exact rfl; exact has_src_row 0 rfl rfl)
  · simp only [List.length_singleton]; omega
  · exact fun _ => (rfl : _ = _ :: _ :: _)
  intro A2 c2 hc2
  refine m_run ?_
  refine TK.sub (Δ := bsA 5 (.slice A2 (l ++ [128]).length c2) (l ++ [128]) :: Γ) (by (repeat (first | exact List.Sublist.refl _ | apply List.Sublist.cons_cons | apply List.Sublist.cons))) ?_
  apply TK.iter (fun j ρ' Γ' => ∃ (z : Nat) (A' : Option Addr) (c' : Nat), z + j = padZ l.length ∧ lk ρ' 0 = .slice A l.length c ∧ lk ρ' 3 = .slice A' (l ++ [128] ++ List.replicate z 0).length c' ∧ (l ++ [128] ++ List.replicate z (0 : UInt8)).length ≤ c' ∧ Γ' = bsA 5 (.slice A' (l ++ [128] ++ List.replicate z 0).length c') (l ++ [128] ++ List.replicate z 0) :: Γ) (padZ l.length)
  · refine ⟨0, A2, c2, Nat.zero_add _, rfl, ?_, ?_, ?_⟩ <;> simp only [List.replicate_zero, List.append_nil]
    · rfl
    · exact hc2
  rintro j IH ρ' _ ⟨z, A3, c3, hz, e0, e3, hc3, rfl⟩
  refine TK.know2 e0 e3 ?_
  have hpz : padZ l.length = (119 - l.length % 64) % 64 := rfl
  have hXl : (l ++ [128] ++ List.replicate z (0 : UInt8)).length = l.length + 1 + z := by simp; omega
  by_cases h0 : z < padZ l.length
  · refine m_run ?_
    (apply TL.buildSlice; exact rfl; exact tb rfl; exact rfl; exact tb rfl; exact rfl; exact rfl; exact rfl; exact rfl; (exact m_lst))
    intro b3
    refine m_run ?_
    (apply TL.appB (s := [ 0]) 1; exact rfl; exact rfl; exact tb rfl; exact rfl; exact tb rfl; exact rfl; exact rfl; exact rfl; exact rfl; exact fun _ h => h; exact rfl; exact has_src_row 0 rfl rfl)
    · rw [hXl]; simp only [List.length_singleton]; omega
    · exact fun _ => (rfl : _ = _ :: _ :: _)
    intro A4 c4 hc4
    have hX2 : l ++ [128] ++ List.replicate z (0 : UInt8) ++ [0] = l ++ [128] ++ List.replicate (z + 1) 0 := by rw [List.append_assoc _ _ [0], ← List.replicate_succ']
    rw [hX2] at hc4 ⊢
    refine m_run ?_
    refine TK.sub (Δ := bsA 5 (.slice A4 (l ++ [128] ++ List.replicate (z + 1) 0).length c4) (l ++ [128] ++ List.replicate (z + 1) 0) :: Γ) (by (repeat (first | exact List.Sublist.refl _ | apply List.Sublist.cons_cons | apply List.Sublist.cons))) ?_
    exact IH (j - 1) _ _ (by omega) ⟨z + 1, A4, c4, by omega, rfl, rfl, hc4, rfl⟩
  obtain rfl : z = padZ l.length := by omega
  obtain ⟨Y, hY⟩ : ∃ Y, l ++ [128] ++ List.replicate (padZ l.length) (0 : UInt8) = Y := ⟨_, rfl⟩
  rw [hY] at hXl hc3 ⊢
  clear IH e0 e3
  obtain ⟨N, hN⟩ : ∃ N, 8 * l.length = N := ⟨_, rfl⟩
  refine m_run ?_
  refine TK.know (t := 4) (v := .int .u64 (N : Int)) (congrArg (Value.int .u64) (by rw [u64_nat (by omega), show ((l.length : Int) * 8) = ((l.length * 8 : Nat) : Int) by omega, u64_nat (by omega)]; omega)) ?_
  apply TK.iter (fun j ρ' Γ' => ∃ (i : Nat) (A' : Option Addr) (c' : Nat), i + j = 8 ∧ lk ρ' 4 = .int .u64 (N : Int) ∧ lk ρ' 5 = .int .i64 (7 - (i : Int)) ∧ lk ρ' 3 = .slice A' (Y ++ (be8 N).take i).length c' ∧ (Y ++ (be8 N).take i).length ≤ c' ∧ Γ' = bsA 5 (.slice A' (Y ++ (be8 N).take i).length c') (Y ++ (be8 N).take i) :: Γ) 8
  · refine ⟨0, A3, c3, Nat.zero_add _, rfl, rfl, ?_, ?_, ?_⟩ <;> simp only [List.take_zero, List.append_nil]
    · rfl
    · exact hc3
  clear hc3
  rintro j IH ρ' _ ⟨i, A4, c4, hij, e4, e5, e3, hc4, rfl⟩
  refine TK.know3 e4 e5 e3 ?_
  by_cases hi : i < 8
  · have hYl : (Y ++ (be8 N).take i).length ≤ l.length + 80 := by rw [List.length_append, List.length_take, be8_len]; omega
    refine m_run ?_
    refine TL.know (t := 30) (v := .int .u64 ((8 * (7 - i) : Nat) : Int)) (congrArg (Value.int .u64) (by rw [i64_in (x := 8 * (7 - (i : Int))) (by omega) (by omega), u64_in (by omega) (by omega)]; omega)) ?_
    (apply TL.pv; exact rfl; (apply PV.shrN (n := N) (m := 8 * (7 - i)); exact rfl; exact rfl; exact rfl; exact (show 8 * (7 - i) ≤ 64 by omega)))
    refine m_run ?_
    refine TL.know (t := 32) (v := .int .u8 ((b8 (N / 2 ^ (8 * (7 - i)))).toNat : Int)) (congrArg (Value.int .u8) (u8_wrap _)) ?_
    (apply TL.buildSlice; exact rfl; exact tb rfl; exact rfl; exact tb rfl; exact rfl; exact rfl; exact rfl; exact rfl; (exact m_lst))
    intro b3
    refine m_run ?_
    (apply TL.appB (s := [ b8 (N / 2 ^ (8 * (7 - i)))]) 1; exact rfl; exact rfl; exact tb rfl; exact rfl; exact tb rfl; exact rfl; exact rfl; exact rfl; exact rfl; exact fun _ h => h; exact rfl; exact has_src_row 0 rfl rfl)
    · simp only [List.length_singleton]; omega
    · exact fun _ => (rfl : _ = _ :: _ :: _)
    intro A5 c5 hc5
    have hX2 : Y ++ (be8 N).take i ++ [b8 (N / 2 ^ (8 * (7 - i)))] = Y ++ (be8 N).take (i + 1) := by rw [be8_take hi, List.append_assoc]
    rw [hX2] at hc5 ⊢
    refine m_run ?_
    refine TK.sub (Δ := bsA 5 (.slice A5 (Y ++ (be8 N).take (i + 1)).length c5) (Y ++ (be8 N).take (i + 1)) :: Γ) (by (repeat (first | exact List.Sublist.refl _ | apply List.Sublist.cons_cons | apply List.Sublist.cons))) ?_
    exact IH (j - 1) _ _ (by omega) ⟨i + 1, A5, c5, by omega, rfl, congrArg (Value.int .i64) (by rw [i64_in (by omega) (by omega)]; omega), rfl, hc5, rfl⟩
  obtain rfl : i = 8 := by omega
  have hpad : Y ++ (be8 N).take 8 = padded l := by rw [List.take_of_length_le (Nat.le_of_eq (be8_len N)), ← hY, ← hN]; rfl
  rw [hpad] at hc4 ⊢
  refine m_run ?_
  (apply TK.ret1; exact rfl; exact rfl; (exact m_val))
  exact ⟨_, rfl, A4, c4, rfl, hc4, rfl⟩
end Go.Proofs.YtdookobgkcnncaaDoor.E
