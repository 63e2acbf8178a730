/- LexEnds, walked. -/
import Derived.Test.YtebeckkkckijeaaDoorR9
namespace Go.Proofs.YtebeckkkckijeaaDoor.E
open Go Go.RowKit Go.Proofs
attribute [local irreducible] TK TL TQ TA Fn PV
theorem full_set {l : List UInt8} {n i : Nat} {c : UInt8} {k : Int} (h : l[i]? = some c) (hn : l.length = n) (hk : (c.toNat : Int) = k) : (bytesV (l.take i) ++ List.replicate (n - i) (Value.int .u8 0)).set i (.int .u8 k) = bytesV (l.take (i + 1)) ++ List.replicate (n - (i + 1)) (Value.int .u8 0) := by
  subst hk
  have hi : i < l.length := (List.getElem?_eq_some_iff.1 h).1
  have h1 : (bytesV (l.take i)).length = i := by rw [bytesV_length, List.length_take]; omega
  rw [show n - i = n - (i + 1) + 1 by omega, List.replicate_succ, List.set_append_right _ _ (by omega), h1, Nat.sub_self, List.set_cons_zero, List.take_add_one, h, bytesV_append, List.append_assoc]
  rfl
def xText (n : Nat) : List UInt8 := List.replicate 5 32 ++ 120 :: List.replicate (n - 6) 32
theorem xText_len {n : Nat} (h : 6 ≤ n) : (xText n).length = n := by simp [xText]; omega
theorem xText_get {n i : Nat} (h : 6 ≤ n) (hi : i < n) : (xText n)[i]? = some (if i = 5 then 120 else 32) := by
  unfold xText
  by_cases h5 : i < 5
  · rw [List.getElem?_append_left (by simpa using h5), List.getElem?_replicate, if_pos h5, if_neg (by omega)]
  · rw [List.getElem?_append_right (by simpa using h5), List.length_replicate]
    by_cases h6 : i = 5
    · subst h6; rfl
    · rw [if_neg h6, show i - 5 = i - 6 + 1 by omega, List.getElem?_cons_succ, List.getElem?_replicate, if_pos (by omega)]
set_option maxRecDepth 100000 in
set_option maxHeartbeats 2000000 in
theorem ends_f (o : Int) (Γ : List HP) (h1 : -128 ≤ o) (h2 : o ≤ 127) (hM : gMeans Γ) (hK : gMarks Γ) :
    FnV Tryd.prog 6 [.int .i8 o, .bool false] Γ fun v Γ' => v = .bool true ∧ Γ' = Γ := by
  refine Fn.enter Tryd.func6 rfl rfl rfl fun E => ?_
  by_cases hn1 : 32 + o < 1
  · refine m_run ?_
    refine TK.know (t := 20) (v := .bool true) (congrArg Value.bool (decide_eq_true (by rw [i64_in (x := o) (by omega) (by omega), i64_in (by omega) (by omega)]; exact hn1))) ?_
    refine m_run ?_
    (apply TL.callV; exact rfl; exact callB_of (by kernel_rfl); exact rfl; exact fun _ h => h)
    exact works7_t _ hM hK
    rintro _ _ ⟨rfl, rfl⟩
    refine m_run ?_
    (apply TK.ret1; exact rfl; exact rfl; (exact m_val))
    exact ⟨_, rfl, rfl, rfl⟩
  obtain ⟨n, hn⟩ : ∃ n : Nat, 32 + o = (n : Int) := ⟨(32 + o).toNat, by omega⟩
  have hn0 : 1 ≤ n := by omega
  refine m_run ?_
  refine TK.know (t := 20) (v := .bool false) (congrArg Value.bool (decide_eq_false (by rw [i64_in (x := o) (by omega) (by omega), i64_in (by omega) (by omega)]; omega))) ?_
  refine TK.know (t := 5) (v := .int .i64 (n : Int)) (congrArg (Value.int .i64) (by rw [i64_in (x := o) (by omega) (by omega), i64_in (by omega) (by omega)]; exact hn)) ?_
  refine m_run ?_
  (apply TL.makeRow (n := n) (c := n); exact rfl; exact rfl; exact rfl; exact tb rfl; exact rfl; exact tb rfl; exact rfl; exact rfl)
  · exact Nat.le_refl _
  · show 1 * n ≤ _; omega
  · unfold maxLen; omega
  intro b23
  refine m_run ?_
  have hfl : (List.replicate n (120 : UInt8)).length = n := List.length_replicate
  apply TK.iter (fun j ρ' Γ' => ∃ i : Nat, i + j = n ∧ lk ρ' 0 = .int .i8 o ∧ lk ρ' 1 = .bool false ∧ lk ρ' 5 = .int .i64 (n : Int) ∧ lk ρ' 6 = .slice (some ⟨b23, 0, none⟩) n n ∧ lk ρ' 7 = .int .i64 (i : Int) ∧ Γ' = row b23 (bytesV ((List.replicate n (120 : UInt8)).take i) ++ List.replicate (n - i) (Value.int .u8 0)) 5 :: Γ) n
  · exact ⟨0, Nat.zero_add _, rfl, rfl, rfl, rfl, rfl, rfl⟩
  rintro j IH ρ' _ ⟨i, hij, e0, e1, e5, e6, e7, rfl⟩
  refine TK.know5 e0 e1 e5 e6 e7 ?_
  by_cases hi : i < n
  · have hll : (bytesV ((List.replicate n (120 : UInt8)).take i) ++ List.replicate (n - i) (Value.int .u8 0)).length = n := by simp only [List.length_append, bytesV_length, List.length_take, List.length_replicate, hfl]; omega
    refine m_run ?_
    (apply TL.storeE 0 (l' := (bytesV ((List.replicate n (120 : UInt8)).take i) ++ List.replicate (n - i) (Value.int .u8 0)).set i (.int .u8 32)); exact rfl; exact rfl; exact rfl; exact rfl; exact tb rfl; exact rfl; exact (by rw [hll]; exact hi); exact (by exact rfl); exact rfl)
    refine m_run ?_
    (apply TL.storeE 0 (l' := (bytesV ((List.replicate n (120 : UInt8)).take i) ++ List.replicate (n - i) (Value.int .u8 0)).set i (.int .u8 120)); exact rfl; exact rfl; exact rfl; exact rfl; exact tb rfl; exact rfl; exact (by rw [List.length_set, hll]; exact hi); exact (by exact List.set_set ..); exact rfl)
    rw [full_set (c := 120) (k := 120) (by rw [List.getElem?_replicate, if_pos hi]) hfl rfl]
    refine m_run ?_
    exact IH (j - 1) _ _ (by omega) ⟨i + 1, by omega, rfl, rfl, rfl, rfl, congrArg (Value.int .i64) (i64_succ i (by omega)), rfl⟩
  obtain rfl : i = n := by omega
  rw [Nat.sub_self, List.replicate_zero, List.append_nil, List.take_of_length_le (by omega)]
  clear IH
  refine m_run ?_
  refine TL.know (t := 42) (v := .slice (some ⟨b23, 0, none⟩) (List.replicate i (120 : UInt8)).length i) (congrArg (fun z : Nat => Value.slice (some ⟨b23, 0, none⟩) z i) hfl.symm) ?_
  (apply TL.pv; exact rfl; (apply PV.convBS; exact rfl; exact tb rfl; exact rfl; exact tb rfl; exact rfl; exact tb rfl; exact rfl; exact has_src_row 0 rfl (by rw [bytesV_length, Nat.mul_one])))
  have hlex := lex_rep (i - 1)
  rw [Nat.sub_add_cancel hn0] at hlex
  by_cases ho : 0 < o
  · rw [if_pos (by omega)] at hlex
    (apply TL.callV; exact rfl; exact callB_of (by kernel_rfl); exact rfl; exact fun _ h => h)
    exact words_er hlex _ (by rw [List.length_replicate]; omega) (gMeans_tail hM) (gMarks_tail hK)
    rintro _ _ ⟨rfl, rfl⟩
    refine m_run ?_
    (apply TL.callV; exact rfl; exact callB_of (by kernel_rfl); exact rfl; exact fun _ h => h)
    exact works7_t _ (gMeans_tail hM) (gMarks_tail hK)
    rintro _ _ ⟨rfl, rfl⟩
    refine m_run ?_
    (apply TK.retS1; exact rfl; exact rfl; (exact m_val))
    · exact ⟨_, rfl, rfl, rfl⟩
    · (repeat (first | exact List.Sublist.refl _ | apply List.Sublist.cons_cons | apply List.Sublist.cons))
  · rw [if_neg (by omega)] at hlex
    (apply TL.callV; exact rfl; exact callB_of (by kernel_rfl); exact rfl; exact fun _ h => h)
    exact words_ok hlex _ (by rw [List.length_replicate]; omega) (gMeans_tail hM) (gMarks_tail hK)
    rintro _ _ ⟨A1, c1, hc1, rfl, rfl⟩
    refine m_run ?_
    (apply TL.callV; exact rfl; exact callB_of (by kernel_rfl); exact rfl; exact fun _ h => h)
    exact works7_t _ (gMeans_tail (gMeans_tail hM)) (gMarks_tail (gMarks_tail hK))
    rintro _ _ ⟨rfl, rfl⟩
    refine m_run ?_
    (apply TK.retS1; exact rfl; exact rfl; (exact m_val))
    · exact ⟨_, rfl, rfl, rfl⟩
    · (repeat (first | exact List.Sublist.refl _ | apply List.Sublist.cons_cons | apply List.Sublist.cons))
set_option maxRecDepth 100000 in
set_option maxHeartbeats 2000000 in
theorem ends_t (o : Int) (Γ : List HP) (h1 : -128 ≤ o) (h2 : o ≤ 127) (hM : gMeans Γ) (hK : gMarks Γ) :
    FnV Tryd.prog 6 [.int .i8 o, .bool true] Γ fun v Γ' => v = .bool true ∧ Γ' = Γ := by
  refine Fn.enter Tryd.func6 rfl rfl rfl fun E => ?_
  obtain ⟨n, hn⟩ : ∃ n : Nat, 65536 + o = (n : Int) := ⟨(65536 + o).toNat, by omega⟩
  have hn0 : 1 ≤ n := by omega
  refine m_run ?_
  refine TK.know (t := 20) (v := .bool false) (congrArg Value.bool (decide_eq_false (by rw [i64_in (x := o) (by omega) (by omega), i64_in (by omega) (by omega)]; omega))) ?_
  refine TK.know (t := 5) (v := .int .i64 (n : Int)) (congrArg (Value.int .i64) (by rw [i64_in (x := o) (by omega) (by omega), i64_in (by omega) (by omega)]; exact hn)) ?_
  refine m_run ?_
  (apply TL.makeRow (n := n) (c := n); exact rfl; exact rfl; exact rfl; exact tb rfl; exact rfl; exact tb rfl; exact rfl; exact rfl)
  · exact Nat.le_refl _
  · show 1 * n ≤ _; omega
  · unfold maxLen; omega
  intro b23
  refine m_run ?_
  have hfl : (xText n).length = n := xText_len (by omega)
  apply TK.iter (fun j ρ' Γ' => ∃ i : Nat, i + j = n ∧ lk ρ' 0 = .int .i8 o ∧ lk ρ' 1 = .bool true ∧ lk ρ' 5 = .int .i64 (n : Int) ∧ lk ρ' 6 = .slice (some ⟨b23, 0, none⟩) n n ∧ lk ρ' 7 = .int .i64 (i : Int) ∧ Γ' = row b23 (bytesV ((xText n).take i) ++ List.replicate (n - i) (Value.int .u8 0)) 5 :: Γ) n
  · exact ⟨0, Nat.zero_add _, rfl, rfl, rfl, rfl, rfl, rfl⟩
  rintro j IH ρ' _ ⟨i, hij, e0, e1, e5, e6, e7, rfl⟩
  refine TK.know5 e0 e1 e5 e6 e7 ?_
  by_cases hi : i < n
  · have hll : (bytesV ((xText n).take i) ++ List.replicate (n - i) (Value.int .u8 0)).length = n := by simp only [List.length_append, bytesV_length, List.length_take, List.length_replicate, hfl]; omega
    by_cases h5 : i = 5
    · refine m_run ?_
      (apply TL.storeE 0 (l' := (bytesV ((xText n).take i) ++ List.replicate (n - i) (Value.int .u8 0)).set i (.int .u8 32)); exact rfl; exact rfl; exact rfl; exact rfl; exact tb rfl; exact rfl; exact (by rw [hll]; exact hi); exact (by exact rfl); exact rfl)
      refine m_run ?_
      (apply TL.storeE 0 (l' := (bytesV ((xText n).take i) ++ List.replicate (n - i) (Value.int .u8 0)).set i (.int .u8 120)); exact rfl; exact rfl; exact rfl; exact rfl; exact tb rfl; exact rfl; exact (by rw [List.length_set, hll]; exact hi); exact (by exact List.set_set ..); exact rfl)
      rw [full_set (c := 120) (k := 120) (by rw [xText_get (by omega) hi]; first | rw [if_pos h5] | rw [if_neg h5]) hfl rfl]
      refine m_run ?_
      exact IH (j - 1) _ _ (by omega) ⟨i + 1, by omega, rfl, rfl, rfl, rfl, congrArg (Value.int .i64) (i64_succ i (by omega)), rfl⟩
    · refine m_run ?_
      (apply TL.storeE 0 (l' := (bytesV ((xText n).take i) ++ List.replicate (n - i) (Value.int .u8 0)).set i (.int .u8 32)); exact rfl; exact rfl; exact rfl; exact rfl; exact tb rfl; exact rfl; exact (by rw [hll]; exact hi); exact (by exact rfl); exact rfl)
      rw [full_set (c := 32) (k := 32) (by rw [xText_get (by omega) hi]; first | rw [if_pos h5] | rw [if_neg h5]) hfl rfl]
      refine m_run ?_
      exact IH (j - 1) _ _ (by omega) ⟨i + 1, by omega, rfl, rfl, rfl, rfl, congrArg (Value.int .i64) (i64_succ i (by omega)), rfl⟩
  obtain rfl : i = n := by omega
  rw [Nat.sub_self, List.replicate_zero, List.append_nil, List.take_of_length_le (by omega)]
  clear IH
  refine m_run ?_
  refine TL.know (t := 42) (v := .slice (some ⟨b23, 0, none⟩) (xText i).length i) (congrArg (fun z : Nat => Value.slice (some ⟨b23, 0, none⟩) z i) hfl.symm) ?_
  (apply TL.pv; exact rfl; (apply PV.convBS; exact rfl; exact tb rfl; exact rfl; exact tb rfl; exact rfl; exact tb rfl; exact rfl; exact has_src_row 0 rfl (by rw [bytesV_length, Nat.mul_one])))
  by_cases ho : 0 < o
  · (apply TL.callV; exact rfl; exact callB_of (by kernel_rfl); exact rfl; exact fun _ h => h)
    exact words_many (xText i) _ (by omega)
    rintro _ _ ⟨rfl, rfl⟩
    refine m_run ?_
    (apply TL.callV; exact rfl; exact callB_of (by kernel_rfl); exact rfl; exact fun _ h => h)
    exact works7_t _ (gMeans_tail hM) (gMarks_tail hK)
    rintro _ _ ⟨rfl, rfl⟩
    refine m_run ?_
    (apply TK.retS1; exact rfl; exact rfl; (exact m_val))
    · exact ⟨_, rfl, rfl, rfl⟩
    · (repeat (first | exact List.Sublist.refl _ | apply List.Sublist.cons_cons | apply List.Sublist.cons))
  · (apply TL.callV; exact rfl; exact callB_of (by kernel_rfl); exact rfl; exact fun _ h => h)
    exact words_ok (lex_spaces (i - 6)) _ (show (xText i).length ≤ 65536 by omega) (gMeans_tail hM) (gMarks_tail hK)
    rintro _ _ ⟨A1, c1, hc1, rfl, rfl⟩
    refine m_run ?_
    (apply TL.callV; exact rfl; exact callB_of (by kernel_rfl); exact rfl; exact fun _ h => h)
    exact works7_t _ (gMeans_tail (gMeans_tail hM)) (gMarks_tail (gMarks_tail hK))
    rintro _ _ ⟨rfl, rfl⟩
    refine m_run ?_
    (apply TK.retS1; exact rfl; exact rfl; (exact m_val))
    · exact ⟨_, rfl, rfl, rfl⟩
    · (repeat (first | exact List.Sublist.refl _ | apply List.Sublist.cons_cons | apply List.Sublist.cons))
end Go.Proofs.YtebeckkkckijeaaDoor.E
