/- The document's table of names: May, Find, Put, Same, as the text computes them. -/
import Derived.Test.YtoccilnobgoncaaY5
namespace Go.Proofs.Ytoccilnobgoncaa.E
open Go Go.RowKit Go.Proofs
attribute [local irreducible] TK TL TQ TA Fn PV
theorem okN_iff (n : Nat) : okN n = true ↔ (97 ≤ n ∧ n ≤ 122) ∨ (65 ≤ n ∧ n ≤ 90) ∨ (48 ≤ n ∧ n ≤ 57) ∨ n = 95 := by
  simp only [okN, Bool.or_eq_true, Bool.and_eq_true, Nat.ble_eq, Nat.beq_eq]
  omega
theorem refmay_t (l : List UInt8) (Γ : List HP) (hl : l.length ≤ 1000000) : FnV Try.prog 25 [strV l] Γ fun v Γ' => v = .bool (mayB l) ∧ Γ' = Γ := by
  refine Fn.enter Try.func25 rfl rfl rfl fun E => ?_
  refine m_run ?_
  apply TK.iter (fun j ρ' Γ' => ∃ i : Nat, i + j = l.length ∧ (l.take i).all okB = true ∧ lk ρ' 0 = strV l ∧ lk ρ' 3 = .int .i64 i ∧ Γ' = Γ) l.length
  · exact ⟨0, by omega, by simp, rfl, rfl, rfl⟩
  rintro j IH ρ' Γ' ⟨i, hij, hall, e0, e3, rfl⟩
  refine TK.know2 e0 e3 ?_
  by_cases hi : i < l.length
  · have hx : l[i]? = some l[i] := by simp [hi]
    have hstep : okN l[i].toNat = true → (l.take (i + 1)).all okB = true := fun h => by
      rw [List.take_succ_eq_append_getElem hi, List.all_append, hall]
      simp only [List.all_cons, List.all_nil, Bool.and_true, Bool.true_and]; exact h
    have hbad : okN l[i].toNat = false → false = mayB l := fun h => mayB_f fun h' => by
      have := List.all_eq_true.1 h'.1 l[i] (by simp)
      have h2 : okN l[i].toNat = true := this
      rw [h] at h2; cases h2
    generalize l[i] = x at hx hstep hbad
    have hn : ∀ n : Nat, n < 48 ∨ (48 ≤ n ∧ n ≤ 57) ∨ (58 ≤ n ∧ n ≤ 64) ∨ (65 ≤ n ∧ n ≤ 90) ∨ (91 ≤ n ∧ n ≤ 94) ∨ n = 95 ∨ n = 96 ∨ (97 ≤ n ∧ n ≤ 122) ∨ 123 ≤ n := by omega
    have hok := okN_iff x.toNat
    have hbad' : ¬ okN x.toNat = true → false = mayB l := fun h => hbad (by simpa using h)
    rcases hn x.toNat with h | h | h | h | h | h | h | h | h
    · refine m_run ?_
      (apply TK.ret1; exact rfl; (exact m_val))
      exact ⟨_, rfl, congrArg Value.bool (hbad' (by rw [hok]; omega)), rfl⟩
    · refine m_run ?_
      refine IH (j - 1) _ _ (by omega) ⟨i + 1, by omega, hstep (by rw [hok]; omega), rfl, congrArg (Value.int .i64) (i64_succ i (by omega)), rfl⟩
    · refine m_run ?_
      (apply TK.ret1; exact rfl; (exact m_val))
      exact ⟨_, rfl, congrArg Value.bool (hbad' (by rw [hok]; omega)), rfl⟩
    · refine m_run ?_
      refine IH (j - 1) _ _ (by omega) ⟨i + 1, by omega, hstep (by rw [hok]; omega), rfl, congrArg (Value.int .i64) (i64_succ i (by omega)), rfl⟩
    · refine m_run ?_
      (apply TK.ret1; exact rfl; (exact m_val))
      exact ⟨_, rfl, congrArg Value.bool (hbad' (by rw [hok]; omega)), rfl⟩
    · refine m_run ?_
      refine IH (j - 1) _ _ (by omega) ⟨i + 1, by omega, hstep (by rw [hok]; omega), rfl, congrArg (Value.int .i64) (i64_succ i (by omega)), rfl⟩
    · refine m_run ?_
      (apply TK.ret1; exact rfl; (exact m_val))
      exact ⟨_, rfl, congrArg Value.bool (hbad' (by rw [hok]; omega)), rfl⟩
    · refine m_run ?_
      refine IH (j - 1) _ _ (by omega) ⟨i + 1, by omega, hstep (by rw [hok]; omega), rfl, congrArg (Value.int .i64) (i64_succ i (by omega)), rfl⟩
    · refine m_run ?_
      (apply TK.ret1; exact rfl; (exact m_val))
      exact ⟨_, rfl, congrArg Value.bool (hbad' (by rw [hok]; omega)), rfl⟩
  · rw [List.take_of_length_le (by omega)] at hall
    by_cases h2 : 0 < l.length
    · by_cases h3 : l.length ≤ 32
      · refine m_run ?_
        (apply TK.ret1; exact rfl; (exact m_val))
        exact ⟨_, rfl, congrArg Value.bool ((decide_eq_true (by omega)).trans (mayB_t hall h2 h3)), rfl⟩
      · refine m_run ?_
        (apply TK.ret1; exact rfl; (exact m_val))
        exact ⟨_, rfl, congrArg Value.bool ((decide_eq_false (by omega)).trans (mayB_f (by omega))), rfl⟩
    · refine m_run ?_
      (apply TK.ret1; exact rfl; (exact m_val))
      exact ⟨_, rfl, congrArg Value.bool (mayB_f (by omega)), rfl⟩
theorem findName_first {L : List (List UInt8)} {k : List UInt8} {i : Nat} (h : L[i]? = some k) (hf : ∀ m, m < i → L[m]? ≠ some k) : findName L k = some i := by
  cases hn : findName L k with
  | none => exact (findName_none hn (List.mem_of_getElem? h)).elim
  | some n =>
    obtain ⟨_, h2, h3⟩ := findName_some hn
    rcases Nat.lt_trichotomy n i with h4 | h4 | h4
    · exact (hf n h4 h2).elim
    · rw [h4]
    · exact (h3 i h4 h).elim
def findI (L : List (List UInt8)) (k : List UInt8) : Int := match findName L k with | some n => n | none => -1
theorem reffind_t (rt : Nat) (A : Option Addr) (c : Nat) (L : List (List UInt8)) (k : List UInt8) (Γ : List HP) (h : has Γ (fun m => cellAt m rt 0 (.slice A L.length c))) (hs : has Γ (srcAt 1 A L.length (strs L))) (hL : L.length ≤ 1000000) :
    FnV Try.prog 58 [.pointer (some ⟨rt, 0, none⟩), strV k] Γ fun v Γ' => v = .int .i64 (findI L k) ∧ Γ' = Γ := by
  refine Fn.enter Try.func58 rfl rfl rfl fun E => ?_
  refine m_run ?_
  apply TK.iter (fun j ρ' Γ' => ∃ i : Nat, i + j = L.length ∧ (∀ m, m < i → L[m]? ≠ some k) ∧ lk ρ' 0 = .pointer (some ⟨rt, 0, none⟩) ∧ lk ρ' 1 = strV k ∧ lk ρ' 5 = .int .i64 i ∧ Γ' = Γ) L.length
  · exact ⟨0, by omega, fun m hm => by omega, rfl, rfl, rfl, rfl⟩
  rintro j IH ρ' Γ' ⟨i, hij, hno, e0, e1, e5, rfl⟩
  refine TK.know3 e0 e1 e5 ?_
  by_cases hi : i < L.length
  · have hx : L[i]? = some L[i] := by simp [hi]
    generalize L[i] = x at hx
    refine TK.fact (fun m hm => src_some1 (hs m hm) (by rw [strs_length]; omega)) ?_
    rintro ⟨b, o, rfl⟩
    have hc := has_str hs hx
    by_cases hk : x = k
    · subst hk
      refine m_run ?_
      (apply TK.ret1; exact rfl; (exact m_val))
      exact ⟨_, rfl, by rw [findI, findName_first hx hno], rfl⟩
    · refine m_run ?_
      refine m_run ?_
      refine IH (j - 1) _ _ (by omega) ⟨i + 1, by omega, fun m hm => ?_, rfl, rfl, congrArg (Value.int .i64) (i64_succ i (by omega)), rfl⟩
      rcases Nat.lt_or_ge m i with h5 | h5
      · exact hno m h5
      · obtain rfl : m = i := by omega
        rw [hx]; exact fun h => hk (by injection h)
  · have hn : findName L k = none := by
      cases hn : findName L k with
      | none => rfl
      | some n =>
        obtain ⟨h1, h2, _⟩ := findName_some hn
        exact (hno n (by omega) h2).elim
    refine m_run ?_
    (apply TK.ret1; exact rfl; (exact m_val))
    exact ⟨_, rfl, by rw [findI, hn], rfl⟩
theorem samestr_t (A B : Option Addr) (c d : Nat) (L : List (List UInt8)) (Γ : List HP) (ha : has Γ (srcAt 1 A L.length (strs L))) (hb : has Γ (srcAt 1 B L.length (strs L))) (hL : L.length ≤ 1000000) :
    FnV Try.prog 38 [.slice A L.length c, .slice B L.length d] Γ fun v Γ' => v = .bool true ∧ Γ' = Γ := by
  refine Fn.enter Try.func38 rfl rfl rfl fun E => ?_
  refine m_run ?_
  apply TK.iter (fun j ρ' Γ' => ∃ i : Nat, i + j = L.length ∧ lk ρ' 0 = .slice A L.length c ∧ lk ρ' 1 = .slice B L.length d ∧ lk ρ' 5 = .int .i64 i ∧ Γ' = Γ) L.length
  · exact ⟨0, by omega, rfl, rfl, rfl, rfl⟩
  rintro j IH ρ' Γ' ⟨i, hij, e0, e1, e5, rfl⟩
  refine TK.know3 e0 e1 e5 ?_
  by_cases hi : i < L.length
  · have hx : L[i]? = some L[i] := by simp [hi]
    generalize L[i] = x at hx
    refine TK.fact (fun m hm => src_some1 (ha m hm) (by rw [strs_length]; omega)) ?_
    rintro ⟨ba, oa, rfl⟩
    refine TK.fact (fun m hm => src_some1 (hb m hm) (by rw [strs_length]; omega)) ?_
    rintro ⟨bb, ob, rfl⟩
    have hca := has_str ha hx
    have hcb := has_str hb hx
    refine m_run ?_
    refine m_quiet ?_
    refine m_run ?_
    refine IH (j - 1) _ _ (by omega) ⟨i + 1, by omega, rfl, rfl, congrArg (Value.int .i64) (i64_succ i (by omega)), rfl⟩
  · refine m_run ?_
    (apply TK.ret1; exact rfl; (exact m_val))
    exact ⟨_, rfl, rfl, rfl⟩
end Go.Proofs.Ytoccilnobgoncaa.E
