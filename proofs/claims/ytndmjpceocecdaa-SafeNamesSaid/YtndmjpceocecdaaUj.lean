/- The document on lengths of predicates: lengths, walked. -/
import Derived.Test.YtndmjpceocecdaaUi
namespace Go.Proofs.Ytndmjpceocecdaa.E
open Go Go.RowKit Go.Proofs
attribute [local irreducible] TK TL TQ TA Fn PV
abbrev clsC (l : List Cl) : List Value := l.flatMap Cl.cells
theorem clsC_len (l : List Cl) : (clsC l).length = l.length * 3 := flat_len (f := Cl.cells) (sz := 3) (fun _ => rfl) l
/-- Clauses that are handed in. -/
def clsOk (A : Option Addr) (l : List Cl) (Γ : List HP) : Prop := has Γ (srcAt 3 A l.length (clsC l)) ∧ ∀ c ∈ l, c.ok Γ ∧ c.small
theorem cls_tl {A : Option Addr} {l : List Cl} {Γ : List HP} {H : HP} (h : clsOk A l Γ) : clsOk A l (H :: Γ) := ⟨has_tls h.1, fun s hs => ⟨Cl.ok_tl (h.2 s hs).1, (h.2 s hs).2⟩⟩
theorem allA_snoc {l : List Cl} {i : Nat} {c : Cl} (h : l[i]? = some c) : allA (l.take (i + 1)) = allA (l.take i) ++ atomsOf c := by
  unfold allA
  rw [List.take_add_one, h, List.flatMap_append]
  simp
theorem allA_le {l : List Cl} (i : Nat) : (allA (l.take i)).length ≤ (allA l).length := by
  have : allA l = allA (l.take i) ++ allA (l.drop i) := by unfold allA; rw [← List.flatMap_append, List.take_append_drop]
  rw [this, List.length_append]; omega
def PairOk (M : List (Nat × Nat)) (i k : Nat) : Prop := ∀ (x y : Nat) (a b : Nat × Nat), (x < i ∧ y < x ∨ x = i ∧ y < k) → M[x]? = some a → M[y]? = some b → a.1 = b.1 → a.2 = b.2
theorem pair_cons {M : List (Nat × Nat)} (h : PairOk M M.length 0) : Cons M := by
  intro a ha b hb e
  obtain ⟨x, hx, hxa⟩ := List.mem_iff_getElem.1 ha
  obtain ⟨y, hy, hyb⟩ := List.mem_iff_getElem.1 hb
  have hx' : M[x]? = some a := by rw [List.getElem?_eq_getElem hx, hxa]
  have hy' : M[y]? = some b := by rw [List.getElem?_eq_getElem hy, hyb]
  rcases Nat.lt_trichotomy x y with hl | hl | hl
  · exact (h y x b a (.inl ⟨hy, hl⟩) hy' hx' e.symm).symm
  · subst hl
    rw [hx'] at hy'; injection hy' with hy'; rw [hy']
  · exact h x y a b (.inl ⟨hx, hl⟩) hx' hy' e
theorem pair_next {M : List (Nat × Nat)} {i : Nat} (h : PairOk M i i) : PairOk M (i + 1) 0 := fun x y a b hxy => h x y a b (by omega)
theorem pair_step {M : List (Nat × Nat)} {i k : Nat} {a b : Nat × Nat} (h : PairOk M i k) (ha : M[i]? = some a) (hb : M[k]? = some b) (hab : a.1 = b.1 → a.2 = b.2) : PairOk M i (k + 1) := by
  intro x y c d hxy hc hd e
  by_cases hy : x = i ∧ y = k
  · obtain ⟨rfl, rfl⟩ := hy
    rw [ha] at hc; rw [hb] at hd
    injection hc with hc; injection hd with hd
    subst hc; subst hd
    exact hab e
  · exact h x y c d (by omega) hc hd e
set_option maxRecDepth 100000 in
set_option maxHeartbeats 4000000 in
theorem rlengths_t (A : Option Addr) (cc : Nat) (l : List Cl) (Γ : List HP) (h : clsOk A l Γ) (hn : l.length ≤ 1000000) (hall : (allA l).length ≤ 1000000) : FnV Try.prog 47 [.slice A l.length cc] Γ fun r Γ' => r = .bool (consB (atsL l)) ∧ Γ' = Γ := by
  refine Fn.enter Try.func47 rfl rfl rfl fun E => ?_
  refine TK.free (H := own 33 2 (.slice none 0 0) 0 []) (fun m hm => own_nil _ _ hm) ?_
  refine m_run ?_
  apply TK.iter (fun j ρ' Γ' => ∃ (i : Nat) (B : Option Addr) (k : Nat), l.length = i + j ∧ lk ρ' 0 = .slice A l.length cc ∧ lk ρ' 3 = .slice B (allA (l.take i)).length k ∧ lk ρ' 4 = .int .i64 (i : Int) ∧ Γ' = own 33 2 (.slice B (allA (l.take i)).length k) (allA (l.take i)).length (atmsC (allA (l.take i))) :: Γ) l.length
  · exact ⟨0, none, 0, by omega, rfl, rfl, rfl, rfl⟩
  rintro j IH ρ' _ ⟨i, B, k, hj, e0, e3, e4, rfl⟩
  refine TK.know3 e0 e3 e4 ?_
  by_cases hi : i < l.length
  · obtain ⟨c, hc⟩ : ∃ c, l[i]? = some c := ⟨l[i], List.getElem?_eq_getElem hi⟩
    have hcm := List.mem_of_getElem? hc
    refine TK.mem fun m0 hm0 => ?_
    obtain ⟨b, o, rfl⟩ := src_some (has_tls h.1 m0 hm0) (by rw [clsC_len]; omega)
    clear hm0 m0
    have hel := has_el (sz := 3) (f := Cl.cells) (fun _ => rfl) (by decide) h.1 hc
    have hsn := allA_snoc hc
    have hle := allA_le (l := l) (i + 1)
    have hlen : (allA (l.take (i + 1))).length = (allA (l.take i)).length + (atomsOf c).length := by rw [hsn, List.length_append]
    refine m_run ?_
    (apply TL.callV; exact rfl; exact callB_of (by kernel_rfl); exact rfl; exact fun _ h => h)
    exact atoms_t c _ (Cl.ok_tl (h.2 c hcm).1) (h.2 c hcm).2
    rintro _ _ ⟨B2, k2, hk2, rfl, rfl⟩
    refine m_run ?_
    (apply TL.append 1; exact rfl; exact rfl; exact tb rfl; exact rfl; exact tb rfl; exact rfl; exact rfl; exact rfl)
    · exact fun _ h => h
    · exact rfl
    · exact has_at (up_src _ _ _ _) 0 rfl fun _ h => own_src h
    · exact atmsC_one _
    · show ((allA (l.take i)).length + (atomsOf c).length) * 32 ≤ _; omega
    · show (allA (l.take i)).length + (atomsOf c).length ≤ maxLen; unfold maxLen; omega
    · exact fun _ => (rfl : _ = _ :: _ :: _)
    intro B3 k3 hk3
    rw [show atmsC (allA (l.take i)) ++ atmsC (atomsOf c) = atmsC (allA (l.take (i + 1))) by rw [hsn]; simp [atmsC], ← hlen]
    refine m_run ?_
    refine TK.drop ?_
    exact IH (j - 1) _ _ (by omega) ⟨i + 1, B3, k3, by omega, rfl, rfl, congrArg (Value.int .i64) (i64_succ i (by omega)), rfl⟩
  rw [List.take_of_length_le (by omega)] at e3 ⊢
  clear IH
  have hM := allA_ats l
  generalize hML : atsL l = M at *
  generalize allA l = X at *
  have hXM : M.length = X.length := by rw [← hM, List.length_map]
  refine m_run ?_
  apply TK.iter (fun j ρ' Γ' => ∃ (i : Nat), X.length = i + j ∧ PairOk M i 0 ∧ lk ρ' 3 = .slice B X.length k ∧ lk ρ' 5 = .int .i64 (i : Int) ∧ Γ' = own 33 2 (.slice B X.length k) X.length (atmsC X) :: Γ) X.length
  · exact ⟨0, by omega, fun x y a b hxy => by omega, rfl, rfl, rfl⟩
  rintro j IH ρ2 _ ⟨i, hj, hP, e3, e5, rfl⟩
  refine TK.know2 e3 e5 ?_
  by_cases hi : i < X.length
  · obtain ⟨a, ha⟩ : ∃ a, X[i]? = some a := ⟨X[i], List.getElem?_eq_getElem hi⟩
    have ha' : M[i]? = some (a.p, a.l.length) := by rw [← hM, List.getElem?_map, ha]; rfl
    refine m_run ?_
    apply TK.iter (fun j ρ' Γ' => ∃ (q : Nat), i = q + j ∧ PairOk M i q ∧ lk ρ' 3 = .slice B X.length k ∧ lk ρ' 5 = .int .i64 (i : Int) ∧ lk ρ' 6 = .int .i64 (q : Int) ∧ Γ' = own 33 2 (.slice B X.length k) X.length (atmsC X) :: Γ) i
    · exact ⟨0, by omega, hP, rfl, rfl, rfl, rfl⟩
    rintro j2 IH2 ρ3 _ ⟨q, hq, hPq, f3, f5, f6, rfl⟩
    refine TK.know3 f3 f5 f6 ?_
    by_cases hqi : q < i
    · obtain ⟨d, hd⟩ : ∃ d, X[q]? = some d := ⟨X[q], List.getElem?_eq_getElem (by omega)⟩
      have hd' : M[q]? = some (d.p, d.l.length) := by rw [← hM, List.getElem?_map, hd]; rfl
      refine TK.mem fun m0 hm0 => ?_
      obtain ⟨g, rfl⟩ := own_addr hm0 (by omega)
      clear hm0 m0
      have hown : has (own 33 2 (.slice (some ⟨g, 0, none⟩) X.length k) X.length (atmsC X) :: Γ) (srcAt 2 (some ⟨g, 0, none⟩) X.length (atmsC X)) := has_at (up_src _ _ _ _) 0 rfl fun _ h => own_src h
      have hia := has_el (sz := 2) (f := Atm.cells) (fun _ => rfl) (by decide) hown ha
      have hqa := has_el (sz := 2) (f := Atm.cells) (fun _ => rfl) (by decide) hown hd
      rw [Nat.zero_add] at hia hqa
      have hi0 := has_cell hia 0 rfl
      have hi1 := has_cell hia 1 rfl
      have hq0 := has_cell hqa 0 rfl
      have hq1 := has_cell hqa 1 rfl
      by_cases hp : a.p = d.p
      · by_cases hl : a.l.length = d.l.length
        · refine m_run ?_
          refine m_quiet ?_
          refine m_run ?_
          exact IH2 (j2 - 1) _ _ (by omega) ⟨q + 1, by omega, pair_step hPq ha' hd' (fun _ => hl), rfl, rfl, congrArg (Value.int .i64) (i64_succ q (by omega)), rfl⟩
        · have hno : consB M = false := by
            rw [← Bool.not_eq_true, consB_iff]
            intro hC
            exact hl (hC _ (List.mem_of_getElem? ha') _ (List.mem_of_getElem? hd') hp)
          refine m_run ?_
          refine m_quiet ?_
          refine m_run ?_
          (apply TK.retS1; exact rfl; exact rfl; (exact m_val))
          exact ⟨_, rfl, congrArg Value.bool hno.symm, rfl⟩
          (repeat (first | exact List.Sublist.refl _ | apply List.Sublist.cons_cons | apply List.Sublist.cons))
      · refine m_run ?_
        refine m_quiet ?_
        refine m_run ?_
        exact IH2 (j2 - 1) _ _ (by omega) ⟨q + 1, by omega, pair_step hPq ha' hd' (fun e => absurd e hp), rfl, rfl, congrArg (Value.int .i64) (i64_succ q (by omega)), rfl⟩
    · obtain rfl : q = i := by omega
      refine m_run ?_
      exact IH (j - 1) _ _ (by omega) ⟨q + 1, by omega, pair_next hPq, rfl, congrArg (Value.int .i64) (i64_succ q (by omega)), rfl⟩
  · obtain rfl : i = X.length := by omega
    rw [← hXM] at hP
    have hyes : consB M = true := consB_iff.2 (pair_cons hP)
    refine m_run ?_
    (apply TK.retS1; exact rfl; exact rfl; (exact m_val))
    exact ⟨_, rfl, congrArg Value.bool hyes.symm, rfl⟩
    (repeat (first | exact List.Sublist.refl _ | apply List.Sublist.cons_cons | apply List.Sublist.cons))
end Go.Proofs.Ytndmjpceocecdaa.E
