/- My own texts, one behind the other: Mr Nc Yi Yj Yk Sza Sin Yl Ym TiA TiB Yn Yo Yp Yq Yr Yt Yu Yv Nd Ma. -/
import Derived.Test.YthbcfamfaicneaaPc4
import Derived.Test.YthbcfamfaicneaaPc1
import Derived.Test.YthbcfamfaicneaaPc3
import Derived.Test.YthbcfamfaicneaaPc2
import Derived.Sort.AssemblyPlain
/- The document on which programs may be: atoms, lengths, Right, Arities (taken from the texts on programs). -/
namespace Go.Proofs.Ythbcfamfaicneaa.E
open Go Go.RowKit Go.Proofs
attribute [local irreducible] TK TL TQ TA Fn PV
/-! ### all atoms -/
def atomsOf (c : Cl) : List Atm := c.h :: c.l.map (·.a)
def allA (l : List Cl) : List Atm := l.flatMap atomsOf
abbrev atmsC (l : List Atm) : List Value := l.flatMap Atm.cells
theorem atmsC_len (l : List Atm) : (atmsC l).length = l.length * 2 := flat_len (f := Atm.cells) (sz := 2) (fun _ => rfl) l
theorem atmsC_one (l : List Atm) : ∀ u ∈ atmsC l, u.oneCell' = true := by
  intro u hu
  obtain ⟨p, _, hp⟩ := List.mem_flatMap.1 hu
  simp only [Atm.cells, List.mem_cons, List.not_mem_nil, or_false] at hp
  rcases hp with rfl | rfl <;> rfl
theorem allA_ats (l : List Cl) : (allA l).map (fun a => (a.p, a.l.length)) = atsL l := by
  induction l with
  | nil => rfl
  | cons c l ih =>
    simp only [allA, atsL, List.flatMap_cons, List.map_append] at ih ⊢
    rw [ih]
    congr 1
    simp [atomsOf, atsOf]
set_option maxRecDepth 100000 in
set_option maxHeartbeats 4000000 in
theorem atoms_t (c : Cl) (Γ : List HP) (h : c.ok Γ) (hn : c.small) : FnV Try.prog 44 [.agg c.cells.toArray] Γ fun r Γ' => ∃ B k, (atomsOf c).length ≤ k ∧ r = .slice B (atomsOf c).length k ∧ Γ' = own 41 2 (.slice B (atomsOf c).length k) (atomsOf c).length (atmsC (atomsOf c)) :: Γ := by
  refine Fn.enter Try.func44 rfl rfl rfl fun E => ?_
  have hL0 : has Γ (srcAt 3 c.A c.l.length (ltsC c.l)) := h.2.1
  have hn1 : c.l.length ≤ 1000000 := hn.1
  refine m_run ?_
  (apply TL.box; exact rfl; exact rfl; (exact m_lst))
  intro b1
  refine TL.imp (Δ := row b1 [.int .u32 (c.h.p : Int), .slice c.h.A c.h.l.length c.h.c, .slice c.A c.l.length c.c] 68 :: Γ) (fun _ h => h) ?_
  have hb1 : has (row b1 [.int .u32 (c.h.p : Int), .slice c.h.A c.h.l.length c.h.c, .slice c.A c.l.length c.c] 68 :: Γ) (fun m => cellsAt m b1 0 c.h.cells) := has_rows 0 rfl rfl
  refine m_run ?_
  (apply TL.buildSlice (l := c.h.cells); exact rfl; exact tb rfl; exact rfl; exact tb rfl; exact rfl; exact rfl; exact rfl; exact rfl; exact rfl)
  intro b7
  refine m_run ?_
  refine TK.imp (Δ := own 41 2 (.slice (some ⟨b7, 0, none⟩) 1 1) 1 (atmsC (c.h :: (c.l.take 0).map (·.a))) :: row b1 [.int .u32 (c.h.p : Int), .slice c.h.A c.h.l.length c.h.c, .slice c.A c.l.length c.c] 68 :: Γ) (fun m hm => sep_mono hm (fun _ h => own_row (by simp [atmsC, Atm.cells]) (by decide) (by simpa [atmsC] using h)) (fun _ h => h)) ?_
  apply TK.iter (fun j ρ' Γ' => ∃ (i : Nat) (B : Option Addr) (k : Nat), c.l.length = i + j ∧ i + 1 ≤ k ∧ lk ρ' 1 = .pointer (some ⟨b1, 0, none⟩) ∧ lk ρ' 3 = .slice B (i + 1) k ∧ lk ρ' 4 = .int .i64 (i : Int) ∧ Γ' = own 41 2 (.slice B (i + 1) k) (i + 1) (atmsC (c.h :: (c.l.take i).map (·.a))) :: row b1 [.int .u32 (c.h.p : Int), .slice c.h.A c.h.l.length c.h.c, .slice c.A c.l.length c.c] 68 :: Γ) c.l.length
  · exact ⟨0, some ⟨b7, 0, none⟩, 1, by omega, Nat.le_refl _, rfl, rfl, rfl, rfl⟩
  rintro j IH ρ' _ ⟨i, B, k, hj, hk, e1, e3, e4, rfl⟩
  refine TK.know3 e1 e3 e4 ?_
  by_cases hi : i < c.l.length
  · obtain ⟨x, hx⟩ : ∃ x, c.l[i]? = some x := ⟨c.l[i], List.getElem?_eq_getElem hi⟩
    refine TK.mem fun m0 hm0 => ?_
    obtain ⟨b, o, hA⟩ := src_some (has_tls (has_tls hL0) m0 hm0) (by rw [ltsC_len]; omega)
    clear hm0 m0
    have hL1 := hL0
    rw [hA] at hL1
    obtain ⟨_, _, hat⟩ := has_lit hL1 hx
    have hc2 : has (own 41 2 (.slice B (i + 1) k) (i + 1) (atmsC (c.h :: (c.l.take i).map (·.a))) :: row b1 [.int .u32 (c.h.p : Int), .slice c.h.A c.h.l.length c.h.c, .slice c.A c.l.length c.c] 68 :: Γ) (fun m => cellAt m b1 2 (.slice (some ⟨b, o, none⟩) c.l.length c.c)) := by rw [← hA]; exact has_row 1 rfl rfl
    refine m_run ?_
    (apply TL.buildSlice (l := x.a.cells); exact rfl; exact tb rfl; exact rfl; exact tb rfl; exact rfl; exact rfl; exact rfl; exact rfl; exact rfl)
    intro b22
    refine m_run ?_
    (apply TL.append 1; exact rfl; exact rfl; exact tb rfl; exact rfl; exact tb rfl; exact rfl; exact rfl; exact rfl)
    · exact fun _ h => h
    · exact rfl
    · exact has_src_row 0 rfl rfl
    · exact atmsC_one [x.a]
    · show (i + 1 + 1) * 32 ≤ _; omega
    · show i + 1 + 1 ≤ maxLen; unfold maxLen; omega
    · exact fun _ => (rfl : _ = _ :: _ :: _)
    intro B2 k2 hk2
    rw [show atmsC (c.h :: (c.l.take i).map (·.a)) ++ x.a.cells = atmsC (c.h :: (c.l.take (i + 1)).map (·.a)) by rw [List.take_add_one, hx]; simp [atmsC]]
    refine m_run ?_
    refine TK.drop ?_
    exact IH (j - 1) _ _ (by omega) ⟨i + 1, B2, k2, by omega, hk2, rfl, rfl, congrArg (Value.int .i64) (i64_succ i (by omega)), rfl⟩
  · obtain rfl : i = c.l.length := by omega
    have hlen : (atomsOf c).length = c.l.length + 1 := by simp [atomsOf]
    rw [List.take_length]
    rw [← hlen] at hk ⊢
    refine m_run ?_
    (apply TK.retS1; exact rfl; exact rfl; (exact m_val))
    exact ⟨_, rfl, B, k, hk, rfl, rfl⟩
    (repeat (first | exact List.Sublist.refl _ | apply List.Sublist.cons_cons | apply List.Sublist.cons))
abbrev clsC (l : List Cl) : List Value := l.flatMap Cl.cells
theorem clsC_len (l : List Cl) : (clsC l).length = l.length * 3 := flat_len (f := Cl.cells) (sz := 3) (fun _ => rfl) l
/-- Clauses that are handed in. -/
def clsOk (A : Option Addr) (l : List Cl) (Γ : List HP) : Prop := has Γ (srcAt 3 A l.length (clsC l)) ∧ ∀ c ∈ l, c.ok Γ ∧ c.small
theorem allA_snoc {l : List Cl} {i : Nat} {c : Cl} (h : l[i]? = some c) : allA (l.take (i + 1)) = allA (l.take i) ++ atomsOf c := by
  unfold allA
  rw [List.take_add_one, h, List.flatMap_append]
  simp
theorem allA_le {l : List Cl} (i : Nat) : (allA (l.take i)).length ≤ (allA l).length := by
  have : allA l = allA (l.take i) ++ allA (l.drop i) := by unfold allA; rw [← List.flatMap_append, List.take_append_drop]
  rw [this, List.length_append]; omega
def PairOk (M : List (Nat × Nat)) (i k : Nat) : Prop := ∀ (x y : Nat) (a b : Nat × Nat), (x < i ∧ y < x ∨ x = i ∧ y < k) → M[x]? = some a → M[y]? = some b → a.1 = b.1 → a.2 = b.2
theorem pair_cons {M : List (Nat × Nat)} (h : PairOk M M.length 0) : Cons M := by
  intro a ha b hb e
  obtain ⟨x, hx, hxa⟩ := List.mem_iff_getElem.1 ha
  obtain ⟨y, hy, hyb⟩ := List.mem_iff_getElem.1 hb
  have hx' : M[x]? = some a := by rw [List.getElem?_eq_getElem hx, hxa]
  have hy' : M[y]? = some b := by rw [List.getElem?_eq_getElem hy, hyb]
  rcases Nat.lt_trichotomy x y with hl | hl | hl
  · exact (h y x b a (.inl ⟨hy, hl⟩) hy' hx' e.symm).symm
  · subst hl
    rw [hx'] at hy'; injection hy' with hy'; rw [hy']
  · exact h x y a b (.inl ⟨hx, hl⟩) hx' hy' e
theorem pair_next {M : List (Nat × Nat)} {i : Nat} (h : PairOk M i i) : PairOk M (i + 1) 0 := fun x y a b hxy => h x y a b (by omega)
theorem pair_step {M : List (Nat × Nat)} {i k : Nat} {a b : Nat × Nat} (h : PairOk M i k) (ha : M[i]? = some a) (hb : M[k]? = some b) (hab : a.1 = b.1 → a.2 = b.2) : PairOk M i (k + 1) := by
  intro x y c d hxy hc hd e
  by_cases hy : x = i ∧ y = k
  · obtain ⟨rfl, rfl⟩ := hy
    rw [ha] at hc; rw [hb] at hd
    injection hc with hc; injection hd with hd
    subst hc; subst hd
    exact hab e
  · exact h x y c d (by omega) hc hd e
set_option maxRecDepth 100000 in
set_option maxHeartbeats 4000000 in
theorem rlengths_t (A : Option Addr) (cc : Nat) (l : List Cl) (Γ : List HP) (h : clsOk A l Γ) (hn : l.length ≤ 1000000) (hall : (allA l).length ≤ 1000000) : FnV Try.prog 96 [.slice A l.length cc] Γ fun r Γ' => r = .bool (consB (atsL l)) ∧ Γ' = Γ := by
  refine Fn.enter Try.func96 rfl rfl rfl fun E => ?_
  refine TK.free (H := own 41 2 (.slice none 0 0) 0 []) (fun m hm => own_nil _ _ hm) ?_
  refine m_run ?_
  apply TK.iter (fun j ρ' Γ' => ∃ (i : Nat) (B : Option Addr) (k : Nat), l.length = i + j ∧ lk ρ' 0 = .slice A l.length cc ∧ lk ρ' 3 = .slice B (allA (l.take i)).length k ∧ lk ρ' 4 = .int .i64 (i : Int) ∧ Γ' = own 41 2 (.slice B (allA (l.take i)).length k) (allA (l.take i)).length (atmsC (allA (l.take i))) :: Γ) l.length
  · exact ⟨0, none, 0, by omega, rfl, rfl, rfl, rfl⟩
  rintro j IH ρ' _ ⟨i, B, k, hj, e0, e3, e4, rfl⟩
  refine TK.know3 e0 e3 e4 ?_
  by_cases hi : i < l.length
  · obtain ⟨c, hc⟩ : ∃ c, l[i]? = some c := ⟨l[i], List.getElem?_eq_getElem hi⟩
    have hcm := List.mem_of_getElem? hc
    refine TK.mem fun m0 hm0 => ?_
    obtain ⟨b, o, rfl⟩ := src_some (has_tls h.1 m0 hm0) (by rw [clsC_len]; omega)
    clear hm0 m0
    have hel := has_el (sz := 3) (f := Cl.cells) (fun _ => rfl) (by decide) h.1 hc
    have hsn := allA_snoc hc
    have hle := allA_le (l := l) (i + 1)
    have hlen : (allA (l.take (i + 1))).length = (allA (l.take i)).length + (atomsOf c).length := by rw [hsn, List.length_append]
    refine m_run ?_
    (apply TL.callV; exact rfl; exact callB_of (by kernel_rfl); exact rfl; exact fun _ h => h)
    exact atoms_t c _ (Cl.ok_tl (h.2 c hcm).1) (h.2 c hcm).2
    rintro _ _ ⟨B2, k2, hk2, rfl, rfl⟩
    refine m_run ?_
    (apply TL.append 1; exact rfl; exact rfl; exact tb rfl; exact rfl; exact tb rfl; exact rfl; exact rfl; exact rfl)
    · exact fun _ h => h
    · exact rfl
    · exact has_at (up_src _ _ _ _) 0 rfl fun _ h => own_src h
    · exact atmsC_one _
    · show ((allA (l.take i)).length + (atomsOf c).length) * 32 ≤ _; omega
    · show (allA (l.take i)).length + (atomsOf c).length ≤ maxLen; unfold maxLen; omega
    · exact fun _ => (rfl : _ = _ :: _ :: _)
    intro B3 k3 hk3
    rw [show atmsC (allA (l.take i)) ++ atmsC (atomsOf c) = atmsC (allA (l.take (i + 1))) by rw [hsn]; simp [atmsC], ← hlen]
    refine m_run ?_
    refine TK.drop ?_
    exact IH (j - 1) _ _ (by omega) ⟨i + 1, B3, k3, by omega, rfl, rfl, congrArg (Value.int .i64) (i64_succ i (by omega)), rfl⟩
  rw [List.take_of_length_le (by omega)] at e3 ⊢
  clear IH
  have hM := allA_ats l
  generalize hML : atsL l = M at *
  generalize allA l = X at *
  have hXM : M.length = X.length := by rw [← hM, List.length_map]
  refine m_run ?_
  apply TK.iter (fun j ρ' Γ' => ∃ (i : Nat), X.length = i + j ∧ PairOk M i 0 ∧ lk ρ' 3 = .slice B X.length k ∧ lk ρ' 5 = .int .i64 (i : Int) ∧ Γ' = own 41 2 (.slice B X.length k) X.length (atmsC X) :: Γ) X.length
  · exact ⟨0, by omega, fun x y a b hxy => by omega, rfl, rfl, rfl⟩
  rintro j IH ρ2 _ ⟨i, hj, hP, e3, e5, rfl⟩
  refine TK.know2 e3 e5 ?_
  by_cases hi : i < X.length
  · obtain ⟨a, ha⟩ : ∃ a, X[i]? = some a := ⟨X[i], List.getElem?_eq_getElem hi⟩
    have ha' : M[i]? = some (a.p, a.l.length) := by rw [← hM, List.getElem?_map, ha]; rfl
    refine m_run ?_
    apply TK.iter (fun j ρ' Γ' => ∃ (q : Nat), i = q + j ∧ PairOk M i q ∧ lk ρ' 3 = .slice B X.length k ∧ lk ρ' 5 = .int .i64 (i : Int) ∧ lk ρ' 6 = .int .i64 (q : Int) ∧ Γ' = own 41 2 (.slice B X.length k) X.length (atmsC X) :: Γ) i
    · exact ⟨0, by omega, hP, rfl, rfl, rfl, rfl⟩
    rintro j2 IH2 ρ3 _ ⟨q, hq, hPq, f3, f5, f6, rfl⟩
    refine TK.know3 f3 f5 f6 ?_
    by_cases hqi : q < i
    · obtain ⟨d, hd⟩ : ∃ d, X[q]? = some d := ⟨X[q], List.getElem?_eq_getElem (by omega)⟩
      have hd' : M[q]? = some (d.p, d.l.length) := by rw [← hM, List.getElem?_map, hd]; rfl
      refine TK.mem fun m0 hm0 => ?_
      obtain ⟨g, rfl⟩ := own_addr hm0 (by omega)
      clear hm0 m0
      have hown : has (own 41 2 (.slice (some ⟨g, 0, none⟩) X.length k) X.length (atmsC X) :: Γ) (srcAt 2 (some ⟨g, 0, none⟩) X.length (atmsC X)) := has_at (up_src _ _ _ _) 0 rfl fun _ h => own_src h
      have hia := has_el (sz := 2) (f := Atm.cells) (fun _ => rfl) (by decide) hown ha
      have hqa := has_el (sz := 2) (f := Atm.cells) (fun _ => rfl) (by decide) hown hd
      rw [Nat.zero_add] at hia hqa
      have hi0 := has_cell hia 0 rfl
      have hi1 := has_cell hia 1 rfl
      have hq0 := has_cell hqa 0 rfl
      have hq1 := has_cell hqa 1 rfl
      by_cases hp : a.p = d.p
      · by_cases hl : a.l.length = d.l.length
        · refine m_run ?_
          refine m_quiet ?_
          refine m_run ?_
          exact IH2 (j2 - 1) _ _ (by omega) ⟨q + 1, by omega, pair_step hPq ha' hd' (fun _ => hl), rfl, rfl, congrArg (Value.int .i64) (i64_succ q (by omega)), rfl⟩
        · have hno : consB M = false := by
            rw [← Bool.not_eq_true, consB_iff]
            intro hC
            exact hl (hC _ (List.mem_of_getElem? ha') _ (List.mem_of_getElem? hd') hp)
          refine m_run ?_
          refine m_quiet ?_
          refine m_run ?_
          (apply TK.retS1; exact rfl; exact rfl; (exact m_val))
          exact ⟨_, rfl, congrArg Value.bool hno.symm, rfl⟩
          (repeat (first | exact List.Sublist.refl _ | apply List.Sublist.cons_cons | apply List.Sublist.cons))
      · refine m_run ?_
        refine m_quiet ?_
        refine m_run ?_
        exact IH2 (j2 - 1) _ _ (by omega) ⟨q + 1, by omega, pair_step hPq ha' hd' (fun e => absurd e hp), rfl, rfl, congrArg (Value.int .i64) (i64_succ q (by omega)), rfl⟩
    · obtain rfl : q = i := by omega
      refine m_run ?_
      exact IH (j - 1) _ _ (by omega) ⟨q + 1, by omega, pair_next hPq, rfl, congrArg (Value.int .i64) (i64_succ q (by omega)), rfl⟩
  · obtain rfl : i = X.length := by omega
    rw [← hXM] at hP
    have hyes : consB M = true := consB_iff.2 (pair_cons hP)
    refine m_run ?_
    (apply TK.retS1; exact rfl; exact rfl; (exact m_val))
    exact ⟨_, rfl, congrArg Value.bool hyes.symm, rfl⟩
    (repeat (first | exact List.Sublist.refl _ | apply List.Sublist.cons_cons | apply List.Sublist.cons))
/-- What Right answers. -/
def RightIs (l : List Cl) (v : Value) : Prop := ∃ (n : Nat) (e : Int), v = .tuple #[.int .i64 (n : Int), .int .i64 e] ∧ Res l n e
set_option maxRecDepth 100000 in
set_option maxHeartbeats 4000000 in
theorem rright_t (A : Option Addr) (cc : Nat) (l : List Cl) (Γ : List HP) (h : clsOk A l Γ) (hcc : l.length ≤ cc) (hn : l.length ≤ 1000000) (hall : l.length ≤ 400 → (allA l).length ≤ 1000000) : FnV Try.prog 59 [.slice A l.length cc] Γ fun v Γ' => RightIs l v ∧ Γ' = Γ := by
  refine Fn.enter Try.func59 rfl rfl rfl fun E => ?_
  by_cases h400 : 400 < l.length
  · refine m_run ?_
    (apply TK.ret2; exact rfl; exact rfl; (exact m_val); (exact m_val))
    exact ⟨_, rfl, ⟨0, 6, rfl, .inl ⟨h400, rfl, rfl⟩⟩, rfl⟩
  have h4 : l.length ≤ 400 := by omega
  replace hall := hall h4
  refine m_run ?_
  apply TK.iter (fun j ρ' Γ' => ∃ (i : Nat), l.length = i + j ∧ okTo l i ∧ lk ρ' 0 = .slice A l.length cc ∧ lk ρ' 4 = .int .i64 (i : Int) ∧ Γ' = Γ) l.length
  · exact ⟨0, by omega, fun k c hk => by omega, rfl, rfl, rfl⟩
  rintro j IH ρ' _ ⟨i, hj, hok, e0, e4, rfl⟩
  refine TK.know2 e0 e4 ?_
  by_cases hi : i < l.length
  · obtain ⟨c, hc⟩ : ∃ c, l[i]? = some c := ⟨l[i], List.getElem?_eq_getElem hi⟩
    have hcm := List.mem_of_getElem? hc
    obtain ⟨hco, hcs⟩ := h.2 c hcm
    refine TK.mem fun m0 hm0 => ?_
    obtain ⟨b, o, rfl⟩ := src_some (h.1 m0 hm0) (by rw [clsC_len]; omega)
    clear hm0 m0
    have hel := has_el (sz := 3) (f := Cl.cells) (fun _ => rfl) (by decide) h.1 hc
    have hwr : wrong1 (atsL (l.take i)) c = if mayC c then (if heldC c then (if consB (atsL (l.take i) ++ atsOf c) then 0 else 9) else 10) else 8 := rfl
    refine m_run ?_
    (apply TL.callV; exact rfl; exact callB_of (by kernel_rfl); exact rfl; exact fun _ h => h)
    exact rmay_t c _ hco hcs
    rintro _ Γ ⟨rfl, rfl⟩
    cases hmay : mayC c with
    | false =>
      rw [hmay] at hwr
      refine m_run ?_
      (apply TK.ret2; exact rfl; exact rfl; (exact m_val); (exact m_val))
      exact ⟨_, rfl, ⟨i, 8, rfl, .inr ⟨h4, .inl ⟨c, hc, hok, hwr.symm, by decide⟩⟩⟩, rfl⟩
    | true =>
    rw [hmay] at hwr
    refine m_run ?_
    (apply TL.callV; exact rfl; exact callB_of (by kernel_rfl); exact rfl; exact fun _ h => h)
    exact rsafe_t c _ hco hcs
    rintro _ Γ ⟨rfl, rfl⟩
    cases hheld : heldC c with
    | false =>
      rw [hheld] at hwr
      refine m_run ?_
      (apply TK.ret2; exact rfl; exact rfl; (exact m_val); (exact m_val))
      exact ⟨_, rfl, ⟨i, 10, rfl, .inr ⟨h4, .inl ⟨c, hc, hok, hwr.symm, by decide⟩⟩⟩, rfl⟩
    | true =>
    rw [hheld] at hwr
    refine m_run ?_
    refine TL.know (t := 30) (v := .int .i64 ((i + 1 : Nat) : Int)) (congrArg (Value.int .i64) (i64_succ i (by omega))) ?_
    (apply TL.sliceS (i := 0) (j := i + 1) (news := clsC l); exact rfl; exact rfl; exact tb rfl; exact rfl; exact tb rfl; exact .none; exact .some rfl; exact h.1; exact Nat.zero_le _; exact hi; exact hcc)
    intro A' hA'
    have htl : (l.take (i + 1)).length = i + 1 := by rw [List.length_take]; omega
    have hA2 : clsOk A' (l.take (i + 1)) Γ := by
      refine ⟨?_, fun c hc => h.2 c (List.mem_of_mem_take hc)⟩
      rw [htl, clsC, flat_take (f := Cl.cells) (sz := 3) (fun _ => rfl)]
      simpa using hA'
    have hl := rlengths_t A' (cc - 0) (l.take (i + 1)) Γ hA2 (by omega) (Nat.le_trans (allA_le (i + 1)) hall)
    rw [htl, atsL_snoc hc] at hl
    refine m_run ?_
    (apply TL.callV; exact rfl; exact callB_of (by kernel_rfl); exact rfl; exact fun _ h => h)
    exact hl
    rintro _ Γ ⟨rfl, rfl⟩
    cases hcon : consB (atsL (l.take i) ++ atsOf c) with
    | false =>
      rw [hcon] at hwr
      refine m_run ?_
      (apply TK.ret2; exact rfl; exact rfl; (exact m_val); (exact m_val))
      exact ⟨_, rfl, ⟨i, 9, rfl, .inr ⟨h4, .inl ⟨c, hc, hok, hwr.symm, by decide⟩⟩⟩, rfl⟩
    | true =>
      rw [hcon] at hwr
      refine m_run ?_
      exact IH (j - 1) _ _ (by omega) ⟨i + 1, by omega, okTo_snoc hok hc hwr, rfl, congrArg (Value.int .i64) (i64_succ i (by omega)), rfl⟩
  · obtain rfl : i = l.length := by omega
    refine m_run ?_
    (apply TK.ret2; exact rfl; exact rfl; (exact m_val); (exact m_val))
    exact ⟨_, rfl, ⟨0, 0, rfl, .inr ⟨h4, .inr ⟨hok, rfl, rfl⟩⟩⟩, rfl⟩
abbrev fcsC (l : List Fct) : List Value := l.flatMap Fct.cells
theorem fcsC_len (l : List Fct) : (fcsC l).length = l.length * 2 := flat_len (f := Fct.cells) (sz := 2) (fun _ => rfl) l
theorem src_block {A : Option Addr} {n c e sz : Nat} {cs : List Value} {m : Mem} (h : own e sz (.slice A n c) n cs m) (h0 : 0 < n) : ∃ g, A = some ⟨g, 0, none⟩ := by
  obtain ⟨_, ⟨_, h, _⟩ | ⟨g, cap, cur, hv, _⟩⟩ := h
  · omega
  · injection hv with hv _ _
    exact ⟨g, hv⟩
/-- What Arities answers. -/
def ArIs (L : List (Nat × Nat)) (fs : List Fct) (v : Value) : Prop := ∃ (n : Nat) (e : Int), v = .tuple #[.int .i64 (n : Int), .int .i64 e] ∧ ResA L fs n e
set_option maxRecDepth 100000 in
set_option maxHeartbeats 8000000 in
theorem rarities_t (A F : Option Addr) (cc fc : Nat) (l : List Cl) (fs : List Fct) (Γ : List HP) (h : clsOk A l Γ) (hf : has Γ (srcAt 2 F fs.length (fcsC fs))) (hn : l.length ≤ 1000000) (hfn : fs.length ≤ 1000000) (hall : (allA l).length ≤ 1000000) :
    FnV Try.prog 28 [.slice A l.length cc, .slice F fs.length fc] Γ fun v Γ' => ArIs (atsL l) fs v ∧ Γ' = Γ := by
  refine Fn.enter Try.func28 rfl rfl rfl fun E => ?_
  refine TK.free (H := own 41 2 (.slice none 0 0) 0 []) (fun m hm => own_nil _ _ hm) ?_
  refine m_run ?_
  apply TK.iter (fun j ρ' Γ' => ∃ (i : Nat) (B : Option Addr) (k : Nat), l.length = i + j ∧ lk ρ' 0 = .slice A l.length cc ∧ lk ρ' 1 = .slice F fs.length fc ∧ lk ρ' 6 = .slice B (allA (l.take i)).length k ∧ lk ρ' 7 = .int .i64 (i : Int) ∧ Γ' = own 41 2 (.slice B (allA (l.take i)).length k) (allA (l.take i)).length (atmsC (allA (l.take i))) :: Γ) l.length
  · exact ⟨0, none, 0, by omega, rfl, rfl, rfl, rfl, rfl⟩
  rintro j IH ρ' _ ⟨i, B, k, hj, e0, e1, e6, e7, rfl⟩
  refine TK.know4 e0 e1 e6 e7 ?_
  by_cases hi : i < l.length
  · obtain ⟨c, hc⟩ : ∃ c, l[i]? = some c := ⟨l[i], List.getElem?_eq_getElem hi⟩
    have hcm := List.mem_of_getElem? hc
    refine TK.mem fun m0 hm0 => ?_
    obtain ⟨b, o, rfl⟩ := src_some (has_tls h.1 m0 hm0) (by rw [clsC_len]; omega)
    clear hm0 m0
    have hel := has_el (sz := 3) (f := Cl.cells) (fun _ => rfl) (by decide) h.1 hc
    have hsn := allA_snoc hc
    have hle := allA_le (l := l) (i + 1)
    have hlen : (allA (l.take (i + 1))).length = (allA (l.take i)).length + (atomsOf c).length := by rw [hsn, List.length_append]
    refine m_run ?_
    (apply TL.callV; exact rfl; exact callB_of (by kernel_rfl); exact rfl; exact fun _ h => h)
    exact atoms_t c _ (Cl.ok_tl (h.2 c hcm).1) (h.2 c hcm).2
    rintro _ _ ⟨B2, k2, hk2, rfl, rfl⟩
    refine m_run ?_
    (apply TL.append 1; exact rfl; exact rfl; exact tb rfl; exact rfl; exact tb rfl; exact rfl; exact rfl; exact rfl)
    · exact fun _ h => h
    · exact rfl
    · exact has_at (up_src _ _ _ _) 0 rfl fun _ h => own_src h
    · exact atmsC_one _
    · show ((allA (l.take i)).length + (atomsOf c).length) * 32 ≤ _; omega
    · show (allA (l.take i)).length + (atomsOf c).length ≤ maxLen; unfold maxLen; omega
    · exact fun _ => (rfl : _ = _ :: _ :: _)
    intro B3 k3 hk3
    rw [show atmsC (allA (l.take i)) ++ atmsC (atomsOf c) = atmsC (allA (l.take (i + 1))) by rw [hsn]; simp [atmsC], ← hlen]
    refine m_run ?_
    refine TK.drop ?_
    exact IH (j - 1) _ _ (by omega) ⟨i + 1, B3, k3, by omega, rfl, rfl, rfl, congrArg (Value.int .i64) (i64_succ i (by omega)), rfl⟩
  rw [List.take_of_length_le (by omega)] at e6 ⊢
  clear IH
  have hM := allA_ats l
  generalize atsL l = L at *
  generalize allA l = X at *
  have hXM : L.length = X.length := by rw [← hM, List.length_map]
  refine m_run ?_
  apply TK.iter (fun j ρ' Γ' => ∃ (i : Nat), fs.length = i + j ∧ okF L fs i ∧ lk ρ' 1 = .slice F fs.length fc ∧ lk ρ' 6 = .slice B X.length k ∧ lk ρ' 8 = .int .i64 (i : Int) ∧ Γ' = own 41 2 (.slice B X.length k) X.length (atmsC X) :: Γ) fs.length
  · exact ⟨0, by omega, fun k f hk => by omega, rfl, rfl, rfl, rfl⟩
  rintro j IH ρ2 _ ⟨i, hj, hok, e1, e6, e8, rfl⟩
  refine TK.know3 e1 e6 e8 ?_
  by_cases hi : i < fs.length
  · obtain ⟨f, hfi⟩ : ∃ f, fs[i]? = some f := ⟨fs[i], List.getElem?_eq_getElem hi⟩
    refine TK.mem fun m0 hm0 => ?_
    obtain ⟨b, o, rfl⟩ := src_some (has_tls hf m0 hm0) (by rw [fcsC_len]; omega)
    clear hm0 m0
    have hel := has_el (sz := 2) (f := Fct.cells) (fun _ => rfl) (by decide) hf hfi
    refine m_run ?_
    (apply TL.alloc; exact rfl; exact tb rfl; exact (rfl : _ = [_, _]))
    intro b9
    by_cases h6 : 6 < f.l.length
    · refine m_run ?_
      (apply TK.retS2; exact rfl; exact rfl; (exact m_val); (exact m_val))
      exact ⟨_, rfl, ⟨i, 9, rfl, .inl ⟨f, hfi, hok, .inl h6, rfl⟩⟩, rfl⟩
      (repeat (first | exact List.Sublist.refl _ | apply List.Sublist.cons_cons | apply List.Sublist.cons))
    refine m_run ?_
    apply TK.iter (fun j ρ' Γ' => ∃ (q : Nat), X.length = q + j ∧ (∀ x a, x < q → L[x]? = some a → a.1 = f.p → a.2 = f.l.length) ∧ lk ρ' 1 = .slice (some ⟨b, o, none⟩) fs.length fc ∧ lk ρ' 6 = .slice B X.length k ∧ lk ρ' 8 = .int .i64 (i : Int) ∧ lk ρ' 9 = .pointer (some ⟨b9, 0, none⟩) ∧ lk ρ' 10 = .int .i64 (q : Int) ∧ Γ' = row b9 [.int .u32 (f.p : Int), .slice f.A f.l.length f.c] 34 :: own 41 2 (.slice B X.length k) X.length (atmsC X) :: Γ) X.length
    · exact ⟨0, by omega, fun x a hx => by omega, rfl, rfl, rfl, rfl, rfl, rfl⟩
    rintro j2 IH2 ρ3 _ ⟨q, hq, hPq, f1, f6, f8, f9, f10, rfl⟩
    refine TK.know5 f1 f6 f8 f9 f10 ?_
    by_cases hqi : q < X.length
    · obtain ⟨d, hd⟩ : ∃ d, X[q]? = some d := ⟨X[q], List.getElem?_eq_getElem (by omega)⟩
      have hd' : L[q]? = some (d.p, d.l.length) := by rw [← hM, List.getElem?_map, hd]; rfl
      refine TK.fact (all_at 1 rfl fun m h => src_block h (by omega)) ?_
      rintro ⟨g, rfl⟩
      have hown : has (row b9 [.int .u32 (f.p : Int), .slice f.A f.l.length f.c] 34 :: own 41 2 (.slice (some ⟨g, 0, none⟩) X.length k) X.length (atmsC X) :: Γ) (srcAt 2 (some ⟨g, 0, none⟩) X.length (atmsC X)) := has_at (up_src _ _ _ _) 1 rfl fun _ h => own_src h
      have hqa := has_el (sz := 2) (f := Atm.cells) (fun _ => rfl) (by decide) hown hd
      rw [Nat.zero_add] at hqa
      have hq0 := has_cell hqa 0 rfl
      have hq1 := has_cell hqa 1 rfl
      have hnext : (d.p = f.p → d.l.length = f.l.length) → ∀ x a, x < q + 1 → L[x]? = some a → a.1 = f.p → a.2 = f.l.length := fun hd2 x a hx ha => by
        rcases Nat.lt_or_ge x q with hxq | hxq
        · exact hPq x a hxq ha
        · obtain rfl : x = q := by omega
          rw [hd'] at ha; injection ha with ha; subst ha
          exact hd2
      by_cases hp : d.p = f.p
      · by_cases hl : d.l.length = f.l.length
        · refine m_run ?_
          refine m_quiet ?_
          refine m_run ?_
          exact IH2 (j2 - 1) _ _ (by omega) ⟨q + 1, by omega, hnext (fun _ => hl), rfl, rfl, rfl, rfl, congrArg (Value.int .i64) (i64_succ q (by omega)), rfl⟩
        · refine m_run ?_
          refine m_quiet ?_
          refine m_run ?_
          (apply TK.retS2; exact rfl; exact rfl; (exact m_val); (exact m_val))
          exact ⟨_, rfl, ⟨i, 9, rfl, .inl ⟨f, hfi, hok, .inr ⟨_, List.mem_append_left _ (List.mem_of_getElem? hd'), hp, hl⟩, rfl⟩⟩, rfl⟩
          (repeat (first | exact List.Sublist.refl _ | apply List.Sublist.cons_cons | apply List.Sublist.cons))
      · refine m_run ?_
        refine m_quiet ?_
        refine m_run ?_
        exact IH2 (j2 - 1) _ _ (by omega) ⟨q + 1, by omega, hnext (fun e => absurd e hp), rfl, rfl, rfl, rfl, congrArg (Value.int .i64) (i64_succ q (by omega)), rfl⟩
    clear IH2
    have hLall : ∀ a ∈ L, a.1 = f.p → a.2 = f.l.length := fun a ha => by
      obtain ⟨x, hx, hxa⟩ := List.mem_iff_getElem.1 ha
      exact hPq x a (by omega) (by rw [List.getElem?_eq_getElem hx, hxa])
    refine m_run ?_
    apply TK.iter (fun j ρ' Γ' => ∃ (q : Nat), i = q + j ∧ (∀ x g, x < q → fs[x]? = some g → g.p = f.p → g.l.length = f.l.length) ∧ lk ρ' 1 = .slice (some ⟨b, o, none⟩) fs.length fc ∧ lk ρ' 6 = .slice B X.length k ∧ lk ρ' 8 = .int .i64 (i : Int) ∧ lk ρ' 9 = .pointer (some ⟨b9, 0, none⟩) ∧ lk ρ' 11 = .int .i64 (q : Int) ∧ Γ' = row b9 [.int .u32 (f.p : Int), .slice f.A f.l.length f.c] 34 :: own 41 2 (.slice B X.length k) X.length (atmsC X) :: Γ) i
    · exact ⟨0, by omega, fun x a hx => by omega, rfl, rfl, rfl, rfl, rfl, rfl⟩
    rintro j2 IH2 ρ3 _ ⟨q, hq, hFq, f1, f6, f8, f9, f11, rfl⟩
    refine TK.know5 f1 f6 f8 f9 f11 ?_
    by_cases hqi : q < i
    · obtain ⟨d, hd⟩ : ∃ d, fs[q]? = some d := ⟨fs[q], List.getElem?_eq_getElem (by omega)⟩
      have hqa := has_el (sz := 2) (f := Fct.cells) (fun _ => rfl) (by decide) hf hd
      have hq0 := has_cell hqa 0 rfl
      have hq1 := has_cell hqa 1 rfl
      have hnext : (d.p = f.p → d.l.length = f.l.length) → ∀ x g, x < q + 1 → fs[x]? = some g → g.p = f.p → g.l.length = f.l.length := fun hd2 x a hx ha => by
        rcases Nat.lt_or_ge x q with hxq | hxq
        · exact hFq x a hxq ha
        · obtain rfl : x = q := by omega
          rw [hd] at ha; injection ha with ha; subst ha
          exact hd2
      by_cases hp : d.p = f.p
      · by_cases hl : d.l.length = f.l.length
        · refine m_run ?_
          refine m_quiet ?_
          refine m_run ?_
          exact IH2 (j2 - 1) _ _ (by omega) ⟨q + 1, by omega, hnext (fun _ => hl), rfl, rfl, rfl, rfl, congrArg (Value.int .i64) (i64_succ q (by omega)), rfl⟩
        · refine m_run ?_
          refine m_quiet ?_
          refine m_run ?_
          (apply TK.retS2; exact rfl; exact rfl; (exact m_val); (exact m_val))
          refine ⟨_, rfl, ⟨i, 9, rfl, .inl ⟨f, hfi, hok, .inr ⟨(d.p, d.l.length), List.mem_append_right _ (List.mem_map.2 ⟨d, ?_, rfl⟩), hp, hl⟩, rfl⟩⟩, rfl⟩
          · exact List.mem_take_iff_getElem.2 ⟨q, by omega, (List.getElem?_eq_some_iff.1 hd).2⟩
          (repeat (first | exact List.Sublist.refl _ | apply List.Sublist.cons_cons | apply List.Sublist.cons))
      · refine m_run ?_
        refine m_quiet ?_
        refine m_run ?_
        exact IH2 (j2 - 1) _ _ (by omega) ⟨q + 1, by omega, hnext (fun e => absurd e hp), rfl, rfl, rfl, rfl, congrArg (Value.int .i64) (i64_succ q (by omega)), rfl⟩
    · obtain rfl : q = i := by omega
      refine m_run ?_
      refine TK.drop ?_
      refine IH (j - 1) _ _ (by omega) ⟨q + 1, by omega, okF_snoc hok hfi ?_, rfl, rfl, congrArg (Value.int .i64) (i64_succ q (by omega)), rfl⟩
      rintro (h | ⟨a, ha, hap, hne⟩)
      · exact h6 h
      · rcases List.mem_append.1 ha with ha | ha
        · exact hne (hLall a ha hap)
        · obtain ⟨g, hg, rfl⟩ := List.mem_map.1 ha
          obtain ⟨x, hx, hxg⟩ := List.mem_take_iff_getElem.1 hg
          exact hne (hFq x g (by omega) (by rw [List.getElem?_eq_getElem (by omega), hxg]) hap)
  · obtain rfl : i = fs.length := by omega
    refine m_run ?_
    (apply TK.retS2; exact rfl; exact rfl; (exact m_val); (exact m_val))
    exact ⟨_, rfl, ⟨0, 0, rfl, .inr ⟨hok, rfl, rfl⟩⟩, rfl⟩
    (repeat (first | exact List.Sublist.refl _ | apply List.Sublist.cons_cons | apply List.Sublist.cons))
end Go.Proofs.Ythbcfamfaicneaa.E

/- The clauses of a credential, one behind the other: the iterator, walked. -/
namespace Go.Proofs.Ythbcfamfaicneaa.E
open Go Go.RowKit Go.Proofs
attribute [local irreducible] TK TL TQ TA TB Fn PV
/-- A LOOP whose rounds may leave marks. -/
theorem TK.iterD {cx : Cx} {k : List Item} {ρ : Env} {ds : List Deferred} {Γ : List HP} {c : Code} (I : Nat → Env → List Deferred → List HP → Prop) (n0 : Nat) (h0 : I n0 ρ ds Γ)
    (round : ∀ j, (∀ j' ρ' ds' Γ', j' < j → I j' ρ' ds' Γ' → TK cx (.inLoop c :: k) ρ' ds' Γ') → ∀ ρ ds Γ, I j ρ ds Γ → TK cx (.code c :: .inLoop c :: k) ρ ds Γ) : TK cx (.code (.loop c) :: k) ρ ds Γ := by
  have key : ∀ j ρ ds Γ, I j ρ ds Γ → TK cx (.code c :: .inLoop c :: k) ρ ds Γ := by
    intro j
    induction j using Nat.strongRecOn with
    | _ j ih => exact round j fun j' ρ' ds' Γ' hj hI => .inLoop (ih j' hj ρ' ds' Γ' hI)
  exact .loop (key n0 ρ ds Γ h0)
theorem TK.unmarks {cx : Cx} {k : List Item} {ρ : Env} {ds : List Deferred} (hrd : cx.rd = none) (hno : ∀ Γ, ¬ cx.R .outgrown Γ) : ∀ (rs : List Nat) {Γ : List HP}, TK cx (.code .ret :: k) ρ ds Γ → TK cx (.code .ret :: k) ρ (rs.map mark ++ ds) (rs.map dfA ++ Γ)
  | [], _, h => h
  | r :: rs, _, h => TK.unmark 0 hrd hno rfl (TK.unmarks hrd hno rs h)
theorem one_small {c : Cr} {k : Nat} {C : Cl} (hm : mayCr c = true) (hf : c.few) (h : pureC C = oneC c k) : C.small ∧ C.l.length ≤ 30 := by
  obtain ⟨f1, f2, f3⟩ := hf
  have hl : C.h.l = (oneC c k).2.1 := congrArg (fun p => p.2.1) h
  have hb : C.l.map pureL = (oneC c k).2.2 := congrArg (fun p => p.2.2) h
  have hbl : C.l.length = (oneC c k).2.2.length := by rw [← hb, List.length_map]
  have hx : ∀ x ∈ C.l, ∃ y ∈ (oneC c k).2.2, x.a.l = y.2.2 := fun x hx => ⟨pureL x, by rw [← hb]; exact List.mem_map_of_mem hx, rfl⟩
  unfold oneC at hl hbl hx
  split at hl
  · rename_i hk
    rw [if_pos hk] at hbl hx
    have ha : c.args < 6 := by
      unfold mayCr at hm
      rw [Bool.and_eq_true, Bool.and_eq_true, Bool.or_eq_true, Bool.and_eq_true, Bool.and_eq_true, decide_eq_true_iff, decide_eq_true_iff] at hm
      rcases hm.2 with h | h
      · rw [hk] at h; exact absurd h.1 (by decide)
      · have hg := h.2
        unfold giveB at hg
        simp only [Bool.and_eq_true, decide_eq_true_iff] at hg
        exact hg.1.1.2
    have hv : (varsT c.args.toNat).length ≤ 6 := by unfold varsT; rw [List.length_map, List.length_range]; omega
    refine ⟨⟨by rw [hbl]; exact Nat.le_trans (Nat.le_refl 1) (by decide), ?_, fun x hxm => ?_⟩, by rw [hbl]; exact Nat.le_trans (Nat.le_refl 1) (by decide)⟩
    · rw [hl]; show (_ :: varsT c.args.toNat).length ≤ _; rw [List.length_cons]; omega
    · obtain ⟨y, hy, e⟩ := hx x hxm
      rw [List.mem_singleton.1 hy] at e
      rw [e]; show (_ :: varsT c.args.toNat).length ≤ _; rw [List.length_cons]; omega
  · rename_i hk
    rw [if_neg hk] at hbl hx
    simp only [List.length_map] at hbl
    refine ⟨⟨by omega, ?_, fun x hxm => ?_⟩, by omega⟩
    · rw [hl]; show (_ :: c.r.h.a.l).length ≤ _; rw [List.length_cons]; omega
    · obtain ⟨y, hy, e⟩ := hx x hxm
      obtain ⟨z, hz, rfl⟩ := List.mem_map.1 hy
      have := f3 z hz
      rw [e]
      show (flatP z.y k).2.length ≤ _
      unfold flatP
      simp only
      split
      · rw [List.length_cons]; omega
      · omega
set_option maxRecDepth 100000 in
theorem depths_t (c : Cr) (Γ : List HP) : FnV Try.prog 32 [.agg c.cells.toArray] Γ fun v Γ' => ∃ b, v = .func (.func 50) #[] #[.pointer (some ⟨b, 0, none⟩)] ∧ Γ' = crRow b c :: Γ := by
  refine Fn.enter Try.func32 rfl rfl rfl fun E => ?_
  refine m_run ?_
  (apply TL.box; exact rfl; exact rfl; exact (rfl : _ = c.cells))
  intro b
  refine m_run ?_
  (apply TL.pv; exact rfl; (apply PV.makeFunc; exact rfl; exact rfl))
  refine m_run ?_
  (apply TK.ret1; exact rfl; exact rfl; (exact m_val))
  exact ⟨_, rfl, b, rfl, rfl⟩
set_option maxRecDepth 100000 in
set_option maxHeartbeats 8000000 in
theorem depths1_t (l : Nat) (D : LD) (hD : D.ps.size = 1) (b : Nat) (c : Cr) (Zc : List Cl → HP) (Y : List HP) (hm : mayCr c = true) (hf : c.few)
    (pre0 : List Cl) (Γ0 : List HP) (hc : c.ok Γ0) (round : ∀ C pre Γ3, C.ok Γ3 → C.small → pre.length ≤ pre0.length + 4 → Rnd Try.prog l D [.agg C.cells.toArray] (loopA l D .ready none :: crRow b c :: Zc pre :: (Y ++ Γ3)) fun t Γ' => t = true ∧ ∃ Γ4, Γ3.Sublist Γ4 ∧ Γ' = loopA l D .ready none :: crRow b c :: Zc (pre ++ [C]) :: (Y ++ Γ4))
    :
    FnV Try.prog 50 [.func (.yield l) #[] #[], .pointer (some ⟨b, 0, none⟩)] (loopA l D .ready none :: crRow b c :: Zc pre0 :: (Y ++ Γ0)) fun _ Γ' => ∃ (L : List Cl) (Γ4 : List HP), Γ0.Sublist Γ4 ∧ L.map pureC = onesC c ∧ (∀ C ∈ L, C.ok Γ4 ∧ C.small ∧ C.l.length ≤ 30) ∧ Γ' = loopA l D .ready none :: crRow b c :: Zc (pre0 ++ L) :: (Y ++ Γ4) := by
  refine Fn.enterIn Try.func50 rfl rfl rfl fun E => ?_
  refine m_run ?_
  apply TK.iter (fun j ρ' Γ' => ∃ (k : Nat) (L : List Cl) (Γ4 : List HP), k + j = 4 ∧ Γ0.Sublist Γ4 ∧ L.map pureC = ((List.range k).filter (oneB c)).map (oneC c) ∧ (∀ C ∈ L, C.ok Γ4 ∧ C.small ∧ C.l.length ≤ 30) ∧ lk ρ' 0 = .func (.yield l) #[] #[] ∧ lk ρ' 1 = .pointer (some ⟨b, 0, none⟩) ∧ lk ρ' 6 = .int .i64 (k : Int) ∧ Γ' = loopA l D .ready none :: crRow b c :: Zc (pre0 ++ L) :: (Y ++ Γ4)) 4
  · exact ⟨0, [], Γ0, rfl, .refl _, rfl, fun C hC => (List.not_mem_nil hC).elim, rfl, rfl, rfl, by simp⟩
  rintro j IH ρ' _ ⟨k, L, Γ4, hkj, hs4, hL, hLo, e0, e1, e6, rfl⟩
  refine TK.know3 e0 e1 e6 ?_
  have hLl : L.length ≤ k := by
    have h1 := congrArg List.length hL
    have h2 := List.length_filter_le (oneB c) (List.range k)
    rw [List.length_map, List.length_map] at h1
    rw [List.length_range] at h2
    omega
  by_cases hk : k < 4
  · have hsn : ((List.range (k + 1)).filter (oneB c)).map (oneC c) = ((List.range k).filter (oneB c)).map (oneC c) ++ (if oneB c k = true then [oneC c k] else []) := by
      rw [List.range_succ, List.filter_append, List.map_append]
      by_cases h : oneB c k = true <;> simp [h]
    have hbc : has (loopA l D .ready none :: crRow b c :: Zc (pre0 ++ L) :: (Y ++ Γ4)) (fun m => cellsAt m b 0 c.cells) := has_rows 1 rfl rfl
    refine m_run ?_
    (apply TL.callV; exact rfl; exact callB_of (by kernel_rfl); exact rfl; exact fun _ h => h)
    exact one_t ([loopA l D .ready none, crRow b c, Zc (pre0 ++ L)] ++ Y) c k Γ4 (by omega) (Rl.ok_subs hs4 hc) hf hm
    rintro _ _ ⟨C, Γ5, rfl, rfl, hs5, hCo, hCp⟩
    obtain ⟨hCs, hCl⟩ := one_small hm hf hCp
    have hLo5 : ∀ C ∈ L, C.ok Γ5 ∧ C.small ∧ C.l.length ≤ 30 := fun C hC => ⟨⟨Atm.ok_subs hs5 (hLo C hC).1.1, has_sublist (up_src _ _ _ _) hs5 (hLo C hC).1.2.1, (hLo C hC).1.2.2.1, fun x hx => Atm.ok_subs hs5 ((hLo C hC).1.2.2.2 x hx)⟩, (hLo C hC).2⟩
    refine TL.imp (Δ := loopA l D .ready none :: crRow b c :: Zc (pre0 ++ L) :: (Y ++ Γ5)) (fun _ h => h) ?_
    refine m_run ?_
    (apply TL.alloc; exact rfl; exact tb rfl; exact (rfl : _ = [_, _, _]))
    intro b4
    cases hob : oneB c k with
    | false =>
      rw [hob] at hsn
      refine m_run ?_
      refine TK.drop ?_
      exact IH (j - 1) _ _ (by omega) ⟨k + 1, L, Γ5, by omega, hs4.trans hs5, by rw [hsn]; simpa using hL, hLo5, rfl, rfl, congrArg (Value.int .i64) (i64_succ k (by omega)), rfl⟩
    | true =>
      rw [hob, if_pos rfl] at hsn
      refine m_run ?_
      refine TL.drop ?_
      (apply TL.yield 0; exact rfl; exact rfl; exact rfl; exact rfl; exact rfl; exact (by simp [hD]); exact round C (pre0 ++ L) Γ5 hCo hCs (by rw [List.length_append]; omega))
      rintro _ _ ⟨rfl, Γ6, hs6, rfl⟩
      refine m_run ?_
      refine IH (j - 1) _ _ (by omega) ⟨k + 1, L ++ [C], Γ6, by omega, hs4.trans (hs5.trans hs6), by rw [hsn, List.map_append, hL, ← hCp]; rfl, fun C' hC' => ?_, rfl, rfl, congrArg (Value.int .i64) (i64_succ k (by omega)), by rw [List.append_assoc]⟩
      have hup : ∀ C : Cl, C.ok Γ5 → C.ok Γ6 := fun C h => ⟨Atm.ok_subs hs6 h.1, has_sublist (up_src _ _ _ _) hs6 h.2.1, h.2.2.1, fun x hx => Atm.ok_subs hs6 (h.2.2.2 x hx)⟩
      rcases List.mem_append.1 hC' with h1 | h1
      · exact ⟨hup _ (hLo5 C' h1).1, (hLo5 C' h1).2⟩
      · rw [List.mem_singleton.1 h1]; exact ⟨hup _ hCo, hCs, hCl⟩
  · obtain rfl : k = 4 := by omega
    refine m_run ?_
    (apply TK.over0; exact rfl; exact rfl)
    exact ⟨_, rfl, L, Γ4, hs4, by unfold onesC; rw [if_pos hm]; exact hL, hLo, rfl⟩
end Go.Proofs.Ythbcfamfaicneaa.E





/- Reach, plainly: spots told in rounds, against all chains. -/
namespace Go.Proofs.Ythbcfamfaicneaa.E.Rch
abbrev Sp := Nat × Nat
abbrev Stp := Sp × List Nat
/-! ### what is fresh -/
def fresh (S : List Sp) : List Stp → List Stp
  | [] => []
  | s :: L => if s.1 ∈ S then fresh S L else s :: fresh (S ++ [s.1]) L
/-! ### chains -/
section
variable (K : List Nat) (nx : Sp → Nat → Option Sp)
def step1 (s : Stp) (i : Nat) : Option Stp := (nx s.1 i).map fun t => (t, s.2 ++ [i])
def exts (s : Stp) : List Stp := K.filterMap (step1 nx s)
def chs (s0 : Sp) : Nat → List Stp
  | 0 => [(s0, [])]
  | n + 1 => (chs s0 n).flatMap (exts K nx)
def allC (s0 : Sp) (n : Nat) : List Stp := (List.range n).flatMap (chs K nx s0)
def lvl (s0 : Sp) : Nat → List Stp × List Sp
  | 0 => ([(s0, [])], [s0])
  | n + 1 => (fresh (lvl s0 n).2 ((lvl s0 n).1.flatMap (exts K nx)), (lvl s0 n).2 ++ (fresh (lvl s0 n).2 ((lvl s0 n).1.flatMap (exts K nx))).map (·.1))
def told (s0 : Sp) (n : Nat) : List Stp := (List.range n).flatMap fun k => (lvl K nx s0 k).1
/-- The document's way: from a chain all that go on with so many links. -/
def goes : Nat → Stp → List Stp
  | 0, s => [s]
  | n + 1, s => (exts K nx s).flatMap (goes n)
/-! ### ways -/
def runW (t : Sp) : List Nat → Option Sp
  | [] => some t
  | i :: w => if i ∈ K then (nx t i).bind fun u => runW u w else none
structure Law : Prop where
  down : ∀ s i t, nx s i = some t → t.2 < s.2
  one : ∀ s i t s' t', nx s i = some t → nx s' i = some t' → s.1 = s'.1 ∧ t.1 = t'.1
  more : ∀ a k m i t, nx (a, k) i = some t → k ≤ m → ∃ m', nx (a, m) i = some (t.1, m') ∧ t.2 ≤ m'
variable {K nx}
end
end Go.Proofs.Ythbcfamfaicneaa.E.Rch

/- MY OWN LAYER: keys of two plain fields (a uint32, an int). P is a variable. -/
namespace Go.Proofs.Ythbcfamfaicneaa.E
open Go Go.RowKit
def spotL (s : Nat × Nat) : List Value := [.int .u32 (s.1 : Int), .int .i64 (s.2 : Int)]
def spotV (s : Nat × Nat) : Value := .agg (spotL s).toArray
end Go.Proofs.Ythbcfamfaicneaa.E

/- MY OWN LAYER: numbers in memory; slices of slices of numbers, all of one's own. P is a variable. -/
namespace Go.Proofs.Ythbcfamfaicneaa.E
open Go Go.RowKit
abbrev ints (w : List Nat) : List Value := w.map fun n : Nat => Value.int .i64 (n : Int)
theorem ints_len (w : List Nat) : (ints w).length = w.length := by simp
theorem ints_one (w : List Nat) : ∀ u ∈ ints w, u.oneCell' = true := by
  intro u hu
  obtain ⟨n, _, rfl⟩ := List.mem_map.1 hu
  rfl
theorem has_ints {Γ : List HP} {b o n i x : Nat} {l : List Nat} (h : has Γ (srcAt 1 (some ⟨b, o, none⟩) n (ints l))) (hi : l[i]? = some x) : has Γ (fun m => cellAt m b (o + i) (.int .i64 (x : Int))) := fun m hm => by
  rcases (h m hm).2 with h | ⟨b', o', e, h⟩
  · have : l = [] := by simpa using h
    subst this; simp at hi
  · injection e with e; injection e with e1 e2 _
    subst e1; subst e2
    exact h i _ (by simp [hi])
/-- A slice of numbers of one's own, as an element of a slice. -/
structure Rw where
  A : Option Addr
  c : Nat
  w : List Nat
def Rw.v (r : Rw) : Value := .slice r.A r.w.length r.c
def Rw.h (e : Nat) (r : Rw) : HP := own e 1 r.v r.w.length (ints r.w)
def rw0 : Rw := ⟨none, 0, []⟩
theorem alls_out {α : Type} {f : α → HP} {l : List α} {i : Nat} {x : α} {Γ : List HP} {m : Mem} (h : l[i]? = some x) (hm : all (alls f l :: Γ) m) : all (f x :: alls f (l.eraseIdx i) :: Γ) m := sep_assoc (sep_mono hm (fun _ h' => alls_get h h') (fun _ => id))
theorem alls_in {α : Type} {f : α → HP} {l : List α} {i : Nat} {x : α} (y : α) {Γ : List HP} {m : Mem} (h : l[i]? = some x) (hm : all (f y :: alls f (l.eraseIdx i) :: Γ) m) : all (alls f (l.set i y) :: Γ) m := sep_mono (sep_assoc' hm) (fun _ h' => alls_set h h') (fun _ => id)
theorem rws0 (e n : Nat) {m : Mem} (h : emp m) : alls (Rw.h e) (List.replicate n rw0) m := by
  induction n with
  | zero => exact h
  | succ n ih => exact ⟨m, fun _ => none, fun _ => .inr rfl, by funext k; simp [Mem.join], own_nil _ _ h, by
      have : m = fun _ => none := by funext k; exact h k
      rw [← this]; exact ih⟩
end Go.Proofs.Ythbcfamfaicneaa.E

/- Links, plainly; which they are, as the program finds them. -/
namespace Go.Proofs.Ythbcfamfaicneaa.E
open Go Go.RowKit Go.Proofs
attribute [local irreducible] TK TL TQ TA TB Fn PV
abbrev crsC (l : List Cr) : List Value := l.flatMap Cr.cells
theorem crsC_len (l : List Cr) : (crsC l).length = l.length * 15 := by
  induction l with
  | nil => rfl
  | cons x l ih => rw [show crsC (x :: l) = x.cells ++ crsC l from rfl, List.length_append, ih, List.length_cons, show x.cells.length = 15 from rfl]; omega
/-- Credentials that a call has at hand. -/
structure Crs (A : Option Addr) (l : List Cr) (Γ : List HP) : Prop where
  src : has Γ (srcAt 15 A l.length (crsC l))
  ok : ∀ x ∈ l, x.ok Γ
  few : ∀ x ∈ l, x.few
  len : l.length ≤ 100000
def linkB (p : Nat) (args : Int) (c : Cr) : Bool := decide (c.kind = 2) && decide (c.p = p) && decide (c.args = args) && mayCr c && (predS p args true 0).2
def linksOf (l : List Cr) (p : Nat) (args : Int) : List Nat := (l.zipIdx.filter fun x => linkB p args x.1).map (·.2)
def nxL (l : List Cr) : Rch.Sp → Nat → Option Rch.Sp := fun s i => match l[i]? with
  | some c => if c.iss = s.1 ∧ 0 < s.2 then some (c.to, min (s.2 - 1) c.dep.toNat) else none
  | none => none
end Go.Proofs.Ythbcfamfaicneaa.E

/- Rounds, as the program tells them, walked. Printed by gen_ym.py. -/
namespace Go.Proofs.Ythbcfamfaicneaa.E
open Go Go.RowKit Go.Proofs
attribute [local irreducible] TK TL TQ TA TB Fn PV
/-- A spot and its way, in memory. -/
structure Wy where
  pos : Nat
  left : Nat
  A : Option Addr
  c : Nat
  w : List Nat
def Wy.cells (s : Wy) : List Value := [.int .u32 (s.pos : Int), .int .i64 (s.left : Int), .slice s.A s.w.length s.c]
abbrev wysC (l : List Wy) : List Value := l.flatMap Wy.cells
def Wy.ok (s : Wy) (Γ : List HP) : Prop := has Γ (srcAt 1 s.A s.w.length (ints s.w)) ∧ s.w.length ≤ s.c
def pureY (s : Wy) : Rch.Stp := ((s.pos, s.left), s.w)
def oneV (n : Nat) : Value := .int .i64 (n : Int)
def seenE (S : List Rch.Sp) : List (Rch.Sp × Nat) := S.map fun p => (p, 1)
def unskip (K : List Nat) (skip : Int) : List Nat := K.filter fun i => decide ((i : Int) ≠ skip)
end Go.Proofs.Ythbcfamfaicneaa.E

/- Numbers that are sorted: a row as an array. -/
namespace Go.Proofs.Ythbcfamfaicneaa.E.SI
open Go Go.RowKit Go.Proofs Go.Sort

/-- A row of numbers of one's own, as an array. -/
abbrev DD (b c n : Nat) (d : Array Int) : HP := own 3 1 (.slice (some ⟨b, 0, none⟩) n c) n (nums .i64 d.toList)
theorem cellD {b c n i : Nat} {d : Array Int} {Γ : List HP} (hn : d.size = n) (hi : i < n) : has (DD b c n d :: Γ) (fun m => cellAt m b i (.int .i64 d[i]!)) := by
  have h1 : has (DD b c n d :: Γ) (srcAt 1 (some ⟨b, 0, none⟩) n (nums .i64 d.toList)) := has_at (up_src _ _ _ _) 0 rfl fun _ h => own_src h
  have h2 := has_num h1 (i := i) (by simp; omega)
  have h3 : d.toList[i]'(by simp; omega) = d[i]! := by
    rw [getElem!_pos d i (by omega)]; simp
  rw [Nat.zero_add, h3] at h2
  exact h2
theorem swpD {q : IntKind} {d : Array Int} {i j : Nat} : ((nums q d.toList).set i (.int q d[j]!)).set j (.int q d[i]!) = nums q (swp d i j).toList := by
  unfold nums swp
  rw [Array.toList_setIfInBounds, Array.toList_setIfInBounds, List.map_set, List.map_set]
attribute [local irreducible] TK TL TQ TA TB Fn PV Sort.insInner Sort.heapBuild Sort.heapPop Sort.scanDown Sort.shiftDown Sort.partialIns
theorem nanI_t (x : Int) (Γ : List HP) : FnV Try.prog 116 [.int .i64 x] Γ fun v Γ' => v = .bool false ∧ Γ' = Γ := by
  refine Fn.enter Try.func116 rfl rfl rfl fun E => ?_
  refine m_run ?_
  (apply TK.ret1; exact rfl; exact rfl; exact rfl)
  exact ⟨_, rfl, congrArg Value.bool (by simp), rfl⟩
theorem less_t (x y : Int) (Γ : List HP) : FnV Try.prog 91 [.int .i64 x, .int .i64 y] Γ fun v Γ' => v = .bool (decide (x < y)) ∧ Γ' = Γ := by
  refine Fn.enter Try.func91 rfl rfl rfl fun E => ?_
  refine m_run ?_
  (apply TL.callV; exact rfl; exact callB_of (by kernel_rfl); exact rfl; exact fun _ h => h)
  exact nanI_t x Γ
  rintro _ Γ ⟨rfl, rfl⟩
  refine m_run ?_
  (apply TK.ret1; exact rfl; exact rfl; exact rfl)
  exact ⟨_, rfl, rfl, rfl⟩
set_option maxRecDepth 100000 in
set_option maxHeartbeats 4000000 in
theorem ins_t (b c n a e : Nat) (d0 : Array Int) (Γ : List HP) (hsz0 : d0.size = n) (ha : a ≤ n) (he : e ≤ n) (hn : n ≤ 1000000000) :
    FnV Try.prog 85 [.slice (some ⟨b, 0, none⟩) n c, .int .i64 (a : Int), .int .i64 (e : Int)] (DD b c n d0 :: Γ) fun v Γ' => v = .tuple #[] ∧ Γ' = DD b c n (insertionSort ltInt d0 a e) :: Γ := by
  refine Fn.enter Try.func85 rfl rfl rfl fun E => ?_
  unfold insertionSort
  generalize hX : insOuter ltInt a e (a + 1) d0 = X
  refine m_run ?_
  apply TK.iter (fun j ρ' Γ' => ∃ (i : Nat) (d : Array Int), i + j = e + a + 1 ∧ a + 1 ≤ i ∧ i ≤ n + 1 ∧ d.size = n ∧ insOuter ltInt a e i d = X ∧ lk ρ' 0 = .slice (some ⟨b, 0, none⟩) n c ∧ lk ρ' 1 = .int .i64 (a : Int) ∧ lk ρ' 2 = .int .i64 (e : Int) ∧ lk ρ' 6 = .int .i64 (i : Int) ∧ Γ' = DD b c n d :: Γ) e
  · exact ⟨a + 1, d0, by omega, Nat.le_refl _, by omega, hsz0, hX, rfl, rfl, rfl, congrArg (Value.int .i64) (by rw [i64_in (by omega) (by omega)]; omega), rfl⟩
  rintro j IH ρ' _ ⟨i, d, hij, hi1, hin, hsz, hX, e0, e1, e2, e6, rfl⟩
  refine TK.know4 e0 e1 e2 e6 ?_
  by_cases hi : i < e
  · rw [Sort.insOuter, if_pos hi] at hX
    refine m_run ?_
    generalize hY : insInner ltInt a i d = Y at hX
    apply TK.iter (fun j ρ' Γ' => ∃ (d : Array Int), j ≤ i ∧ d.size = n ∧ insInner ltInt a j d = Y ∧ lk ρ' 0 = .slice (some ⟨b, 0, none⟩) n c ∧ lk ρ' 1 = .int .i64 (a : Int) ∧ lk ρ' 2 = .int .i64 (e : Int) ∧ lk ρ' 6 = .int .i64 (i : Int) ∧ lk ρ' 7 = .int .i64 (j : Int) ∧ Γ' = DD b c n d :: Γ) i
    · exact ⟨d, Nat.le_refl _, hsz, hY, rfl, rfl, rfl, rfl, rfl, rfl⟩
    clear hY hsz
    rintro q IH2 ρ2 _ ⟨d, hqi, hsz, hY, f0, f1, f2, f6, f7, rfl⟩
    refine TK.know5 f0 f1 f2 f6 f7 ?_
    have hfin : d = Y → Y.size = n ∧ insOuter ltInt a e (i + 1) Y = X := fun h => ⟨h ▸ hsz, hX⟩
    by_cases hk : a < q
    · obtain ⟨p, rfl⟩ : ∃ p, q = p + 1 := ⟨q - 1, by omega⟩
      rw [Sort.insInner] at hY
      have hc1 := cellD (b := b) (c := c) (Γ := Γ) hsz (show p + 1 < n by omega)
      have hc2 := cellD (b := b) (c := c) (Γ := Γ) hsz (show p < n by omega)
      refine m_run ?_
      refine TK.drawS mixed rfl ?_
      refine m_take (At.mk : At 0) ?_; refine m_take (At.mk : At 1) ?_; refine m_take (At.mk : At 2) ?_
      refine TA.isT 18 rfl (decide_eq_true (by omega)) ?_
      refine m_take (At.mk : At 3) ?_; refine m_take (At.mk : At 4) ?_; refine m_take (At.mk : At 5) ?_; refine m_take (At.mk : At 6) ?_; refine m_take (At.mk : At 7) ?_; refine m_take (At.mk : At 8) ?_; refine m_take (At.mk : At 9) ?_; refine m_take (At.mk : At 10) ?_
      refine TA.know (t := 26) (v := .int .i64 ((p : Nat) : Int)) (congrArg (Value.int .i64) (by rw [i64_in (by omega) (by omega)]; omega)) ?_
      refine m_take (At.mk : At 11) ?_; refine m_take (At.mk : At 12) ?_
      (apply TA.one 13; kernel_rfl; exact rfl)
      refine m_rrun ?_
      (apply TL.callV; exact rfl; exact callB_of (by kernel_rfl); exact rfl; exact fun _ h => h)
      exact less_t _ _ _
      rintro _ _ ⟨rfl, rfl⟩
      refine TL.back (by (focus ((repeat (first | assumption | exact Ent.refl _ | apply Ent.tail)); done))) ?_
      refine m_take (At.mk : At 14) ?_
      by_cases hlt : d[p + 1]! < d[p]!
      · rw [if_pos (by simp [ltInt, hlt]; omega)] at hY
        refine TA.isT 30 rfl (decide_eq_true hlt) ?_
        refine TA.done (by kernel_rfl) ?_
        refine m_run ?_
        have hcI := cellD (b := b) (c := c) (Γ := Γ) hsz (show p + 1 < n by omega)
        have hcK := cellD (b := b) (c := c) (Γ := Γ) hsz (show p < n by omega)
        refine TK.drawB mixed rfl 15 (DD b c n d :: Γ) (Γ) ?_
        refine m_bake (At.mk : At 0) ?_; refine m_bake (At.mk : At 1) ?_; refine m_bake (At.mk : At 2) ?_; refine m_bake (At.mk : At 3) ?_; refine m_bake (At.mk : At 4) ?_
        refine TB.know (t := 37) (v := .int .i64 ((p : Nat) : Int)) (congrArg (Value.int .i64) (by rw [i64_in (by omega) (by omega)]; omega)) ?_
        refine m_bake (At.mk : At 5) ?_; refine m_bake (At.mk : At 6) ?_; refine m_bake (At.mk : At 7) ?_
        refine TB.know (t := 40) (v := .int .i64 ((p : Nat) : Int)) (congrArg (Value.int .i64) (by rw [i64_in (by omega) (by omega)]; omega)) ?_
        refine m_bake (At.mk : At 8) ?_; refine m_bake (At.mk : At 9) ?_; refine m_bake (At.mk : At 10) ?_; refine m_bake (At.mk : At 11) ?_; refine m_bake (At.mk : At 12) ?_; refine m_bake (At.mk : At 13) ?_; refine m_bake (At.mk : At 14) ?_
        (apply TB.last; kernel_rfl; exact rfl)
        (apply TL.storeOwn 0 (p + 1); exact rfl; exact rfl; exact rfl; exact rfl; exact tb rfl; exact rfl; exact (Nat.zero_add _).symm; exact (by omega))
        refine TL.back (by (focus ((repeat (first | assumption | exact Ent.refl _ | apply Ent.tail)); done))) ?_
        refine m_take (At.mk : At 16) ?_
        (apply TA.one 17; kernel_rfl; exact rfl)
        (apply TL.storeOwn 0 (p); exact rfl; exact rfl; exact rfl; exact rfl; exact tb rfl; exact rfl; exact (Nat.zero_add _).symm; exact (by omega))
        refine TL.back (by (focus ((repeat (first | assumption | exact Ent.refl _ | apply Ent.tail)); done))) ?_
        refine TA.done (by kernel_rfl) ?_
        refine TK.imp (Δ := DD b c n (swp d (p + 1) (p)) :: Γ) (fun _ h => by show all (own _ _ _ _ (nums _ (swp d (p + 1) (p)).toList) :: _) _; rw [← swpD]; exact h) ?_
        have hsz : (swp d (p + 1) (p)).size = n := (size_swp _ _ _).trans hsz
        clear hcI hcK
        clear hc1 hc2
        refine m_run ?_
        exact IH2 p _ _ (by omega) ⟨_, by omega, hsz, hY, rfl, rfl, rfl, rfl, congrArg (Value.int .i64) (by rw [i64_in (by omega) (by omega)]; omega), rfl⟩
      · rw [if_neg (by simp [ltInt, hlt])] at hY
        obtain ⟨g1, g2⟩ := hfin hY
        refine TA.isF 30 rfl (decide_eq_false hlt) ?_
        refine TA.done (by kernel_rfl) ?_
        rw [hY]
        refine m_run ?_
        exact IH (j - 1) _ _ (by omega) ⟨i + 1, Y, by omega, by omega, by omega, g1, g2, rfl, rfl, rfl, congrArg (Value.int .i64) (i64_succ i (by omega)), rfl⟩
    · have hY2 : d = Y := by
        rw [← hY]
        cases q with
        | zero => rw [Sort.insInner]
        | succ p => rw [Sort.insInner, if_neg (by simp; omega)]
      obtain ⟨g1, g2⟩ := hfin hY2
      rw [hY2]
      refine m_run ?_
      refine TK.drawS mixed rfl ?_
      refine m_take (At.mk : At 0) ?_; refine m_take (At.mk : At 1) ?_; refine m_take (At.mk : At 2) ?_
      refine TA.isF 18 rfl (decide_eq_false (by omega)) ?_
      refine m_take (At.mk : At 3) ?_; refine m_take (At.mk : At 4) ?_; refine m_take (At.mk : At 5) ?_; refine m_take (At.mk : At 6) ?_; refine m_take (At.mk : At 7) ?_; refine m_take (At.mk : At 8) ?_; refine m_take (At.mk : At 9) ?_; refine m_take (At.mk : At 10) ?_; refine m_take (At.mk : At 11) ?_; refine m_take (At.mk : At 12) ?_; refine m_take (At.mk : At 13) ?_; refine m_take (At.mk : At 14) ?_
      refine TA.done (by kernel_rfl) ?_
      refine m_run ?_
      exact IH (j - 1) _ _ (by omega) ⟨i + 1, Y, by omega, by omega, by omega, g1, g2, rfl, rfl, rfl, congrArg (Value.int .i64) (i64_succ i (by omega)), rfl⟩
  rw [Sort.insOuter, if_neg hi] at hX
  rw [hX]
  refine m_run ?_
  exact TK.over0 rfl rfl ⟨_, rfl, rfl, rfl⟩

set_option maxRecDepth 100000 in
set_option maxHeartbeats 4000000 in
theorem order2_t (b c n s p q : Nat) (z : Int) (d : Array Int) (Γ : List HP) (hsz : d.size = n) (hp : p < n) (hq : q < n) :
    FnV Try.prog 125 [.slice (some ⟨b, 0, none⟩) n c, .int .i64 (p : Int), .int .i64 (q : Int), .pointer (some ⟨s, 0, none⟩)] (row s [.int .i64 z] 3 :: DD b c n d :: Γ) fun v Γ' => ∃ (x y : Nat) (z' : Int), (x = p ∧ y = q ∨ x = q ∧ y = p) ∧ v = .tuple #[.int .i64 (x : Int), .int .i64 (y : Int)] ∧ Γ' = row s [.int .i64 z'] 3 :: DD b c n d :: Γ := by
  refine Fn.enter Try.func125 rfl rfl rfl fun E => ?_
  have hc1 := has_tlc (K := row s [.int .i64 z] 3) (cellD (b := b) (c := c) (Γ := Γ) hsz hp)
  have hc2 := has_tlc (K := row s [.int .i64 z] 3) (cellD (b := b) (c := c) (Γ := Γ) hsz hq)
  refine m_run ?_
  refine TK.drawS mixed rfl ?_
  refine m_take (At.mk : At 0) ?_; refine m_take (At.mk : At 1) ?_; refine m_take (At.mk : At 2) ?_; refine m_take (At.mk : At 3) ?_; refine m_take (At.mk : At 4) ?_; refine m_take (At.mk : At 5) ?_; refine m_take (At.mk : At 6) ?_; refine m_take (At.mk : At 7) ?_
  (apply TA.one 8; kernel_rfl; exact rfl)
  (apply TL.callV; exact rfl; exact callB_of (by kernel_rfl); exact rfl; exact fun _ h => h)
  exact less_t _ _ _
  rintro _ _ ⟨rfl, rfl⟩
  refine TL.back (by (focus ((repeat (first | assumption | exact Ent.refl _ | apply Ent.tail)); done))) ?_
  refine TA.done (by kernel_rfl) ?_
  by_cases h : d[q]! < d[p]!
  · rw [decide_eq_true h]
    refine m_run ?_
    (apply TK.ret2; exact rfl; exact rfl; (exact m_val); (exact m_val))
    exact ⟨_, rfl, q, p, _, .inr ⟨rfl, rfl⟩, rfl, rfl⟩
  · rw [decide_eq_false h]
    refine m_run ?_
    (apply TK.ret2; exact rfl; exact rfl; (exact m_val); (exact m_val))
    exact ⟨_, rfl, p, q, _, .inl ⟨rfl, rfl⟩, rfl, rfl⟩
set_option maxRecDepth 100000 in
set_option maxHeartbeats 4000000 in
theorem median_t (b c n s p q r : Nat) (z : Int) (d : Array Int) (Γ : List HP) (hsz : d.size = n) (hp : p < n) (hq : q < n) (hr : r < n) :
    FnV Try.prog 115 [.slice (some ⟨b, 0, none⟩) n c, .int .i64 (p : Int), .int .i64 (q : Int), .int .i64 (r : Int), .pointer (some ⟨s, 0, none⟩)] (row s [.int .i64 z] 3 :: DD b c n d :: Γ) fun v Γ' => ∃ (x : Nat) (z' : Int), (x = p ∨ x = q ∨ x = r) ∧ v = .int .i64 (x : Int) ∧ Γ' = row s [.int .i64 z'] 3 :: DD b c n d :: Γ := by
  refine Fn.enter Try.func115 rfl rfl rfl fun E => ?_
  refine m_run ?_
  (apply TL.callV; exact rfl; exact callB_of (by kernel_rfl); exact rfl; exact fun _ h => h)
  exact order2_t b c n s p q z d Γ hsz hp hq
  rintro _ _ ⟨x1, y1, z1, h1, rfl, rfl⟩
  refine m_run ?_
  (apply TL.callV; exact rfl; exact callB_of (by kernel_rfl); exact rfl; exact fun _ h => h)
  exact order2_t b c n s y1 r z1 d Γ hsz (by omega) hr
  rintro _ _ ⟨x2, y2, z2, h2, rfl, rfl⟩
  refine m_run ?_
  (apply TL.callV; exact rfl; exact callB_of (by kernel_rfl); exact rfl; exact fun _ h => h)
  exact order2_t b c n s x1 x2 z2 d Γ hsz (by omega) (by omega)
  rintro _ _ ⟨x3, y3, z3, h3, rfl, rfl⟩
  refine m_run ?_
  (apply TK.ret1; exact rfl; exact rfl; (exact m_val))
  exact ⟨_, rfl, y3, z3, by omega, rfl, rfl⟩
set_option maxRecDepth 100000 in
set_option maxHeartbeats 4000000 in
theorem medAdj_t (b c n s p : Nat) (z : Int) (d : Array Int) (Γ : List HP) (hsz : d.size = n) (h1 : 1 ≤ p) (hp : p + 1 < n) (hn : n ≤ 1000000000) :
    FnV Try.prog 114 [.slice (some ⟨b, 0, none⟩) n c, .int .i64 (p : Int), .pointer (some ⟨s, 0, none⟩)] (row s [.int .i64 z] 3 :: DD b c n d :: Γ) fun v Γ' => ∃ (x : Nat) (z' : Int), (x + 1 = p ∨ x = p ∨ x = p + 1) ∧ v = .int .i64 (x : Int) ∧ Γ' = row s [.int .i64 z'] 3 :: DD b c n d :: Γ := by
  refine Fn.enter Try.func114 rfl rfl rfl fun E => ?_
  refine m_run ?_
  refine TL.know (t := 9) (v := .int .i64 ((p - 1 : Nat) : Int)) (congrArg (Value.int .i64) (by rw [i64_in (by omega) (by omega)]; omega)) ?_
  refine m_run ?_
  refine TL.know (t := 12) (v := .int .i64 ((p + 1 : Nat) : Int)) (congrArg (Value.int .i64) (by rw [i64_in (by omega) (by omega)]; omega)) ?_
  (apply TL.callV; exact rfl; exact callB_of (by kernel_rfl); exact rfl; exact fun _ h => h)
  exact median_t b c n s (p - 1) p (p + 1) z d Γ hsz (by omega) (by omega) hp
  rintro _ _ ⟨x, z1, h, rfl, rfl⟩
  refine m_run ?_
  (apply TK.ret1; exact rfl; exact rfl; (exact m_val))
  exact ⟨_, rfl, x, z1, by omega, rfl, rfl⟩
set_option maxRecDepth 100000 in
set_option maxHeartbeats 4000000 in
theorem pivot_t (b c n a e : Nat) (d : Array Int) (Γ : List HP) (hsz : d.size = n) (hae : a + 12 < e) (he : e ≤ n) (hn : n ≤ 1000000000) :
    FnV Try.prog 88 [.slice (some ⟨b, 0, none⟩) n c, .int .i64 (a : Int), .int .i64 (e : Int)] (DD b c n d :: Γ) fun v Γ' => ∃ (x : Nat) (z : Int), a ≤ x ∧ x < e ∧ (z = 0 ∨ z = 1 ∨ z = 2) ∧ v = .tuple #[.int .i64 (x : Int), .int .i64 z] ∧ Γ' = DD b c n d :: Γ := by
  refine Fn.enter Try.func88 rfl rfl rfl fun E => ?_
  have hq1 : (e - a) / 4 * 4 ≤ e - a := Nat.div_mul_le_self _ _
  have hq3 : 3 ≤ (e - a) / 4 := by omega
  have hqt : IntKind.i64.wrap (((e - a : Nat) : Int).tdiv 4) = (((e - a) / 4 : Nat) : Int) := by
    rw [show ((e - a : Nat) : Int).tdiv 4 = (((e - a) / 4 : Nat) : Int) from rfl, i64_in (by omega) (by omega)]
  have hq50 : 50 ≤ e - a → 12 ≤ (e - a) / 4 := by omega
  generalize (e - a) / 4 = q at *
  refine m_run ?_
  refine TL.know (t := 8) (v := .int .i64 ((e - a : Nat) : Int)) (congrArg (Value.int .i64) (by rw [i64_in (by omega) (by omega)]; omega)) ?_
  refine m_run ?_
  (apply TL.alloc; exact rfl; exact tb rfl; (exact m_lst))
  intro s
  refine m_run ?_
  refine TK.know (t := 10) (v := .int .i64 ((a + q * 1 : Nat) : Int)) (congrArg (Value.int .i64) (by rw [hqt, i64_in (x := (q : Int) * 1) (by omega) (by omega), i64_in (by omega) (by omega)]; omega)) ?_
  refine TK.know (t := 11) (v := .int .i64 ((a + q * 2 : Nat) : Int)) (congrArg (Value.int .i64) (by rw [hqt, i64_in (x := (q : Int) * 2) (by omega) (by omega), i64_in (by omega) (by omega)]; omega)) ?_
  refine TK.know (t := 12) (v := .int .i64 ((a + q * 3 : Nat) : Int)) (congrArg (Value.int .i64) (by rw [hqt, i64_in (x := (q : Int) * 3) (by omega) (by omega), i64_in (by omega) (by omega)]; omega)) ?_
  refine TK.imp (Δ := row s [.int .i64 0] 3 :: DD b c n d :: Γ) (fun _ h => h) ?_
  by_cases h50 : 50 ≤ e - a
  · have hbig := hq50 h50
    refine m_run ?_
    (apply TL.callV; exact rfl; exact callB_of (by kernel_rfl); exact rfl; exact fun _ h => h)
    exact medAdj_t b c n s (a + q * 1) 0 d Γ hsz (by omega) (by omega) hn
    rintro _ _ ⟨x1, z1, h1, rfl, rfl⟩
    refine m_run ?_
    (apply TL.callV; exact rfl; exact callB_of (by kernel_rfl); exact rfl; exact fun _ h => h)
    exact medAdj_t b c n s (a + q * 2) z1 d Γ hsz (by omega) (by omega) hn
    rintro _ _ ⟨x2, z2, h2, rfl, rfl⟩
    refine m_run ?_
    (apply TL.callV; exact rfl; exact callB_of (by kernel_rfl); exact rfl; exact fun _ h => h)
    exact medAdj_t b c n s (a + q * 3) z2 d Γ hsz (by omega) (by omega) hn
    rintro _ _ ⟨x3, z3, h3, rfl, rfl⟩
    refine m_run ?_
    (apply TL.callV; exact rfl; exact callB_of (by kernel_rfl); exact rfl; exact fun _ h => h)
    exact median_t b c n s x1 x2 x3 z3 d Γ hsz (by omega) (by omega) (by omega)
    rintro _ _ ⟨x, z, h, rfl, rfl⟩
    by_cases hz : z = 0
    · refine m_run ?_
      (apply TK.retS2; exact rfl; exact rfl; (exact m_val); (exact m_val))
      · exact ⟨_, rfl, x, 1, by omega, by omega, .inr (.inl rfl), rfl, rfl⟩
      · (repeat (first | exact List.Sublist.refl _ | apply List.Sublist.cons_cons | apply List.Sublist.cons))
    · by_cases hz2 : z = 12
      · refine m_run ?_
        (apply TK.retS2; exact rfl; exact rfl; (exact m_val); (exact m_val))
        · exact ⟨_, rfl, x, 2, by omega, by omega, .inr (.inr rfl), rfl, rfl⟩
        · (repeat (first | exact List.Sublist.refl _ | apply List.Sublist.cons_cons | apply List.Sublist.cons))
      · refine m_run ?_
        (apply TK.retS2; exact rfl; exact rfl; (exact m_val); (exact m_val))
        · exact ⟨_, rfl, x, 0, by omega, by omega, .inl rfl, rfl, rfl⟩
        · (repeat (first | exact List.Sublist.refl _ | apply List.Sublist.cons_cons | apply List.Sublist.cons))
  · refine m_run ?_
    (apply TL.callV; exact rfl; exact callB_of (by kernel_rfl); exact rfl; exact fun _ h => h)
    exact median_t b c n s (a + q * 1) (a + q * 2) (a + q * 3) 0 d Γ hsz (by omega) (by omega) (by omega)
    rintro _ _ ⟨x, z, h, rfl, rfl⟩
    by_cases hz : z = 0
    · refine m_run ?_
      (apply TK.retS2; exact rfl; exact rfl; (exact m_val); (exact m_val))
      · exact ⟨_, rfl, x, 1, by omega, by omega, .inr (.inl rfl), rfl, rfl⟩
      · (repeat (first | exact List.Sublist.refl _ | apply List.Sublist.cons_cons | apply List.Sublist.cons))
    · by_cases hz2 : z = 12
      · refine m_run ?_
        (apply TK.retS2; exact rfl; exact rfl; (exact m_val); (exact m_val))
        · exact ⟨_, rfl, x, 2, by omega, by omega, .inr (.inr rfl), rfl, rfl⟩
        · (repeat (first | exact List.Sublist.refl _ | apply List.Sublist.cons_cons | apply List.Sublist.cons))
      · refine m_run ?_
        (apply TK.retS2; exact rfl; exact rfl; (exact m_val); (exact m_val))
        · exact ⟨_, rfl, x, 0, by omega, by omega, .inl rfl, rfl, rfl⟩
        · (repeat (first | exact List.Sublist.refl _ | apply List.Sublist.cons_cons | apply List.Sublist.cons))
set_option maxRecDepth 100000 in
set_option maxHeartbeats 4000000 in
theorem rev_t (b c n a e : Nat) (d0 : Array Int) (Γ : List HP) (hsz0 : d0.size = n) (hae : a < e) (he : e ≤ n) (hn : n ≤ 1000000000) :
    FnV Try.prog 89 [.slice (some ⟨b, 0, none⟩) n c, .int .i64 (a : Int), .int .i64 (e : Int)] (DD b c n d0 :: Γ) fun v Γ' => v = .tuple #[] ∧ Γ' = DD b c n (reverseRange d0 a e) :: Γ := by
  refine Fn.enter Try.func89 rfl rfl rfl fun E => ?_
  unfold reverseRange
  generalize hX : reverseLoop a (e - 1) d0 = X
  refine m_run ?_
  apply TK.iter (fun m ρ' Γ' => ∃ (i j : Nat) (d : Array Int), j + 1 - i ≤ m ∧ i ≤ n ∧ j < n ∧ d.size = n ∧ reverseLoop i j d = X ∧ lk ρ' 0 = .slice (some ⟨b, 0, none⟩) n c ∧ lk ρ' 6 = .int .i64 (i : Int) ∧ lk ρ' 7 = .int .i64 (j : Int) ∧ Γ' = DD b c n d :: Γ) n
  · exact ⟨a, e - 1, d0, by omega, by omega, by omega, hsz0, hX, rfl, rfl, congrArg (Value.int .i64) (by rw [i64_in (by omega) (by omega)]; omega), rfl⟩
  rintro m IH ρ' _ ⟨i, j, d, hm, hi, hj, hsz, hX, e0, e6, e7, rfl⟩
  refine TK.know3 e0 e6 e7 ?_
  by_cases hij : i < j
  · rw [Sort.reverseLoop, if_pos hij] at hX
    refine m_run ?_
    have hcI := cellD (b := b) (c := c) (Γ := Γ) hsz (show i < n by omega)
    have hcK := cellD (b := b) (c := c) (Γ := Γ) hsz (show j < n by omega)
    refine TK.drawB mixed rfl 13 (DD b c n d :: Γ) (Γ) ?_
    refine m_bake (At.mk : At 0) ?_; refine m_bake (At.mk : At 1) ?_; refine m_bake (At.mk : At 2) ?_; refine m_bake (At.mk : At 3) ?_; refine m_bake (At.mk : At 4) ?_; refine m_bake (At.mk : At 5) ?_; refine m_bake (At.mk : At 6) ?_; refine m_bake (At.mk : At 7) ?_; refine m_bake (At.mk : At 8) ?_; refine m_bake (At.mk : At 9) ?_; refine m_bake (At.mk : At 10) ?_; refine m_bake (At.mk : At 11) ?_; refine m_bake (At.mk : At 12) ?_
    (apply TB.last; kernel_rfl; exact rfl)
    (apply TL.storeOwn 0 (i); exact rfl; exact rfl; exact rfl; exact rfl; exact tb rfl; exact rfl; exact (Nat.zero_add _).symm; exact (by omega))
    refine TL.back (by (focus ((repeat (first | assumption | exact Ent.refl _ | apply Ent.tail)); done))) ?_
    refine m_take (At.mk : At 14) ?_
    (apply TA.one 15; kernel_rfl; exact rfl)
    (apply TL.storeOwn 0 (j); exact rfl; exact rfl; exact rfl; exact rfl; exact tb rfl; exact rfl; exact (Nat.zero_add _).symm; exact (by omega))
    refine TL.back (by (focus ((repeat (first | assumption | exact Ent.refl _ | apply Ent.tail)); done))) ?_
    refine TA.done (by kernel_rfl) ?_
    refine TK.imp (Δ := DD b c n (swp d (i) (j)) :: Γ) (fun _ h => by show all (own _ _ _ _ (nums _ (swp d (i) (j)).toList) :: _) _; rw [← swpD]; exact h) ?_
    have hsz : (swp d (i) (j)).size = n := (size_swp _ _ _).trans hsz
    clear hcI hcK
    refine m_run ?_
    exact IH (m - 1) _ _ (by omega) ⟨i + 1, j - 1, _, by omega, by omega, by omega, hsz, hX, rfl, congrArg (Value.int .i64) (by rw [i64_in (by omega) (by omega)]; omega), congrArg (Value.int .i64) (by rw [i64_in (by omega) (by omega)]; omega), rfl⟩
  rw [Sort.reverseLoop, if_neg hij] at hX
  rw [hX]
  refine m_run ?_
  exact TK.over0 rfl rfl ⟨_, rfl, rfl, rfl⟩

set_option maxRecDepth 100000 in
set_option maxHeartbeats 4000000 in
theorem sift_t (b c n lo hi first : Nat) (d0 : Array Int) (Γ : List HP) (hsz0 : d0.size = n) (hlo : lo ≤ hi) (hf : first + hi ≤ n) (hn : n ≤ 1000000000) :
    FnV Try.prog 113 [.slice (some ⟨b, 0, none⟩) n c, .int .i64 (lo : Int), .int .i64 (hi : Int), .int .i64 (first : Int)] (DD b c n d0 :: Γ) fun v Γ' => v = .tuple #[] ∧ Γ' = DD b c n (siftDown ltInt hi first lo d0) :: Γ := by
  refine Fn.enter Try.func113 rfl rfl rfl fun E => ?_
  generalize hX : siftDown ltInt hi first lo d0 = X
  refine m_run ?_
  apply TK.iter (fun m ρ' Γ' => ∃ (root : Nat) (d : Array Int), hi - root ≤ m ∧ root ≤ hi ∧ d.size = n ∧ siftDown ltInt hi first root d = X ∧ lk ρ' 0 = .slice (some ⟨b, 0, none⟩) n c ∧ lk ρ' 2 = .int .i64 (hi : Int) ∧ lk ρ' 3 = .int .i64 (first : Int) ∧ lk ρ' 8 = .int .i64 (root : Int) ∧ Γ' = DD b c n d :: Γ) hi
  · exact ⟨lo, d0, by omega, hlo, hsz0, hX, rfl, rfl, rfl, rfl, rfl⟩
  rintro m IH ρ' _ ⟨root, d, hm, hrt, hsz, hX, e0, e2, e3, e8, rfl⟩
  refine TK.know4 e0 e2 e3 e8 ?_
  rw [Sort.siftDown] at hX
  by_cases hch : 2 * root + 1 ≥ hi
  · rw [dif_pos hch] at hX
    rw [hX]
    have hw : IntKind.i64.wrap (IntKind.i64.wrap (2 * (root : Int)) + 1) = ((2 * root + 1 : Nat) : Int) := by rw [i64_in (x := 2 * (root : Int)) (by omega) (by omega), i64_in (by omega) (by omega)]; omega
    refine m_run ?_
    refine TK.know (t := 16) (v := .bool true) (congrArg Value.bool (by rw [hw]; exact decide_eq_true (by omega))) ?_
    refine m_run ?_
    exact TK.over0 rfl rfl ⟨_, rfl, rfl, rfl⟩
  · rw [dif_neg hch] at hX
    have hw : IntKind.i64.wrap (IntKind.i64.wrap (2 * (root : Int)) + 1) = ((2 * root + 1 : Nat) : Int) := by rw [i64_in (x := 2 * (root : Int)) (by omega) (by omega), i64_in (by omega) (by omega)]; omega
    refine m_run ?_
    refine TK.know (t := 16) (v := .bool false) (congrArg Value.bool (by rw [hw]; exact decide_eq_false (by omega))) ?_
    refine TK.know (t := 9) (v := .int .i64 ((2 * root + 1 : Nat) : Int)) (congrArg (Value.int .i64) hw) ?_
    refine m_run ?_
    by_cases hr : 2 * root + 1 + 1 < hi
    · have hc1 := cellD (b := b) (c := c) (Γ := Γ) hsz (show first + (2 * root + 1) < n by omega)
      have hc2 := cellD (b := b) (c := c) (Γ := Γ) hsz (show first + (2 * root + 1) + 1 < n by omega)
      refine TK.drawS mixed rfl ?_
      refine m_take (At.mk : At 0) ?_; refine m_take (At.mk : At 1) ?_
      refine TA.know (t := 18) (v := .int .i64 ((2 * root + 1 + 1 : Nat) : Int)) (congrArg (Value.int .i64) (by rw [i64_in (by omega) (by omega)]; omega)) ?_
      refine m_take (At.mk : At 2) ?_; refine m_take (At.mk : At 3) ?_
      refine TA.isT 20 rfl (decide_eq_true (by omega)) ?_
      refine m_take (At.mk : At 4) ?_; refine m_take (At.mk : At 5) ?_; refine m_take (At.mk : At 6) ?_; refine m_take (At.mk : At 7) ?_; refine m_take (At.mk : At 8) ?_
      refine TA.know (t := 25) (v := .int .i64 ((first + (2 * root + 1) : Nat) : Int)) (congrArg (Value.int .i64) (by rw [i64_in (by omega) (by omega)]; omega)) ?_
      refine m_take (At.mk : At 9) ?_; refine m_take (At.mk : At 10) ?_; refine m_take (At.mk : At 11) ?_; refine m_take (At.mk : At 12) ?_; refine m_take (At.mk : At 13) ?_; refine m_take (At.mk : At 14) ?_
      refine TA.know (t := 31) (v := .int .i64 ((first + (2 * root + 1) : Nat) : Int)) (congrArg (Value.int .i64) (by rw [i64_in (by omega) (by omega)]; omega)) ?_
      refine m_take (At.mk : At 15) ?_
      refine TA.know (t := 32) (v := .int .i64 ((first + (2 * root + 1) + 1 : Nat) : Int)) (congrArg (Value.int .i64) (by rw [i64_in (by omega) (by omega)]; omega)) ?_
      refine m_take (At.mk : At 16) ?_; refine m_take (At.mk : At 17) ?_
      (apply TA.one 18; kernel_rfl; exact rfl)
      refine m_rrun ?_
      (apply TL.callV; exact rfl; exact callB_of (by kernel_rfl); exact rfl; exact fun _ h => h)
      exact less_t _ _ _
      rintro _ _ ⟨rfl, rfl⟩
      refine TL.back (by (focus ((repeat (first | assumption | exact Ent.refl _ | apply Ent.tail)); done))) ?_
      refine m_take (At.mk : At 19) ?_
      by_cases h1 : d[first + (2 * root + 1)]! < d[first + (2 * root + 1) + 1]!
      · rw [if_pos (by simp [ltInt, h1]; omega)] at hX
        refine TA.isT 36 rfl (decide_eq_true h1) ?_
        refine TA.done (by kernel_rfl) ?_
        clear hc1 hc2
        refine m_run ?_
        refine TK.know (t := 9) (v := .int .i64 ((2 * root + 2 : Nat) : Int)) (congrArg (Value.int .i64) (by rw [i64_in (by omega) (by omega)]; omega)) ?_
        have hc3 := cellD (b := b) (c := c) (Γ := Γ) hsz (show first + root < n by omega)
        have hc4 := cellD (b := b) (c := c) (Γ := Γ) hsz (show first + (2 * root + 2) < n by omega)
        refine m_run ?_
        refine TK.drawS mixed rfl ?_
        refine m_take (At.mk : At 0) ?_; refine m_take (At.mk : At 1) ?_; refine m_take (At.mk : At 2) ?_; refine m_take (At.mk : At 3) ?_
        refine TA.know (t := 42) (v := .int .i64 ((first + root : Nat) : Int)) (congrArg (Value.int .i64) (by rw [i64_in (by omega) (by omega)]; omega)) ?_
        refine m_take (At.mk : At 4) ?_; refine m_take (At.mk : At 5) ?_; refine m_take (At.mk : At 6) ?_; refine m_take (At.mk : At 7) ?_; refine m_take (At.mk : At 8) ?_; refine m_take (At.mk : At 9) ?_
        refine TA.know (t := 48) (v := .int .i64 ((first + (2 * root + 2) : Nat) : Int)) (congrArg (Value.int .i64) (by rw [i64_in (by omega) (by omega)]; omega)) ?_
        refine m_take (At.mk : At 10) ?_; refine m_take (At.mk : At 11) ?_
        (apply TA.one 12; kernel_rfl; exact rfl)
        (apply TL.callV; exact rfl; exact callB_of (by kernel_rfl); exact rfl; exact fun _ h => h)
        exact less_t _ _ _
        rintro _ _ ⟨rfl, rfl⟩
        refine TL.back (by (focus ((repeat (first | assumption | exact Ent.refl _ | apply Ent.tail)); done))) ?_
        refine m_take (At.mk : At 13) ?_
        by_cases h2 : d[first + root]! < d[first + (2 * root + 2)]!
        · refine TA.isF 52 rfl (not_f (decide_eq_true h2)) ?_
          refine TA.done (by kernel_rfl) ?_
          rw [if_neg (by simp [ltInt, h2])] at hX
          rw [dif_pos (by omega)] at hX
          clear hc3 hc4
          refine m_run ?_
          have hcI := cellD (b := b) (c := c) (Γ := Γ) hsz (show first + root < n by omega)
          have hcK := cellD (b := b) (c := c) (Γ := Γ) hsz (show first + (2 * root + 2) < n by omega)
          refine TK.drawB mixed rfl 21 (DD b c n d :: Γ) (Γ) ?_
          refine m_bake (At.mk : At 0) ?_; refine m_bake (At.mk : At 1) ?_; refine m_bake (At.mk : At 2) ?_; refine m_bake (At.mk : At 3) ?_
          refine TB.know (t := 56) (v := .int .i64 ((first + root : Nat) : Int)) (congrArg (Value.int .i64) (by rw [i64_in (by omega) (by omega)]; omega)) ?_
          refine m_bake (At.mk : At 4) ?_; refine m_bake (At.mk : At 5) ?_; refine m_bake (At.mk : At 6) ?_; refine m_bake (At.mk : At 7) ?_
          refine TB.know (t := 60) (v := .int .i64 ((first + (2 * root + 2) : Nat) : Int)) (congrArg (Value.int .i64) (by rw [i64_in (by omega) (by omega)]; omega)) ?_
          refine m_bake (At.mk : At 8) ?_; refine m_bake (At.mk : At 9) ?_; refine m_bake (At.mk : At 10) ?_; refine m_bake (At.mk : At 11) ?_
          refine TB.know (t := 64) (v := .int .i64 ((first + (2 * root + 2) : Nat) : Int)) (congrArg (Value.int .i64) (by rw [i64_in (by omega) (by omega)]; omega)) ?_
          refine m_bake (At.mk : At 12) ?_; refine m_bake (At.mk : At 13) ?_; refine m_bake (At.mk : At 14) ?_; refine m_bake (At.mk : At 15) ?_; refine m_bake (At.mk : At 16) ?_; refine m_bake (At.mk : At 17) ?_
          refine TB.know (t := 70) (v := .int .i64 ((first + root : Nat) : Int)) (congrArg (Value.int .i64) (by rw [i64_in (by omega) (by omega)]; omega)) ?_
          refine m_bake (At.mk : At 18) ?_; refine m_bake (At.mk : At 19) ?_; refine m_bake (At.mk : At 20) ?_
          (apply TB.last; kernel_rfl; exact rfl)
          (apply TL.storeOwn 0 (first + root); exact rfl; exact rfl; exact rfl; exact rfl; exact tb rfl; exact rfl; exact (Nat.zero_add _).symm; exact (by omega))
          refine TL.back (by (focus ((repeat (first | assumption | exact Ent.refl _ | apply Ent.tail)); done))) ?_
          refine m_take (At.mk : At 22) ?_
          (apply TA.one 23; kernel_rfl; exact rfl)
          (apply TL.storeOwn 0 (first + (2 * root + 2)); exact rfl; exact rfl; exact rfl; exact rfl; exact tb rfl; exact rfl; exact (Nat.zero_add _).symm; exact (by omega))
          refine TL.back (by (focus ((repeat (first | assumption | exact Ent.refl _ | apply Ent.tail)); done))) ?_
          refine TA.done (by kernel_rfl) ?_
          refine TK.imp (Δ := DD b c n (swp d (first + root) (first + (2 * root + 2))) :: Γ) (fun _ h => by show all (own _ _ _ _ (nums _ (swp d (first + root) (first + (2 * root + 2))).toList) :: _) _; rw [← swpD]; exact h) ?_
          have hsz : (swp d (first + root) (first + (2 * root + 2))).size = n := (size_swp _ _ _).trans hsz
          clear hcI hcK
          refine m_run ?_
          exact IH (m - 1) _ _ (by omega) ⟨2 * root + 2, _, by omega, by omega, hsz, hX, rfl, rfl, rfl, rfl, rfl⟩
        · refine TA.isT 52 rfl (not_t (decide_eq_false h2)) ?_
          refine TA.done (by kernel_rfl) ?_
          rw [if_pos (by simp [ltInt, h2])] at hX
          rw [hX]
          refine m_run ?_
          (apply TK.ret0; exact rfl; exact rfl)
          exact ⟨_, rfl, rfl, rfl⟩
      · rw [if_neg (by simp [ltInt, h1])] at hX
        refine TA.isF 36 rfl (decide_eq_false h1) ?_
        refine TA.done (by kernel_rfl) ?_
        clear hc1 hc2
        have hc3 := cellD (b := b) (c := c) (Γ := Γ) hsz (show first + root < n by omega)
        have hc4 := cellD (b := b) (c := c) (Γ := Γ) hsz (show first + (2 * root + 1) < n by omega)
        refine m_run ?_
        refine TK.drawS mixed rfl ?_
        refine m_take (At.mk : At 0) ?_; refine m_take (At.mk : At 1) ?_; refine m_take (At.mk : At 2) ?_; refine m_take (At.mk : At 3) ?_
        refine TA.know (t := 42) (v := .int .i64 ((first + root : Nat) : Int)) (congrArg (Value.int .i64) (by rw [i64_in (by omega) (by omega)]; omega)) ?_
        refine m_take (At.mk : At 4) ?_; refine m_take (At.mk : At 5) ?_; refine m_take (At.mk : At 6) ?_; refine m_take (At.mk : At 7) ?_; refine m_take (At.mk : At 8) ?_; refine m_take (At.mk : At 9) ?_
        refine TA.know (t := 48) (v := .int .i64 ((first + (2 * root + 1) : Nat) : Int)) (congrArg (Value.int .i64) (by rw [i64_in (by omega) (by omega)]; omega)) ?_
        refine m_take (At.mk : At 10) ?_; refine m_take (At.mk : At 11) ?_
        (apply TA.one 12; kernel_rfl; exact rfl)
        (apply TL.callV; exact rfl; exact callB_of (by kernel_rfl); exact rfl; exact fun _ h => h)
        exact less_t _ _ _
        rintro _ _ ⟨rfl, rfl⟩
        refine TL.back (by (focus ((repeat (first | assumption | exact Ent.refl _ | apply Ent.tail)); done))) ?_
        refine m_take (At.mk : At 13) ?_
        by_cases h2 : d[first + root]! < d[first + (2 * root + 1)]!
        · refine TA.isF 52 rfl (not_f (decide_eq_true h2)) ?_
          refine TA.done (by kernel_rfl) ?_
          rw [if_neg (by simp [ltInt, h2])] at hX
          skip
          clear hc3 hc4
          refine m_run ?_
          have hcI := cellD (b := b) (c := c) (Γ := Γ) hsz (show first + root < n by omega)
          have hcK := cellD (b := b) (c := c) (Γ := Γ) hsz (show first + (2 * root + 1) < n by omega)
          refine TK.drawB mixed rfl 21 (DD b c n d :: Γ) (Γ) ?_
          refine m_bake (At.mk : At 0) ?_; refine m_bake (At.mk : At 1) ?_; refine m_bake (At.mk : At 2) ?_; refine m_bake (At.mk : At 3) ?_
          refine TB.know (t := 56) (v := .int .i64 ((first + root : Nat) : Int)) (congrArg (Value.int .i64) (by rw [i64_in (by omega) (by omega)]; omega)) ?_
          refine m_bake (At.mk : At 4) ?_; refine m_bake (At.mk : At 5) ?_; refine m_bake (At.mk : At 6) ?_; refine m_bake (At.mk : At 7) ?_
          refine TB.know (t := 60) (v := .int .i64 ((first + (2 * root + 1) : Nat) : Int)) (congrArg (Value.int .i64) (by rw [i64_in (by omega) (by omega)]; omega)) ?_
          refine m_bake (At.mk : At 8) ?_; refine m_bake (At.mk : At 9) ?_; refine m_bake (At.mk : At 10) ?_; refine m_bake (At.mk : At 11) ?_
          refine TB.know (t := 64) (v := .int .i64 ((first + (2 * root + 1) : Nat) : Int)) (congrArg (Value.int .i64) (by rw [i64_in (by omega) (by omega)]; omega)) ?_
          refine m_bake (At.mk : At 12) ?_; refine m_bake (At.mk : At 13) ?_; refine m_bake (At.mk : At 14) ?_; refine m_bake (At.mk : At 15) ?_; refine m_bake (At.mk : At 16) ?_; refine m_bake (At.mk : At 17) ?_
          refine TB.know (t := 70) (v := .int .i64 ((first + root : Nat) : Int)) (congrArg (Value.int .i64) (by rw [i64_in (by omega) (by omega)]; omega)) ?_
          refine m_bake (At.mk : At 18) ?_; refine m_bake (At.mk : At 19) ?_; refine m_bake (At.mk : At 20) ?_
          (apply TB.last; kernel_rfl; exact rfl)
          (apply TL.storeOwn 0 (first + root); exact rfl; exact rfl; exact rfl; exact rfl; exact tb rfl; exact rfl; exact (Nat.zero_add _).symm; exact (by omega))
          refine TL.back (by (focus ((repeat (first | assumption | exact Ent.refl _ | apply Ent.tail)); done))) ?_
          refine m_take (At.mk : At 22) ?_
          (apply TA.one 23; kernel_rfl; exact rfl)
          (apply TL.storeOwn 0 (first + (2 * root + 1)); exact rfl; exact rfl; exact rfl; exact rfl; exact tb rfl; exact rfl; exact (Nat.zero_add _).symm; exact (by omega))
          refine TL.back (by (focus ((repeat (first | assumption | exact Ent.refl _ | apply Ent.tail)); done))) ?_
          refine TA.done (by kernel_rfl) ?_
          refine TK.imp (Δ := DD b c n (swp d (first + root) (first + (2 * root + 1))) :: Γ) (fun _ h => by show all (own _ _ _ _ (nums _ (swp d (first + root) (first + (2 * root + 1))).toList) :: _) _; rw [← swpD]; exact h) ?_
          have hsz : (swp d (first + root) (first + (2 * root + 1))).size = n := (size_swp _ _ _).trans hsz
          clear hcI hcK
          refine m_run ?_
          exact IH (m - 1) _ _ (by omega) ⟨2 * root + 1, _, by omega, by omega, hsz, hX, rfl, rfl, rfl, rfl, rfl⟩
        · refine TA.isT 52 rfl (not_t (decide_eq_false h2)) ?_
          refine TA.done (by kernel_rfl) ?_
          rw [if_pos (by simp [ltInt, h2])] at hX
          rw [hX]
          refine m_run ?_
          (apply TK.ret0; exact rfl; exact rfl)
          exact ⟨_, rfl, rfl, rfl⟩
    · rw [if_neg (by simp; omega)] at hX
      refine TK.drawS mixed rfl ?_
      refine m_take (At.mk : At 0) ?_; refine m_take (At.mk : At 1) ?_
      refine TA.know (t := 18) (v := .int .i64 ((2 * root + 1 + 1 : Nat) : Int)) (congrArg (Value.int .i64) (by rw [i64_in (by omega) (by omega)]; omega)) ?_
      refine m_take (At.mk : At 2) ?_; refine m_take (At.mk : At 3) ?_
      refine TA.isF 20 rfl (decide_eq_false (by omega)) ?_
      refine m_take (At.mk : At 4) ?_; refine m_take (At.mk : At 5) ?_; refine m_take (At.mk : At 6) ?_; refine m_take (At.mk : At 7) ?_; refine m_take (At.mk : At 8) ?_; refine m_take (At.mk : At 9) ?_; refine m_take (At.mk : At 10) ?_; refine m_take (At.mk : At 11) ?_; refine m_take (At.mk : At 12) ?_; refine m_take (At.mk : At 13) ?_; refine m_take (At.mk : At 14) ?_; refine m_take (At.mk : At 15) ?_; refine m_take (At.mk : At 16) ?_; refine m_take (At.mk : At 17) ?_; refine m_take (At.mk : At 18) ?_; refine m_take (At.mk : At 19) ?_
      refine TA.done (by kernel_rfl) ?_
      have hc3 := cellD (b := b) (c := c) (Γ := Γ) hsz (show first + root < n by omega)
      have hc4 := cellD (b := b) (c := c) (Γ := Γ) hsz (show first + (2 * root + 1) < n by omega)
      refine m_run ?_
      refine TK.drawS mixed rfl ?_
      refine m_take (At.mk : At 0) ?_; refine m_take (At.mk : At 1) ?_; refine m_take (At.mk : At 2) ?_; refine m_take (At.mk : At 3) ?_
      refine TA.know (t := 42) (v := .int .i64 ((first + root : Nat) : Int)) (congrArg (Value.int .i64) (by rw [i64_in (by omega) (by omega)]; omega)) ?_
      refine m_take (At.mk : At 4) ?_; refine m_take (At.mk : At 5) ?_; refine m_take (At.mk : At 6) ?_; refine m_take (At.mk : At 7) ?_; refine m_take (At.mk : At 8) ?_; refine m_take (At.mk : At 9) ?_
      refine TA.know (t := 48) (v := .int .i64 ((first + (2 * root + 1) : Nat) : Int)) (congrArg (Value.int .i64) (by rw [i64_in (by omega) (by omega)]; omega)) ?_
      refine m_take (At.mk : At 10) ?_; refine m_take (At.mk : At 11) ?_
      (apply TA.one 12; kernel_rfl; exact rfl)
      (apply TL.callV; exact rfl; exact callB_of (by kernel_rfl); exact rfl; exact fun _ h => h)
      exact less_t _ _ _
      rintro _ _ ⟨rfl, rfl⟩
      refine TL.back (by (focus ((repeat (first | assumption | exact Ent.refl _ | apply Ent.tail)); done))) ?_
      refine m_take (At.mk : At 13) ?_
      by_cases h2 : d[first + root]! < d[first + (2 * root + 1)]!
      · refine TA.isF 52 rfl (not_f (decide_eq_true h2)) ?_
        refine TA.done (by kernel_rfl) ?_
        rw [if_neg (by simp [ltInt, h2])] at hX
        skip
        clear hc3 hc4
        refine m_run ?_
        have hcI := cellD (b := b) (c := c) (Γ := Γ) hsz (show first + root < n by omega)
        have hcK := cellD (b := b) (c := c) (Γ := Γ) hsz (show first + (2 * root + 1) < n by omega)
        refine TK.drawB mixed rfl 21 (DD b c n d :: Γ) (Γ) ?_
        refine m_bake (At.mk : At 0) ?_; refine m_bake (At.mk : At 1) ?_; refine m_bake (At.mk : At 2) ?_; refine m_bake (At.mk : At 3) ?_
        refine TB.know (t := 56) (v := .int .i64 ((first + root : Nat) : Int)) (congrArg (Value.int .i64) (by rw [i64_in (by omega) (by omega)]; omega)) ?_
        refine m_bake (At.mk : At 4) ?_; refine m_bake (At.mk : At 5) ?_; refine m_bake (At.mk : At 6) ?_; refine m_bake (At.mk : At 7) ?_
        refine TB.know (t := 60) (v := .int .i64 ((first + (2 * root + 1) : Nat) : Int)) (congrArg (Value.int .i64) (by rw [i64_in (by omega) (by omega)]; omega)) ?_
        refine m_bake (At.mk : At 8) ?_; refine m_bake (At.mk : At 9) ?_; refine m_bake (At.mk : At 10) ?_; refine m_bake (At.mk : At 11) ?_
        refine TB.know (t := 64) (v := .int .i64 ((first + (2 * root + 1) : Nat) : Int)) (congrArg (Value.int .i64) (by rw [i64_in (by omega) (by omega)]; omega)) ?_
        refine m_bake (At.mk : At 12) ?_; refine m_bake (At.mk : At 13) ?_; refine m_bake (At.mk : At 14) ?_; refine m_bake (At.mk : At 15) ?_; refine m_bake (At.mk : At 16) ?_; refine m_bake (At.mk : At 17) ?_
        refine TB.know (t := 70) (v := .int .i64 ((first + root : Nat) : Int)) (congrArg (Value.int .i64) (by rw [i64_in (by omega) (by omega)]; omega)) ?_
        refine m_bake (At.mk : At 18) ?_; refine m_bake (At.mk : At 19) ?_; refine m_bake (At.mk : At 20) ?_
        (apply TB.last; kernel_rfl; exact rfl)
        (apply TL.storeOwn 0 (first + root); exact rfl; exact rfl; exact rfl; exact rfl; exact tb rfl; exact rfl; exact (Nat.zero_add _).symm; exact (by omega))
        refine TL.back (by (focus ((repeat (first | assumption | exact Ent.refl _ | apply Ent.tail)); done))) ?_
        refine m_take (At.mk : At 22) ?_
        (apply TA.one 23; kernel_rfl; exact rfl)
        (apply TL.storeOwn 0 (first + (2 * root + 1)); exact rfl; exact rfl; exact rfl; exact rfl; exact tb rfl; exact rfl; exact (Nat.zero_add _).symm; exact (by omega))
        refine TL.back (by (focus ((repeat (first | assumption | exact Ent.refl _ | apply Ent.tail)); done))) ?_
        refine TA.done (by kernel_rfl) ?_
        refine TK.imp (Δ := DD b c n (swp d (first + root) (first + (2 * root + 1))) :: Γ) (fun _ h => by show all (own _ _ _ _ (nums _ (swp d (first + root) (first + (2 * root + 1))).toList) :: _) _; rw [← swpD]; exact h) ?_
        have hsz : (swp d (first + root) (first + (2 * root + 1))).size = n := (size_swp _ _ _).trans hsz
        clear hcI hcK
        refine m_run ?_
        exact IH (m - 1) _ _ (by omega) ⟨2 * root + 1, _, by omega, by omega, hsz, hX, rfl, rfl, rfl, rfl, rfl⟩
      · refine TA.isT 52 rfl (not_t (decide_eq_false h2)) ?_
        refine TA.done (by kernel_rfl) ?_
        rw [if_pos (by simp [ltInt, h2])] at hX
        rw [hX]
        refine m_run ?_
        (apply TK.ret0; exact rfl; exact rfl)
        exact ⟨_, rfl, rfl, rfl⟩

theorem sift_size (hi first root : Nat) (d : Array Int) (h : first + hi ≤ d.size) : (siftDown ltInt hi first root d).size = d.size := by
  have key : ∀ (N root : Nat) (d : Array Int), hi - root ≤ N → (siftDown ltInt hi first root d).size = d.size := by
    intro N
    induction N with
    | zero => intro root d hN; rw [Sort.siftDown, dif_pos (by omega)]
    | succ N ih =>
      intro root d hN
      rw [Sort.siftDown]
      split
      · rfl
      · split
        · split
          · rfl
          · split
            · rw [ih _ _ (by omega), size_swp]
            · rfl
        · split
          · rfl
          · rw [ih _ _ (by omega), size_swp]
  exact key _ root d (Nat.le_refl _)
set_option maxRecDepth 100000 in
set_option maxHeartbeats 4000000 in
theorem heap_t (b c n a e : Nat) (d0 : Array Int) (Γ : List HP) (hsz0 : d0.size = n) (hae : a < e) (he : e ≤ n) (hn : n ≤ 1000000000) :
    FnV Try.prog 86 [.slice (some ⟨b, 0, none⟩) n c, .int .i64 (a : Int), .int .i64 (e : Int)] (DD b c n d0 :: Γ) fun v Γ' => v = .tuple #[] ∧ Γ' = DD b c n (heapSort ltInt d0 a e) :: Γ := by
  refine Fn.enter Try.func86 rfl rfl rfl fun E => ?_
  unfold heapSort
  generalize hB : heapBuild ltInt (e - a) a ((e - a - 1) / 2 + 1) d0 = B
  generalize hX : heapPop ltInt a (e - a) B = X
  have hq : IntKind.i64.wrap ((IntKind.i64.wrap (((e - a : Nat) : Int) - 1)).tdiv 2) = (((e - a - 1) / 2 : Nat) : Int) := by
    rw [i64_in (x := ((e - a : Nat) : Int) - 1) (by omega) (by omega), show ((e - a : Nat) : Int) - 1 = ((e - a - 1 : Nat) : Int) by omega, show ((e - a - 1 : Nat) : Int).tdiv 2 = (((e - a - 1) / 2 : Nat) : Int) from rfl, i64_in (by omega) (by omega)]
  refine m_run ?_
  refine TK.know (t := 8) (v := .int .i64 ((e - a : Nat) : Int)) (congrArg (Value.int .i64) (by rw [i64_in (by omega) (by omega)]; omega)) ?_
  refine m_run ?_
  apply TK.iter (fun m ρ' Γ' => ∃ (d : Array Int), m ≤ (e - a - 1) / 2 + 1 ∧ d.size = n ∧ heapBuild ltInt (e - a) a m d = B ∧ lk ρ' 0 = .slice (some ⟨b, 0, none⟩) n c ∧ lk ρ' 6 = .int .i64 (a : Int) ∧ lk ρ' 7 = .int .i64 0 ∧ lk ρ' 8 = .int .i64 ((e - a : Nat) : Int) ∧ lk ρ' 9 = .int .i64 ((m : Int) - 1) ∧ Γ' = DD b c n d :: Γ) ((e - a - 1) / 2 + 1)
  · exact ⟨d0, Nat.le_refl _, hsz0, hB, rfl, rfl, rfl, rfl, congrArg (Value.int .i64) (by
      rw [show IntKind.i64.wrap ((e : Int) - (a : Int)) = ((e - a : Nat) : Int) by rw [i64_in (by omega) (by omega)]; omega, hq]; omega), rfl⟩
  clear hB
  rintro m IH ρ' _ ⟨d, hm, hsz, hB, e0, e6, e7, e8, e9, rfl⟩
  refine TK.know5 e0 e6 e7 e8 e9 ?_
  cases m with
  | succ m =>
    rw [Sort.heapBuild] at hB
    refine TK.know (t := 9) (v := .int .i64 (m : Int)) (congrArg (Value.int .i64) (by omega)) ?_
    refine m_run ?_
    (apply TL.callV; exact rfl; exact callB_of (by kernel_rfl); exact rfl; exact fun _ h => h)
    exact sift_t b c n m (e - a) a d Γ hsz (by omega) (by omega) hn
    rintro _ _ ⟨rfl, rfl⟩
    have hsz : (siftDown ltInt (e - a) a m d).size = n := (sift_size _ _ _ _ (by omega)).trans hsz
    refine m_run ?_
    exact IH m _ _ (by omega) ⟨_, by omega, hsz, hB, rfl, rfl, rfl, rfl, congrArg (Value.int .i64) (by rw [i64_in (by omega) (by omega)]), rfl⟩
  | zero =>
    rw [Sort.heapBuild] at hB
    rw [hB]
    refine TK.know (t := 9) (v := .int .i64 (-1)) (congrArg (Value.int .i64) (by omega)) ?_
    have hszB : B.size = n := hB ▸ hsz
    clear IH hB hsz
    refine m_run ?_
    apply TK.iter (fun m ρ' Γ' => ∃ (d : Array Int), m ≤ e - a ∧ d.size = n ∧ heapPop ltInt a m d = X ∧ lk ρ' 0 = .slice (some ⟨b, 0, none⟩) n c ∧ lk ρ' 6 = .int .i64 (a : Int) ∧ lk ρ' 7 = .int .i64 0 ∧ lk ρ' 10 = .int .i64 ((m : Int) - 1) ∧ Γ' = DD b c n d :: Γ) (e - a)
    · exact ⟨B, Nat.le_refl _, hszB, hX, rfl, rfl, rfl, congrArg (Value.int .i64) (by rw [i64_in (by omega) (by omega)]), rfl⟩
    clear hX
    rintro m IH ρ' _ ⟨d, hm, hsz, hX, e0, e6, e7, e10, rfl⟩
    refine TK.know4 e0 e6 e7 e10 ?_
    cases m with
    | succ m =>
      rw [Sort.heapPop] at hX
      refine TK.know (t := 10) (v := .int .i64 (m : Int)) (congrArg (Value.int .i64) (by omega)) ?_
      refine m_run ?_
      have hcI := cellD (b := b) (c := c) (Γ := Γ) hsz (show a < n by omega)
      have hcK := cellD (b := b) (c := c) (Γ := Γ) hsz (show a + m < n by omega)
      refine TK.drawB mixed rfl 17 (DD b c n d :: Γ) (Γ) ?_
      refine m_bake (At.mk : At 0) ?_; refine m_bake (At.mk : At 1) ?_; refine m_bake (At.mk : At 2) ?_; refine m_bake (At.mk : At 3) ?_; refine m_bake (At.mk : At 4) ?_; refine m_bake (At.mk : At 5) ?_
      refine TB.know (t := 38) (v := .int .i64 ((a + m : Nat) : Int)) (congrArg (Value.int .i64) (by rw [i64_in (by omega) (by omega)]; omega)) ?_
      refine m_bake (At.mk : At 6) ?_; refine m_bake (At.mk : At 7) ?_; refine m_bake (At.mk : At 8) ?_; refine m_bake (At.mk : At 9) ?_
      refine TB.know (t := 42) (v := .int .i64 ((a + m : Nat) : Int)) (congrArg (Value.int .i64) (by rw [i64_in (by omega) (by omega)]; omega)) ?_
      refine m_bake (At.mk : At 10) ?_; refine m_bake (At.mk : At 11) ?_; refine m_bake (At.mk : At 12) ?_; refine m_bake (At.mk : At 13) ?_; refine m_bake (At.mk : At 14) ?_; refine m_bake (At.mk : At 15) ?_; refine m_bake (At.mk : At 16) ?_
      (apply TB.last; kernel_rfl; exact rfl)
      (apply TL.storeOwn 0 (a); exact rfl; exact rfl; exact rfl; exact rfl; exact tb rfl; exact rfl; exact (Nat.zero_add _).symm; exact (by omega))
      refine TL.back (by (focus ((repeat (first | assumption | exact Ent.refl _ | apply Ent.tail)); done))) ?_
      refine m_take (At.mk : At 18) ?_
      (apply TA.one 19; kernel_rfl; exact rfl)
      (apply TL.storeOwn 0 (a + m); exact rfl; exact rfl; exact rfl; exact rfl; exact tb rfl; exact rfl; exact (Nat.zero_add _).symm; exact (by omega))
      refine TL.back (by (focus ((repeat (first | assumption | exact Ent.refl _ | apply Ent.tail)); done))) ?_
      refine TA.done (by kernel_rfl) ?_
      refine TK.imp (Δ := DD b c n (swp d (a) (a + m)) :: Γ) (fun _ h => by show all (own _ _ _ _ (nums _ (swp d (a) (a + m)).toList) :: _) _; rw [← swpD]; exact h) ?_
      have hsz : (swp d (a) (a + m)).size = n := (size_swp _ _ _).trans hsz
      clear hcI hcK
      refine m_run ?_
      (apply TL.callV; exact rfl; exact callB_of (by kernel_rfl); exact rfl; exact fun _ h => h)
      exact sift_t b c n 0 m a _ Γ hsz (by omega) (by omega) hn
      rintro _ _ ⟨rfl, rfl⟩
      have hsz : (siftDown ltInt m a 0 (swp d a (a + m))).size = n := (sift_size _ _ _ _ (by omega)).trans hsz
      refine m_run ?_
      exact IH m _ _ (by omega) ⟨_, by omega, hsz, hX, rfl, rfl, rfl, congrArg (Value.int .i64) (by rw [i64_in (by omega) (by omega)]), rfl⟩
    | zero =>
      rw [Sort.heapPop] at hX
      rw [hX]
      refine TK.know (t := 10) (v := .int .i64 (-1)) (congrArg (Value.int .i64) (by omega)) ?_
      refine m_run ?_
      exact TK.over0 rfl rfl ⟨_, rfl, rfl, rfl⟩

set_option maxRecDepth 100000 in
set_option maxHeartbeats 4000000 in
theorem partEq_t (b c n a e p : Nat) (d0 : Array Int) (Γ : List HP) (hsz0 : d0.size = n) (hap : a ≤ p) (hpe : p < e) (he : e ≤ n) (hn : n ≤ 1000000000) :
    FnV Try.prog 92 [.slice (some ⟨b, 0, none⟩) n c, .int .i64 (a : Int), .int .i64 (e : Int), .int .i64 (p : Int)] (DD b c n d0 :: Γ) fun v Γ' => v = .int .i64 ((partitionEqual ltInt d0 a e p).1 : Int) ∧ Γ' = DD b c n (partitionEqual ltInt d0 a e p).2 :: Γ := by
  refine Fn.enter Try.func92 rfl rfl rfl fun E => ?_
  unfold partitionEqual
  generalize hX : partEqLoop ltInt a (a + 1) (e - 1) (swp d0 a p) = X
  have hsz := hsz0
  refine m_run ?_
  have hcI := cellD (b := b) (c := c) (Γ := Γ) hsz (show a < n by omega)
  have hcK := cellD (b := b) (c := c) (Γ := Γ) hsz (show p < n by omega)
  refine TK.drawB mixed rfl 13 (DD b c n d0 :: Γ) (Γ) ?_
  refine m_bake (At.mk : At 0) ?_; refine m_bake (At.mk : At 1) ?_; refine m_bake (At.mk : At 2) ?_; refine m_bake (At.mk : At 3) ?_; refine m_bake (At.mk : At 4) ?_; refine m_bake (At.mk : At 5) ?_; refine m_bake (At.mk : At 6) ?_; refine m_bake (At.mk : At 7) ?_; refine m_bake (At.mk : At 8) ?_; refine m_bake (At.mk : At 9) ?_; refine m_bake (At.mk : At 10) ?_; refine m_bake (At.mk : At 11) ?_; refine m_bake (At.mk : At 12) ?_
  (apply TB.last; kernel_rfl; exact rfl)
  (apply TL.storeOwn 0 (a); exact rfl; exact rfl; exact rfl; exact rfl; exact tb rfl; exact rfl; exact (Nat.zero_add _).symm; exact (by omega))
  refine TL.back (by (focus ((repeat (first | assumption | exact Ent.refl _ | apply Ent.tail)); done))) ?_
  refine m_take (At.mk : At 14) ?_
  (apply TA.one 15; kernel_rfl; exact rfl)
  (apply TL.storeOwn 0 (p); exact rfl; exact rfl; exact rfl; exact rfl; exact tb rfl; exact rfl; exact (Nat.zero_add _).symm; exact (by omega))
  refine TL.back (by (focus ((repeat (first | assumption | exact Ent.refl _ | apply Ent.tail)); done))) ?_
  refine TA.done (by kernel_rfl) ?_
  refine TK.imp (Δ := DD b c n (swp d0 (a) (p)) :: Γ) (fun _ h => by show all (own _ _ _ _ (nums _ (swp d0 (a) (p)).toList) :: _) _; rw [← swpD]; exact h) ?_
  have hsz : (swp d0 (a) (p)).size = n := (size_swp _ _ _).trans hsz
  clear hcI hcK
  refine m_run ?_
  apply TK.iter (fun m ρ' Γ' => ∃ (i j : Nat) (d : Array Int), j + 1 - i ≤ m ∧ a + 1 ≤ i ∧ i ≤ j + 1 ∧ j < n ∧ d.size = n ∧ partEqLoop ltInt a i j d = X ∧ lk ρ' 0 = .slice (some ⟨b, 0, none⟩) n c ∧ lk ρ' 1 = .int .i64 (a : Int) ∧ lk ρ' 9 = .int .i64 (i : Int) ∧ lk ρ' 10 = .int .i64 (j : Int) ∧ Γ' = DD b c n d :: Γ) n
  · exact ⟨a + 1, e - 1, _, by omega, by omega, by omega, by omega, hsz, hX, rfl, rfl, congrArg (Value.int .i64) (by rw [i64_in (by omega) (by omega)]; omega), congrArg (Value.int .i64) (by rw [i64_in (by omega) (by omega)]; omega), rfl⟩
  clear hX hsz
  rintro m IH ρ' _ ⟨i, j, d, hm, hi1, hij, hjn, hsz, hX, e0, e1, e9, e10, rfl⟩
  refine TK.know4 e0 e1 e9 e10 ?_
  rw [partEqLoop_eq] at hX
  (repeat (first | refine TK.seq ?_ | refine TK.skip ?_))
  refine TK.block ?_
  (repeat (first | refine TK.seq ?_ | refine TK.skip ?_))
  apply TK.cut (fun ρ' Γ' => lk ρ' 0 = .slice (some ⟨b, 0, none⟩) n c ∧ lk ρ' 1 = .int .i64 (a : Int) ∧ lk ρ' 9 = .int .i64 ((scanUp (fun x => !ltInt d[a]! x) d (j) (i) : Nat) : Int) ∧ lk ρ' 10 = .int .i64 (j : Int) ∧ Γ' = DD b c n d :: Γ)
  · intro k' hk'
    generalize hS : scanUp (fun x => !ltInt d[a]! x) d (j) (i) = I at hk'
    refine m_run ?_
    apply TK.iter (fun m ρ' Γ' => ∃ (x : Nat), (j) + 1 - x ≤ m ∧ (i) ≤ x ∧ x ≤ (j) + 1 ∧ scanUp (fun x => !ltInt d[a]! x) d (j) x = I ∧ lk ρ' 0 = .slice (some ⟨b, 0, none⟩) n c ∧ lk ρ' 1 = .int .i64 (a : Int) ∧ lk ρ' 9 = .int .i64 (x : Int) ∧ lk ρ' 10 = .int .i64 (j : Int) ∧ Γ' = DD b c n d :: Γ) ((j) + 1)
    · exact ⟨i, by omega, Nat.le_refl _, by omega, hS, rfl, rfl, rfl, rfl, rfl⟩
    clear hS
    rintro m IH ρ' _ ⟨x, hm, hx1, hx2, hS, e0, e1, ei, ej, rfl⟩
    refine TK.know4 e0 e1 ei ej ?_
    rw [Sort.scanUp] at hS
    by_cases hx : x ≤ j
    · have hc1 := cellD (b := b) (c := c) (Γ := Γ) hsz (show x < n by omega)
      have hc2 := cellD (b := b) (c := c) (Γ := Γ) hsz (show a < n by omega)
      refine m_run ?_
      refine TK.drawS mixed rfl ?_
      refine m_take (At.mk : At 0) ?_; refine m_take (At.mk : At 1) ?_; refine m_take (At.mk : At 2) ?_
      refine TA.isT 31 rfl (decide_eq_true (by omega)) ?_
      refine m_take (At.mk : At 3) ?_; refine m_take (At.mk : At 4) ?_; refine m_take (At.mk : At 5) ?_; refine m_take (At.mk : At 6) ?_; refine m_take (At.mk : At 7) ?_; refine m_take (At.mk : At 8) ?_; refine m_take (At.mk : At 9) ?_; refine m_take (At.mk : At 10) ?_; refine m_take (At.mk : At 11) ?_
      (apply TA.one 12; kernel_rfl; exact rfl)
      refine m_rrun ?_
      (apply TL.callV; exact rfl; exact callB_of (by kernel_rfl); exact rfl; exact fun _ h => h)
      exact less_t _ _ _
      rintro _ _ ⟨rfl, rfl⟩
      refine TL.back (by (focus ((repeat (first | assumption | exact Ent.refl _ | apply Ent.tail)); done))) ?_
      refine m_take (At.mk : At 13) ?_; refine m_take (At.mk : At 14) ?_
      by_cases h : d[a]! < d[x]!
      · rw [if_neg (by simp [ltInt, h])] at hS
        refine TA.isF 43 rfl (not_f (decide_eq_true h)) ?_
        refine TA.done (by kernel_rfl) ?_
        clear hc1 hc2
        refine m_run ?_
        exact hk' _ _ ⟨rfl, rfl, congrArg (fun z : Nat => Value.int .i64 (z : Int)) hS, rfl, rfl⟩
      · rw [if_pos (by simp [ltInt, h]; omega)] at hS
        refine TA.isT 43 rfl (not_t (decide_eq_false h)) ?_
        refine TA.done (by kernel_rfl) ?_
        clear hc1 hc2
        refine m_run ?_
        exact IH (m - 1) _ _ (by omega) ⟨x + 1, by omega, by omega, by omega, hS, rfl, rfl, congrArg (Value.int .i64) (i64_succ x (by omega)), rfl, rfl⟩
    · rw [if_neg (by simp; omega)] at hS
      refine m_run ?_
      refine TK.drawS mixed rfl ?_
      refine m_take (At.mk : At 0) ?_; refine m_take (At.mk : At 1) ?_; refine m_take (At.mk : At 2) ?_
      refine TA.isF 31 rfl (decide_eq_false (by omega)) ?_
      refine m_take (At.mk : At 3) ?_; refine m_take (At.mk : At 4) ?_; refine m_take (At.mk : At 5) ?_; refine m_take (At.mk : At 6) ?_; refine m_take (At.mk : At 7) ?_; refine m_take (At.mk : At 8) ?_; refine m_take (At.mk : At 9) ?_; refine m_take (At.mk : At 10) ?_; refine m_take (At.mk : At 11) ?_; refine m_take (At.mk : At 12) ?_; refine m_take (At.mk : At 13) ?_; refine m_take (At.mk : At 14) ?_
      refine TA.done (by kernel_rfl) ?_
      refine m_run ?_
      exact hk' _ _ ⟨rfl, rfl, congrArg (fun z : Nat => Value.int .i64 (z : Int)) hS, rfl, rfl⟩
  rintro ρ' _ ⟨e0, e1, ei, ej, rfl⟩
  refine TK.know4 e0 e1 ei ej ?_
  obtain ⟨hs1, hs2, _, hs4⟩ := scanUp_spec (fun x => !ltInt d[a]! x) d j _ i rfl
  have hs2 := hs2 hij
  generalize hI : scanUp (fun x => !ltInt d[a]! x) d j i = i2 at *
  (repeat (first | refine TK.seq ?_ | refine TK.skip ?_))
  apply TK.cut (fun ρ' Γ' => lk ρ' 0 = .slice (some ⟨b, 0, none⟩) n c ∧ lk ρ' 1 = .int .i64 (a : Int) ∧ lk ρ' 9 = .int .i64 (i2 : Int) ∧ lk ρ' 10 = .int .i64 ((scanDown (fun x => ltInt d[a]! x) d (i2) (j) : Nat) : Int) ∧ Γ' = DD b c n d :: Γ)
  · intro k' hk'
    generalize hS : scanDown (fun x => ltInt d[a]! x) d (i2) (j) = J at hk'
    refine m_run ?_
    apply TK.iter (fun m ρ' Γ' => m ≤ j ∧ (i2) ≤ m + 1 ∧ scanDown (fun x => ltInt d[a]! x) d (i2) m = J ∧ lk ρ' 0 = .slice (some ⟨b, 0, none⟩) n c ∧ lk ρ' 1 = .int .i64 (a : Int) ∧ lk ρ' 9 = .int .i64 (i2 : Int) ∧ lk ρ' 10 = .int .i64 (m : Int) ∧ Γ' = DD b c n d :: Γ) (j)
    · exact ⟨Nat.le_refl _, by omega, hS, rfl, rfl, rfl, rfl, rfl⟩
    clear hS
    rintro x IH ρ' _ ⟨hx1, hx2, hS, e0, e1, ei, ej, rfl⟩
    refine TK.know4 e0 e1 ei ej ?_
    by_cases hx : i2 ≤ x
    · obtain ⟨w, rfl⟩ : ∃ w, x = w + 1 := ⟨x - 1, by omega⟩
      rw [Sort.scanDown] at hS
      have hc1 := cellD (b := b) (c := c) (Γ := Γ) hsz (show w + 1 < n by omega)
      have hc2 := cellD (b := b) (c := c) (Γ := Γ) hsz (show a < n by omega)
      refine m_run ?_
      refine TK.drawS mixed rfl ?_
      refine m_take (At.mk : At 0) ?_; refine m_take (At.mk : At 1) ?_; refine m_take (At.mk : At 2) ?_
      refine TA.isT 48 rfl (decide_eq_true (by omega)) ?_
      refine m_take (At.mk : At 3) ?_; refine m_take (At.mk : At 4) ?_; refine m_take (At.mk : At 5) ?_; refine m_take (At.mk : At 6) ?_; refine m_take (At.mk : At 7) ?_; refine m_take (At.mk : At 8) ?_; refine m_take (At.mk : At 9) ?_; refine m_take (At.mk : At 10) ?_; refine m_take (At.mk : At 11) ?_
      (apply TA.one 12; kernel_rfl; exact rfl)
      refine m_rrun ?_
      (apply TL.callV; exact rfl; exact callB_of (by kernel_rfl); exact rfl; exact fun _ h => h)
      exact less_t _ _ _
      rintro _ _ ⟨rfl, rfl⟩
      refine TL.back (by (focus ((repeat (first | assumption | exact Ent.refl _ | apply Ent.tail)); done))) ?_
      refine m_take (At.mk : At 13) ?_
      by_cases h : d[a]! < d[w + 1]!
      · rw [if_pos (by simp [ltInt, h]; omega)] at hS
        refine TA.isT 59 rfl (decide_eq_true h) ?_
        refine TA.done (by kernel_rfl) ?_
        clear hc1 hc2
        refine m_run ?_
        exact IH w _ _ (by omega) ⟨by omega, by omega, hS, rfl, rfl, rfl, congrArg (Value.int .i64) (by rw [i64_in (by omega) (by omega)]; omega), rfl⟩
      · rw [if_neg (by simp [ltInt, h])] at hS
        refine TA.isF 59 rfl (decide_eq_false h) ?_
        refine TA.done (by kernel_rfl) ?_
        clear hc1 hc2
        refine m_run ?_
        exact hk' _ _ ⟨rfl, rfl, rfl, congrArg (fun z : Nat => Value.int .i64 (z : Int)) hS, rfl⟩
    · have hS : x = J := by
        rw [← hS]
        cases x with
        | zero => rw [Sort.scanDown]
        | succ w => rw [Sort.scanDown, if_neg (by simp; omega)]
      refine m_run ?_
      refine TK.drawS mixed rfl ?_
      refine m_take (At.mk : At 0) ?_; refine m_take (At.mk : At 1) ?_; refine m_take (At.mk : At 2) ?_
      refine TA.isF 48 rfl (decide_eq_false (by omega)) ?_
      refine m_take (At.mk : At 3) ?_; refine m_take (At.mk : At 4) ?_; refine m_take (At.mk : At 5) ?_; refine m_take (At.mk : At 6) ?_; refine m_take (At.mk : At 7) ?_; refine m_take (At.mk : At 8) ?_; refine m_take (At.mk : At 9) ?_; refine m_take (At.mk : At 10) ?_; refine m_take (At.mk : At 11) ?_; refine m_take (At.mk : At 12) ?_; refine m_take (At.mk : At 13) ?_
      refine TA.done (by kernel_rfl) ?_
      refine m_run ?_
      exact hk' _ _ ⟨rfl, rfl, rfl, congrArg (fun z : Nat => Value.int .i64 (z : Int)) hS, rfl⟩
  rintro ρ' _ ⟨e0, e1, ei, ej, rfl⟩
  refine TK.know4 e0 e1 ei ej ?_
  obtain ⟨ht1, ht2, _, ht4⟩ := scanDown_spec (fun x => ltInt d[a]! x) d i2 j
  have ht2 := ht2 hs2
  generalize hJ : scanDown (fun x => ltInt d[a]! x) d i2 j = j2 at *
  by_cases hgt : i2 > j2
  · rw [if_pos hgt] at hX
    rw [← hX]
    refine m_run ?_
    (apply TK.ret1; exact rfl; exact rfl; (exact m_val))
    exact ⟨_, rfl, rfl, rfl⟩
  · rw [if_neg hgt] at hX
    have hne : i2 ≠ j2 := fun e => by
      have h1 := hs4 (by omega)
      have h2 := ht4 (by omega) (by omega)
      rw [← e] at h2
      simp only [h2] at h1
      cases h1
    refine m_run ?_
    have hcI := cellD (b := b) (c := c) (Γ := Γ) hsz (show i2 < n by omega)
    have hcK := cellD (b := b) (c := c) (Γ := Γ) hsz (show j2 < n by omega)
    refine TK.drawB mixed rfl 13 (DD b c n d :: Γ) (Γ) ?_
    refine m_bake (At.mk : At 0) ?_; refine m_bake (At.mk : At 1) ?_; refine m_bake (At.mk : At 2) ?_; refine m_bake (At.mk : At 3) ?_; refine m_bake (At.mk : At 4) ?_; refine m_bake (At.mk : At 5) ?_; refine m_bake (At.mk : At 6) ?_; refine m_bake (At.mk : At 7) ?_; refine m_bake (At.mk : At 8) ?_; refine m_bake (At.mk : At 9) ?_; refine m_bake (At.mk : At 10) ?_; refine m_bake (At.mk : At 11) ?_; refine m_bake (At.mk : At 12) ?_
    (apply TB.last; kernel_rfl; exact rfl)
    (apply TL.storeOwn 0 (i2); exact rfl; exact rfl; exact rfl; exact rfl; exact tb rfl; exact rfl; exact (Nat.zero_add _).symm; exact (by omega))
    refine TL.back (by (focus ((repeat (first | assumption | exact Ent.refl _ | apply Ent.tail)); done))) ?_
    refine m_take (At.mk : At 14) ?_
    (apply TA.one 15; kernel_rfl; exact rfl)
    (apply TL.storeOwn 0 (j2); exact rfl; exact rfl; exact rfl; exact rfl; exact tb rfl; exact rfl; exact (Nat.zero_add _).symm; exact (by omega))
    refine TL.back (by (focus ((repeat (first | assumption | exact Ent.refl _ | apply Ent.tail)); done))) ?_
    refine TA.done (by kernel_rfl) ?_
    refine TK.imp (Δ := DD b c n (swp d (i2) (j2)) :: Γ) (fun _ h => by show all (own _ _ _ _ (nums _ (swp d (i2) (j2)).toList) :: _) _; rw [← swpD]; exact h) ?_
    have hsz : (swp d (i2) (j2)).size = n := (size_swp _ _ _).trans hsz
    clear hcI hcK
    refine m_run ?_
    exact IH (m - 1) _ _ (by omega) ⟨i2 + 1, j2 - 1, _, by omega, by omega, by omega, by omega, hsz, hX, rfl, rfl, congrArg (Value.int .i64) (by rw [i64_in (by omega) (by omega)]; omega), congrArg (Value.int .i64) (by rw [i64_in (by omega) (by omega)]; omega), rfl⟩
end Go.Proofs.Ythbcfamfaicneaa.E.SI

/- Parted by a pivot. -/
namespace Go.Proofs.Ythbcfamfaicneaa.E.SI
open Go Go.RowKit Go.Proofs Go.Sort
attribute [local irreducible] TK TL TQ TA TB Fn PV Sort.insInner Sort.heapBuild Sort.heapPop Sort.scanDown Sort.shiftDown Sort.partialIns
set_option maxRecDepth 100000 in
set_option maxHeartbeats 4000000 in
theorem part_t (b c n a e p : Nat) (d0 : Array Int) (Γ : List HP) (hsz0 : d0.size = n) (hap : a ≤ p) (hpe : p < e) (he : e ≤ n) (hn : n ≤ 1000000000) :
    FnV Try.prog 93 [.slice (some ⟨b, 0, none⟩) n c, .int .i64 (a : Int), .int .i64 (e : Int), .int .i64 (p : Int)] (DD b c n d0 :: Γ) fun v Γ' => v = .tuple #[.int .i64 ((Sort.partition ltInt d0 a e p).1 : Int), .bool (Sort.partition ltInt d0 a e p).2.1] ∧ Γ' = DD b c n (Sort.partition ltInt d0 a e p).2.2 :: Γ := by
  refine Fn.enter Try.func93 rfl rfl rfl fun E => ?_
  generalize hX : Sort.partition ltInt d0 a e p = X
  unfold Sort.partition at hX
  have hsz := hsz0
  refine m_run ?_
  have hcI := cellD (b := b) (c := c) (Γ := Γ) hsz (show a < n by omega)
  have hcK := cellD (b := b) (c := c) (Γ := Γ) hsz (show p < n by omega)
  refine TK.drawB mixed rfl 13 (DD b c n d0 :: Γ) (Γ) ?_
  refine m_bake (At.mk : At 0) ?_; refine m_bake (At.mk : At 1) ?_; refine m_bake (At.mk : At 2) ?_; refine m_bake (At.mk : At 3) ?_; refine m_bake (At.mk : At 4) ?_; refine m_bake (At.mk : At 5) ?_; refine m_bake (At.mk : At 6) ?_; refine m_bake (At.mk : At 7) ?_; refine m_bake (At.mk : At 8) ?_; refine m_bake (At.mk : At 9) ?_; refine m_bake (At.mk : At 10) ?_; refine m_bake (At.mk : At 11) ?_; refine m_bake (At.mk : At 12) ?_
  (apply TB.last; kernel_rfl; exact rfl)
  (apply TL.storeOwn 0 (a); exact rfl; exact rfl; exact rfl; exact rfl; exact tb rfl; exact rfl; exact (Nat.zero_add _).symm; exact (by omega))
  refine TL.back (by (focus ((repeat (first | assumption | exact Ent.refl _ | apply Ent.tail)); done))) ?_
  refine m_take (At.mk : At 14) ?_
  (apply TA.one 15; kernel_rfl; exact rfl)
  (apply TL.storeOwn 0 (p); exact rfl; exact rfl; exact rfl; exact rfl; exact tb rfl; exact rfl; exact (Nat.zero_add _).symm; exact (by omega))
  refine TL.back (by (focus ((repeat (first | assumption | exact Ent.refl _ | apply Ent.tail)); done))) ?_
  refine TA.done (by kernel_rfl) ?_
  refine TK.imp (Δ := DD b c n (swp d0 (a) (p)) :: Γ) (fun _ h => by show all (own _ _ _ _ (nums _ (swp d0 (a) (p)).toList) :: _) _; rw [← swpD]; exact h) ?_
  have hsz : (swp d0 (a) (p)).size = n := (size_swp _ _ _).trans hsz
  clear hcI hcK
  simp only [] at hX
  generalize swp d0 a p = d at *
  (repeat (first | refine TK.seq ?_ | refine TK.skip ?_))
  refine TK.region ?_
  refine m_rrun ?_
  refine TL.nil ?_
  (repeat (first | refine TK.seq ?_ | refine TK.skip ?_))
  refine TK.know (t := 10) (v := .int .i64 ((a + 1 : Nat) : Int)) (congrArg (Value.int .i64) (by rw [i64_in (by omega) (by omega)]; omega)) ?_
  refine TK.know (t := 11) (v := .int .i64 ((e - 1 : Nat) : Int)) (congrArg (Value.int .i64) (by rw [i64_in (by omega) (by omega)]; omega)) ?_
  have hij : a + 1 ≤ (e - 1) + 1 := by omega
  have hjn : e - 1 < n := by omega
  generalize hi1 : a + 1 = i at hij hX ⊢
  replace hi1 : a + 1 ≤ i := by omega
  generalize e - 1 = j at hij hjn hX ⊢
  apply TK.cut (fun ρ' Γ' => lk ρ' 0 = .slice (some ⟨b, 0, none⟩) n c ∧ lk ρ' 1 = .int .i64 (a : Int) ∧ lk ρ' 10 = .int .i64 ((scanUp (fun x => ltInt x d[a]!) d (j) (i) : Nat) : Int) ∧ lk ρ' 11 = .int .i64 (j : Int) ∧ Γ' = DD b c n d :: Γ)
  · intro k' hk'
    generalize hS : scanUp (fun x => ltInt x d[a]!) d (j) (i) = I at hk'
    refine m_run ?_
    apply TK.iter (fun m ρ' Γ' => ∃ (x : Nat), (j) + 1 - x ≤ m ∧ (i) ≤ x ∧ x ≤ (j) + 1 ∧ scanUp (fun x => ltInt x d[a]!) d (j) x = I ∧ lk ρ' 0 = .slice (some ⟨b, 0, none⟩) n c ∧ lk ρ' 1 = .int .i64 (a : Int) ∧ lk ρ' 10 = .int .i64 (x : Int) ∧ lk ρ' 11 = .int .i64 (j : Int) ∧ Γ' = DD b c n d :: Γ) ((j) + 1)
    · exact ⟨i, by omega, Nat.le_refl _, by omega, hS, rfl, rfl, rfl, rfl, rfl⟩
    clear hS
    rintro m IH ρ' _ ⟨x, hm, hx1, hx2, hS, e0, e1, ei, ej, rfl⟩
    refine TK.know4 e0 e1 ei ej ?_
    rw [Sort.scanUp] at hS
    by_cases hx : x ≤ j
    · have hc1 := cellD (b := b) (c := c) (Γ := Γ) hsz (show x < n by omega)
      have hc2 := cellD (b := b) (c := c) (Γ := Γ) hsz (show a < n by omega)
      refine m_run ?_
      refine TK.drawS mixed rfl ?_
      refine m_take (At.mk : At 0) ?_; refine m_take (At.mk : At 1) ?_; refine m_take (At.mk : At 2) ?_
      refine TA.isT 32 rfl (decide_eq_true (by omega)) ?_
      refine m_take (At.mk : At 3) ?_; refine m_take (At.mk : At 4) ?_; refine m_take (At.mk : At 5) ?_; refine m_take (At.mk : At 6) ?_; refine m_take (At.mk : At 7) ?_; refine m_take (At.mk : At 8) ?_; refine m_take (At.mk : At 9) ?_; refine m_take (At.mk : At 10) ?_; refine m_take (At.mk : At 11) ?_
      (apply TA.one 12; kernel_rfl; exact rfl)
      refine m_rrun ?_
      (apply TL.callV; exact rfl; exact callB_of (by kernel_rfl); exact rfl; exact fun _ h => h)
      exact less_t _ _ _
      rintro _ _ ⟨rfl, rfl⟩
      refine TL.back (by (focus ((repeat (first | assumption | exact Ent.refl _ | apply Ent.tail)); done))) ?_
      refine m_take (At.mk : At 13) ?_
      by_cases h : d[x]! < d[a]!
      · rw [if_pos (by simp [ltInt, h]; omega)] at hS
        refine TA.isT 43 rfl (decide_eq_true h) ?_
        refine TA.done (by kernel_rfl) ?_
        clear hc1 hc2
        refine m_run ?_
        exact IH (m - 1) _ _ (by omega) ⟨x + 1, by omega, by omega, by omega, hS, rfl, rfl, congrArg (Value.int .i64) (i64_succ x (by omega)), rfl, rfl⟩
      · rw [if_neg (by simp [ltInt, h])] at hS
        refine TA.isF 43 rfl (decide_eq_false h) ?_
        refine TA.done (by kernel_rfl) ?_
        clear hc1 hc2
        refine m_run ?_
        exact hk' _ _ ⟨rfl, rfl, congrArg (fun z : Nat => Value.int .i64 (z : Int)) hS, rfl, rfl⟩
    · rw [if_neg (by simp; omega)] at hS
      refine m_run ?_
      refine TK.drawS mixed rfl ?_
      refine m_take (At.mk : At 0) ?_; refine m_take (At.mk : At 1) ?_; refine m_take (At.mk : At 2) ?_
      refine TA.isF 32 rfl (decide_eq_false (by omega)) ?_
      refine m_take (At.mk : At 3) ?_; refine m_take (At.mk : At 4) ?_; refine m_take (At.mk : At 5) ?_; refine m_take (At.mk : At 6) ?_; refine m_take (At.mk : At 7) ?_; refine m_take (At.mk : At 8) ?_; refine m_take (At.mk : At 9) ?_; refine m_take (At.mk : At 10) ?_; refine m_take (At.mk : At 11) ?_; refine m_take (At.mk : At 12) ?_; refine m_take (At.mk : At 13) ?_
      refine TA.done (by kernel_rfl) ?_
      refine m_run ?_
      exact hk' _ _ ⟨rfl, rfl, congrArg (fun z : Nat => Value.int .i64 (z : Int)) hS, rfl, rfl⟩
  rintro ρ' _ ⟨e0, e1, ei, ej, rfl⟩
  refine TK.know4 e0 e1 ei ej ?_
  obtain ⟨hs1, hs2, _, hs4⟩ := scanUp_spec (fun x => ltInt x d[a]!) d j _ i rfl
  have hs2 := hs2 hij
  generalize hI : scanUp (fun x => ltInt x d[a]!) d j i = i2 at *
  (repeat (first | refine TK.seq ?_ | refine TK.skip ?_))
  apply TK.cut (fun ρ' Γ' => lk ρ' 0 = .slice (some ⟨b, 0, none⟩) n c ∧ lk ρ' 1 = .int .i64 (a : Int) ∧ lk ρ' 10 = .int .i64 (i2 : Int) ∧ lk ρ' 11 = .int .i64 ((scanDown (fun x => !ltInt x d[a]!) d (i2) (j) : Nat) : Int) ∧ Γ' = DD b c n d :: Γ)
  · intro k' hk'
    generalize hS : scanDown (fun x => !ltInt x d[a]!) d (i2) (j) = J at hk'
    refine m_run ?_
    apply TK.iter (fun m ρ' Γ' => m ≤ j ∧ (i2) ≤ m + 1 ∧ scanDown (fun x => !ltInt x d[a]!) d (i2) m = J ∧ lk ρ' 0 = .slice (some ⟨b, 0, none⟩) n c ∧ lk ρ' 1 = .int .i64 (a : Int) ∧ lk ρ' 10 = .int .i64 (i2 : Int) ∧ lk ρ' 11 = .int .i64 (m : Int) ∧ Γ' = DD b c n d :: Γ) (j)
    · exact ⟨Nat.le_refl _, by omega, hS, rfl, rfl, rfl, rfl, rfl⟩
    clear hS
    rintro x IH ρ' _ ⟨hx1, hx2, hS, e0, e1, ei, ej, rfl⟩
    refine TK.know4 e0 e1 ei ej ?_
    by_cases hx : i2 ≤ x
    · obtain ⟨w, rfl⟩ : ∃ w, x = w + 1 := ⟨x - 1, by omega⟩
      rw [Sort.scanDown] at hS
      have hc1 := cellD (b := b) (c := c) (Γ := Γ) hsz (show w + 1 < n by omega)
      have hc2 := cellD (b := b) (c := c) (Γ := Γ) hsz (show a < n by omega)
      refine m_run ?_
      refine TK.drawS mixed rfl ?_
      refine m_take (At.mk : At 0) ?_; refine m_take (At.mk : At 1) ?_; refine m_take (At.mk : At 2) ?_
      refine TA.isT 48 rfl (decide_eq_true (by omega)) ?_
      refine m_take (At.mk : At 3) ?_; refine m_take (At.mk : At 4) ?_; refine m_take (At.mk : At 5) ?_; refine m_take (At.mk : At 6) ?_; refine m_take (At.mk : At 7) ?_; refine m_take (At.mk : At 8) ?_; refine m_take (At.mk : At 9) ?_; refine m_take (At.mk : At 10) ?_; refine m_take (At.mk : At 11) ?_
      (apply TA.one 12; kernel_rfl; exact rfl)
      refine m_rrun ?_
      (apply TL.callV; exact rfl; exact callB_of (by kernel_rfl); exact rfl; exact fun _ h => h)
      exact less_t _ _ _
      rintro _ _ ⟨rfl, rfl⟩
      refine TL.back (by (focus ((repeat (first | assumption | exact Ent.refl _ | apply Ent.tail)); done))) ?_
      refine m_take (At.mk : At 13) ?_; refine m_take (At.mk : At 14) ?_
      by_cases h : d[w + 1]! < d[a]!
      · rw [if_neg (by simp [ltInt, h])] at hS
        refine TA.isF 60 rfl (not_f (decide_eq_true h)) ?_
        refine TA.done (by kernel_rfl) ?_
        clear hc1 hc2
        refine m_run ?_
        exact hk' _ _ ⟨rfl, rfl, rfl, congrArg (fun z : Nat => Value.int .i64 (z : Int)) hS, rfl⟩
      · rw [if_pos (by simp [ltInt, h]; omega)] at hS
        refine TA.isT 60 rfl (not_t (decide_eq_false h)) ?_
        refine TA.done (by kernel_rfl) ?_
        clear hc1 hc2
        refine m_run ?_
        exact IH w _ _ (by omega) ⟨by omega, by omega, hS, rfl, rfl, rfl, congrArg (Value.int .i64) (by rw [i64_in (by omega) (by omega)]; omega), rfl⟩
    · have hS : x = J := by
        rw [← hS]
        cases x with
        | zero => rw [Sort.scanDown]
        | succ w => rw [Sort.scanDown, if_neg (by simp; omega)]
      refine m_run ?_
      refine TK.drawS mixed rfl ?_
      refine m_take (At.mk : At 0) ?_; refine m_take (At.mk : At 1) ?_; refine m_take (At.mk : At 2) ?_
      refine TA.isF 48 rfl (decide_eq_false (by omega)) ?_
      refine m_take (At.mk : At 3) ?_; refine m_take (At.mk : At 4) ?_; refine m_take (At.mk : At 5) ?_; refine m_take (At.mk : At 6) ?_; refine m_take (At.mk : At 7) ?_; refine m_take (At.mk : At 8) ?_; refine m_take (At.mk : At 9) ?_; refine m_take (At.mk : At 10) ?_; refine m_take (At.mk : At 11) ?_; refine m_take (At.mk : At 12) ?_; refine m_take (At.mk : At 13) ?_; refine m_take (At.mk : At 14) ?_
      refine TA.done (by kernel_rfl) ?_
      refine m_run ?_
      exact hk' _ _ ⟨rfl, rfl, rfl, congrArg (fun z : Nat => Value.int .i64 (z : Int)) hS, rfl⟩
  rintro ρ' _ ⟨e0, e1, ei, ej, rfl⟩
  refine TK.know4 e0 e1 ei ej ?_
  obtain ⟨ht1, ht2, _, ht4⟩ := scanDown_spec (fun x => !ltInt x d[a]!) d i2 j
  have ht2 := ht2 hs2
  generalize hJ : scanDown (fun x => !ltInt x d[a]!) d i2 j = j2 at *
  by_cases hgt : i2 > j2
  · rw [if_pos hgt] at hX
    rw [← hX]
    refine m_run ?_
    have hcI := cellD (b := b) (c := c) (Γ := Γ) hsz (show j2 < n by omega)
    have hcK := cellD (b := b) (c := c) (Γ := Γ) hsz (show a < n by omega)
    refine TK.drawB mixed rfl 13 (DD b c n d :: Γ) (Γ) ?_
    refine m_bake (At.mk : At 0) ?_; refine m_bake (At.mk : At 1) ?_; refine m_bake (At.mk : At 2) ?_; refine m_bake (At.mk : At 3) ?_; refine m_bake (At.mk : At 4) ?_; refine m_bake (At.mk : At 5) ?_; refine m_bake (At.mk : At 6) ?_; refine m_bake (At.mk : At 7) ?_; refine m_bake (At.mk : At 8) ?_; refine m_bake (At.mk : At 9) ?_; refine m_bake (At.mk : At 10) ?_; refine m_bake (At.mk : At 11) ?_; refine m_bake (At.mk : At 12) ?_
    (apply TB.last; kernel_rfl; exact rfl)
    (apply TL.storeOwn 0 (j2); exact rfl; exact rfl; exact rfl; exact rfl; exact tb rfl; exact rfl; exact (Nat.zero_add _).symm; exact (by omega))
    refine TL.back (by (focus ((repeat (first | assumption | exact Ent.refl _ | apply Ent.tail)); done))) ?_
    refine m_take (At.mk : At 14) ?_
    (apply TA.one 15; kernel_rfl; exact rfl)
    (apply TL.storeOwn 0 (a); exact rfl; exact rfl; exact rfl; exact rfl; exact tb rfl; exact rfl; exact (Nat.zero_add _).symm; exact (by omega))
    refine TL.back (by (focus ((repeat (first | assumption | exact Ent.refl _ | apply Ent.tail)); done))) ?_
    refine TA.done (by kernel_rfl) ?_
    refine TK.imp (Δ := DD b c n (swp d (j2) (a)) :: Γ) (fun _ h => by show all (own _ _ _ _ (nums _ (swp d (j2) (a)).toList) :: _) _; rw [← swpD]; exact h) ?_
    have hsz : (swp d (j2) (a)).size = n := (size_swp _ _ _).trans hsz
    clear hcI hcK
    refine m_run ?_
    (apply TK.ret2; exact rfl; exact rfl; (exact m_val); (exact m_val))
    exact ⟨_, rfl, rfl, rfl⟩
  · rw [if_neg hgt] at hX
    have hne : i2 ≠ j2 := fun e => by
      have h1 := hs4 (by omega)
      have h2 := ht4 (by omega) (by omega)
      rw [← e] at h2
      simp only [h1] at h2
      cases h2
    refine m_run ?_
    have hcI := cellD (b := b) (c := c) (Γ := Γ) hsz (show i2 < n by omega)
    have hcK := cellD (b := b) (c := c) (Γ := Γ) hsz (show j2 < n by omega)
    refine TK.drawB mixed rfl 13 (DD b c n d :: Γ) (Γ) ?_
    refine m_bake (At.mk : At 0) ?_; refine m_bake (At.mk : At 1) ?_; refine m_bake (At.mk : At 2) ?_; refine m_bake (At.mk : At 3) ?_; refine m_bake (At.mk : At 4) ?_; refine m_bake (At.mk : At 5) ?_; refine m_bake (At.mk : At 6) ?_; refine m_bake (At.mk : At 7) ?_; refine m_bake (At.mk : At 8) ?_; refine m_bake (At.mk : At 9) ?_; refine m_bake (At.mk : At 10) ?_; refine m_bake (At.mk : At 11) ?_; refine m_bake (At.mk : At 12) ?_
    (apply TB.last; kernel_rfl; exact rfl)
    (apply TL.storeOwn 0 (i2); exact rfl; exact rfl; exact rfl; exact rfl; exact tb rfl; exact rfl; exact (Nat.zero_add _).symm; exact (by omega))
    refine TL.back (by (focus ((repeat (first | assumption | exact Ent.refl _ | apply Ent.tail)); done))) ?_
    refine m_take (At.mk : At 14) ?_
    (apply TA.one 15; kernel_rfl; exact rfl)
    (apply TL.storeOwn 0 (j2); exact rfl; exact rfl; exact rfl; exact rfl; exact tb rfl; exact rfl; exact (Nat.zero_add _).symm; exact (by omega))
    refine TL.back (by (focus ((repeat (first | assumption | exact Ent.refl _ | apply Ent.tail)); done))) ?_
    refine TA.done (by kernel_rfl) ?_
    refine TK.imp (Δ := DD b c n (swp d (i2) (j2)) :: Γ) (fun _ h => by show all (own _ _ _ _ (nums _ (swp d (i2) (j2)).toList) :: _) _; rw [← swpD]; exact h) ?_
    have hsz : (swp d (i2) (j2)).size = n := (size_swp _ _ _).trans hsz
    clear hcI hcK
    generalize swp d i2 j2 = d1 at *
    clear hs4 ht4 hI hJ
    generalize hR : partLoop ltInt a (i2 + 1) (j2 - 1) d1 = R at hX
    refine m_run ?_
    apply TK.iter (fun m ρ' Γ' => ∃ (i j : Nat) (d : Array Int), j + 1 - i ≤ m ∧ a + 1 ≤ i ∧ i ≤ j + 1 ∧ j < n ∧ d.size = n ∧ partLoop ltInt a i j d = R ∧ lk ρ' 0 = .slice (some ⟨b, 0, none⟩) n c ∧ lk ρ' 1 = .int .i64 (a : Int) ∧ lk ρ' 10 = .int .i64 (i : Int) ∧ lk ρ' 11 = .int .i64 (j : Int) ∧ Γ' = DD b c n d :: Γ) n
    · exact ⟨i2 + 1, j2 - 1, _, by omega, by omega, by omega, by omega, hsz, hR, rfl, rfl, congrArg (Value.int .i64) (by rw [i64_in (by omega) (by omega)]; omega), congrArg (Value.int .i64) (by rw [i64_in (by omega) (by omega)]; omega), rfl⟩
    clear hR hsz hne hgt ht1 ht2 hs1 hs2 hij hi1 hjn
    rintro m IH ρ' _ ⟨i, j, d, hm, hi1, hij, hjn, hsz, hR, e0, e1, e10, e11, rfl⟩
    refine TK.know4 e0 e1 e10 e11 ?_
    rw [partLoop_eq] at hR
    (repeat (first | refine TK.seq ?_ | refine TK.skip ?_))
    refine TK.block ?_
    (repeat (first | refine TK.seq ?_ | refine TK.skip ?_))
    apply TK.cut (fun ρ' Γ' => lk ρ' 0 = .slice (some ⟨b, 0, none⟩) n c ∧ lk ρ' 1 = .int .i64 (a : Int) ∧ lk ρ' 10 = .int .i64 ((scanUp (fun x => ltInt x d[a]!) d (j) (i) : Nat) : Int) ∧ lk ρ' 11 = .int .i64 (j : Int) ∧ Γ' = DD b c n d :: Γ)
    · intro k' hk'
      generalize hS : scanUp (fun x => ltInt x d[a]!) d (j) (i) = I at hk'
      refine m_run ?_
      apply TK.iter (fun m ρ' Γ' => ∃ (x : Nat), (j) + 1 - x ≤ m ∧ (i) ≤ x ∧ x ≤ (j) + 1 ∧ scanUp (fun x => ltInt x d[a]!) d (j) x = I ∧ lk ρ' 0 = .slice (some ⟨b, 0, none⟩) n c ∧ lk ρ' 1 = .int .i64 (a : Int) ∧ lk ρ' 10 = .int .i64 (x : Int) ∧ lk ρ' 11 = .int .i64 (j : Int) ∧ Γ' = DD b c n d :: Γ) ((j) + 1)
      · exact ⟨i, by omega, Nat.le_refl _, by omega, hS, rfl, rfl, rfl, rfl, rfl⟩
      clear hS
      rintro m IH ρ' _ ⟨x, hm, hx1, hx2, hS, e0, e1, ei, ej, rfl⟩
      refine TK.know4 e0 e1 ei ej ?_
      rw [Sort.scanUp] at hS
      by_cases hx : x ≤ j
      · have hc1 := cellD (b := b) (c := c) (Γ := Γ) hsz (show x < n by omega)
        have hc2 := cellD (b := b) (c := c) (Γ := Γ) hsz (show a < n by omega)
        refine m_run ?_
        refine TK.drawS mixed rfl ?_
        refine m_take (At.mk : At 0) ?_; refine m_take (At.mk : At 1) ?_; refine m_take (At.mk : At 2) ?_
        refine TA.isT 101 rfl (decide_eq_true (by omega)) ?_
        refine m_take (At.mk : At 3) ?_; refine m_take (At.mk : At 4) ?_; refine m_take (At.mk : At 5) ?_; refine m_take (At.mk : At 6) ?_; refine m_take (At.mk : At 7) ?_; refine m_take (At.mk : At 8) ?_; refine m_take (At.mk : At 9) ?_; refine m_take (At.mk : At 10) ?_; refine m_take (At.mk : At 11) ?_
        (apply TA.one 12; kernel_rfl; exact rfl)
        refine m_rrun ?_
        (apply TL.callV; exact rfl; exact callB_of (by kernel_rfl); exact rfl; exact fun _ h => h)
        exact less_t _ _ _
        rintro _ _ ⟨rfl, rfl⟩
        refine TL.back (by (focus ((repeat (first | assumption | exact Ent.refl _ | apply Ent.tail)); done))) ?_
        refine m_take (At.mk : At 13) ?_
        by_cases h : d[x]! < d[a]!
        · rw [if_pos (by simp [ltInt, h]; omega)] at hS
          refine TA.isT 112 rfl (decide_eq_true h) ?_
          refine TA.done (by kernel_rfl) ?_
          clear hc1 hc2
          refine m_run ?_
          exact IH (m - 1) _ _ (by omega) ⟨x + 1, by omega, by omega, by omega, hS, rfl, rfl, congrArg (Value.int .i64) (i64_succ x (by omega)), rfl, rfl⟩
        · rw [if_neg (by simp [ltInt, h])] at hS
          refine TA.isF 112 rfl (decide_eq_false h) ?_
          refine TA.done (by kernel_rfl) ?_
          clear hc1 hc2
          refine m_run ?_
          exact hk' _ _ ⟨rfl, rfl, congrArg (fun z : Nat => Value.int .i64 (z : Int)) hS, rfl, rfl⟩
      · rw [if_neg (by simp; omega)] at hS
        refine m_run ?_
        refine TK.drawS mixed rfl ?_
        refine m_take (At.mk : At 0) ?_; refine m_take (At.mk : At 1) ?_; refine m_take (At.mk : At 2) ?_
        refine TA.isF 101 rfl (decide_eq_false (by omega)) ?_
        refine m_take (At.mk : At 3) ?_; refine m_take (At.mk : At 4) ?_; refine m_take (At.mk : At 5) ?_; refine m_take (At.mk : At 6) ?_; refine m_take (At.mk : At 7) ?_; refine m_take (At.mk : At 8) ?_; refine m_take (At.mk : At 9) ?_; refine m_take (At.mk : At 10) ?_; refine m_take (At.mk : At 11) ?_; refine m_take (At.mk : At 12) ?_; refine m_take (At.mk : At 13) ?_
        refine TA.done (by kernel_rfl) ?_
        refine m_run ?_
        exact hk' _ _ ⟨rfl, rfl, congrArg (fun z : Nat => Value.int .i64 (z : Int)) hS, rfl, rfl⟩
    rintro ρ' _ ⟨e0, e1, ei, ej, rfl⟩
    refine TK.know4 e0 e1 ei ej ?_
    obtain ⟨hs1, hs2, _, hs4⟩ := scanUp_spec (fun x => ltInt x d[a]!) d j _ i rfl
    have hs2 := hs2 hij
    generalize hI : scanUp (fun x => ltInt x d[a]!) d j i = i2 at *
    (repeat (first | refine TK.seq ?_ | refine TK.skip ?_))
    apply TK.cut (fun ρ' Γ' => lk ρ' 0 = .slice (some ⟨b, 0, none⟩) n c ∧ lk ρ' 1 = .int .i64 (a : Int) ∧ lk ρ' 10 = .int .i64 (i2 : Int) ∧ lk ρ' 11 = .int .i64 ((scanDown (fun x => !ltInt x d[a]!) d (i2) (j) : Nat) : Int) ∧ Γ' = DD b c n d :: Γ)
    · intro k' hk'
      generalize hS : scanDown (fun x => !ltInt x d[a]!) d (i2) (j) = J at hk'
      refine m_run ?_
      apply TK.iter (fun m ρ' Γ' => m ≤ j ∧ (i2) ≤ m + 1 ∧ scanDown (fun x => !ltInt x d[a]!) d (i2) m = J ∧ lk ρ' 0 = .slice (some ⟨b, 0, none⟩) n c ∧ lk ρ' 1 = .int .i64 (a : Int) ∧ lk ρ' 10 = .int .i64 (i2 : Int) ∧ lk ρ' 11 = .int .i64 (m : Int) ∧ Γ' = DD b c n d :: Γ) (j)
      · exact ⟨Nat.le_refl _, by omega, hS, rfl, rfl, rfl, rfl, rfl⟩
      clear hS
      rintro x IH ρ' _ ⟨hx1, hx2, hS, e0, e1, ei, ej, rfl⟩
      refine TK.know4 e0 e1 ei ej ?_
      by_cases hx : i2 ≤ x
      · obtain ⟨w, rfl⟩ : ∃ w, x = w + 1 := ⟨x - 1, by omega⟩
        rw [Sort.scanDown] at hS
        have hc1 := cellD (b := b) (c := c) (Γ := Γ) hsz (show w + 1 < n by omega)
        have hc2 := cellD (b := b) (c := c) (Γ := Γ) hsz (show a < n by omega)
        refine m_run ?_
        refine TK.drawS mixed rfl ?_
        refine m_take (At.mk : At 0) ?_; refine m_take (At.mk : At 1) ?_; refine m_take (At.mk : At 2) ?_
        refine TA.isT 117 rfl (decide_eq_true (by omega)) ?_
        refine m_take (At.mk : At 3) ?_; refine m_take (At.mk : At 4) ?_; refine m_take (At.mk : At 5) ?_; refine m_take (At.mk : At 6) ?_; refine m_take (At.mk : At 7) ?_; refine m_take (At.mk : At 8) ?_; refine m_take (At.mk : At 9) ?_; refine m_take (At.mk : At 10) ?_; refine m_take (At.mk : At 11) ?_
        (apply TA.one 12; kernel_rfl; exact rfl)
        refine m_rrun ?_
        (apply TL.callV; exact rfl; exact callB_of (by kernel_rfl); exact rfl; exact fun _ h => h)
        exact less_t _ _ _
        rintro _ _ ⟨rfl, rfl⟩
        refine TL.back (by (focus ((repeat (first | assumption | exact Ent.refl _ | apply Ent.tail)); done))) ?_
        refine m_take (At.mk : At 13) ?_; refine m_take (At.mk : At 14) ?_
        by_cases h : d[w + 1]! < d[a]!
        · rw [if_neg (by simp [ltInt, h])] at hS
          refine TA.isF 129 rfl (not_f (decide_eq_true h)) ?_
          refine TA.done (by kernel_rfl) ?_
          clear hc1 hc2
          refine m_run ?_
          exact hk' _ _ ⟨rfl, rfl, rfl, congrArg (fun z : Nat => Value.int .i64 (z : Int)) hS, rfl⟩
        · rw [if_pos (by simp [ltInt, h]; omega)] at hS
          refine TA.isT 129 rfl (not_t (decide_eq_false h)) ?_
          refine TA.done (by kernel_rfl) ?_
          clear hc1 hc2
          refine m_run ?_
          exact IH w _ _ (by omega) ⟨by omega, by omega, hS, rfl, rfl, rfl, congrArg (Value.int .i64) (by rw [i64_in (by omega) (by omega)]; omega), rfl⟩
      · have hS : x = J := by
          rw [← hS]
          cases x with
          | zero => rw [Sort.scanDown]
          | succ w => rw [Sort.scanDown, if_neg (by simp; omega)]
        refine m_run ?_
        refine TK.drawS mixed rfl ?_
        refine m_take (At.mk : At 0) ?_; refine m_take (At.mk : At 1) ?_; refine m_take (At.mk : At 2) ?_
        refine TA.isF 117 rfl (decide_eq_false (by omega)) ?_
        refine m_take (At.mk : At 3) ?_; refine m_take (At.mk : At 4) ?_; refine m_take (At.mk : At 5) ?_; refine m_take (At.mk : At 6) ?_; refine m_take (At.mk : At 7) ?_; refine m_take (At.mk : At 8) ?_; refine m_take (At.mk : At 9) ?_; refine m_take (At.mk : At 10) ?_; refine m_take (At.mk : At 11) ?_; refine m_take (At.mk : At 12) ?_; refine m_take (At.mk : At 13) ?_; refine m_take (At.mk : At 14) ?_
        refine TA.done (by kernel_rfl) ?_
        refine m_run ?_
        exact hk' _ _ ⟨rfl, rfl, rfl, congrArg (fun z : Nat => Value.int .i64 (z : Int)) hS, rfl⟩
    rintro ρ' _ ⟨e0, e1, ei, ej, rfl⟩
    refine TK.know4 e0 e1 ei ej ?_
    obtain ⟨ht1, ht2, _, ht4⟩ := scanDown_spec (fun x => !ltInt x d[a]!) d i2 j
    have ht2 := ht2 hs2
    generalize hJ : scanDown (fun x => !ltInt x d[a]!) d i2 j = j2 at *
    by_cases hgt : i2 > j2
    · rw [if_pos hgt] at hR
      subst hR
      rw [← hX]
      refine m_run ?_
      have hcI := cellD (b := b) (c := c) (Γ := Γ) hsz (show j2 < n by omega)
      have hcK := cellD (b := b) (c := c) (Γ := Γ) hsz (show a < n by omega)
      refine TK.drawB mixed rfl 13 (DD b c n d :: Γ) (Γ) ?_
      refine m_bake (At.mk : At 0) ?_; refine m_bake (At.mk : At 1) ?_; refine m_bake (At.mk : At 2) ?_; refine m_bake (At.mk : At 3) ?_; refine m_bake (At.mk : At 4) ?_; refine m_bake (At.mk : At 5) ?_; refine m_bake (At.mk : At 6) ?_; refine m_bake (At.mk : At 7) ?_; refine m_bake (At.mk : At 8) ?_; refine m_bake (At.mk : At 9) ?_; refine m_bake (At.mk : At 10) ?_; refine m_bake (At.mk : At 11) ?_; refine m_bake (At.mk : At 12) ?_
      (apply TB.last; kernel_rfl; exact rfl)
      (apply TL.storeOwn 0 (j2); exact rfl; exact rfl; exact rfl; exact rfl; exact tb rfl; exact rfl; exact (Nat.zero_add _).symm; exact (by omega))
      refine TL.back (by (focus ((repeat (first | assumption | exact Ent.refl _ | apply Ent.tail)); done))) ?_
      refine m_take (At.mk : At 14) ?_
      (apply TA.one 15; kernel_rfl; exact rfl)
      (apply TL.storeOwn 0 (a); exact rfl; exact rfl; exact rfl; exact rfl; exact tb rfl; exact rfl; exact (Nat.zero_add _).symm; exact (by omega))
      refine TL.back (by (focus ((repeat (first | assumption | exact Ent.refl _ | apply Ent.tail)); done))) ?_
      refine TA.done (by kernel_rfl) ?_
      refine TK.imp (Δ := DD b c n (swp d (j2) (a)) :: Γ) (fun _ h => by show all (own _ _ _ _ (nums _ (swp d (j2) (a)).toList) :: _) _; rw [← swpD]; exact h) ?_
      have hsz : (swp d (j2) (a)).size = n := (size_swp _ _ _).trans hsz
      clear hcI hcK
      refine m_run ?_
      (apply TK.ret2; exact rfl; exact rfl; (exact m_val); (exact m_val))
      exact ⟨_, rfl, rfl, rfl⟩
    · rw [if_neg hgt] at hR
      have hne : i2 ≠ j2 := fun e => by
        have h1 := hs4 (by omega)
        have h2 := ht4 (by omega) (by omega)
        rw [← e] at h2
        simp only [h1] at h2
        cases h2
      refine m_run ?_
      have hcI := cellD (b := b) (c := c) (Γ := Γ) hsz (show i2 < n by omega)
      have hcK := cellD (b := b) (c := c) (Γ := Γ) hsz (show j2 < n by omega)
      refine TK.drawB mixed rfl 13 (DD b c n d :: Γ) (Γ) ?_
      refine m_bake (At.mk : At 0) ?_; refine m_bake (At.mk : At 1) ?_; refine m_bake (At.mk : At 2) ?_; refine m_bake (At.mk : At 3) ?_; refine m_bake (At.mk : At 4) ?_; refine m_bake (At.mk : At 5) ?_; refine m_bake (At.mk : At 6) ?_; refine m_bake (At.mk : At 7) ?_; refine m_bake (At.mk : At 8) ?_; refine m_bake (At.mk : At 9) ?_; refine m_bake (At.mk : At 10) ?_; refine m_bake (At.mk : At 11) ?_; refine m_bake (At.mk : At 12) ?_
      (apply TB.last; kernel_rfl; exact rfl)
      (apply TL.storeOwn 0 (i2); exact rfl; exact rfl; exact rfl; exact rfl; exact tb rfl; exact rfl; exact (Nat.zero_add _).symm; exact (by omega))
      refine TL.back (by (focus ((repeat (first | assumption | exact Ent.refl _ | apply Ent.tail)); done))) ?_
      refine m_take (At.mk : At 14) ?_
      (apply TA.one 15; kernel_rfl; exact rfl)
      (apply TL.storeOwn 0 (j2); exact rfl; exact rfl; exact rfl; exact rfl; exact tb rfl; exact rfl; exact (Nat.zero_add _).symm; exact (by omega))
      refine TL.back (by (focus ((repeat (first | assumption | exact Ent.refl _ | apply Ent.tail)); done))) ?_
      refine TA.done (by kernel_rfl) ?_
      refine TK.imp (Δ := DD b c n (swp d (i2) (j2)) :: Γ) (fun _ h => by show all (own _ _ _ _ (nums _ (swp d (i2) (j2)).toList) :: _) _; rw [← swpD]; exact h) ?_
      have hsz : (swp d (i2) (j2)).size = n := (size_swp _ _ _).trans hsz
      clear hcI hcK
      refine m_run ?_
      exact IH (m - 1) _ _ (by omega) ⟨i2 + 1, j2 - 1, _, by omega, by omega, by omega, by omega, hsz, hR, rfl, rfl, congrArg (Value.int .i64) (by rw [i64_in (by omega) (by omega)]; omega), congrArg (Value.int .i64) (by rw [i64_in (by omega) (by omega)]; omega), rfl⟩

theorem shiftDown_size : ∀ (j : Nat) (d : Array Int), (shiftDown ltInt j d).size = d.size
  | 0, d => by rw [Sort.shiftDown]
  | j + 1, d => by
    rw [Sort.shiftDown]
    split
    · rfl
    · rw [shiftDown_size j, size_swp]
theorem shiftUp_size (b j : Nat) (d : Array Int) : (shiftUp ltInt b j d).size = d.size := by
  have key : ∀ (N j : Nat) (d : Array Int), b - j ≤ N → (shiftUp ltInt b j d).size = d.size := by
    intro N
    induction N with
    | zero => intro j d h; rw [Sort.shiftUp, if_neg (by omega)]
    | succ N ih =>
      intro j d h
      rw [Sort.shiftUp]
      split
      · split
        · rfl
        · rw [ih _ _ (by omega), size_swp]
      · rfl
  exact key _ j d (Nat.le_refl _)
theorem scanSorted_le (b : Nat) (d : Array Int) : ∀ (i : Nat), i ≤ b → i ≤ scanSorted ltInt d b i ∧ scanSorted ltInt d b i ≤ b := by
  have key : ∀ (N i : Nat), b - i ≤ N → i ≤ b → i ≤ scanSorted ltInt d b i ∧ scanSorted ltInt d b i ≤ b := by
    intro N
    induction N with
    | zero => intro i h hb; rw [Sort.scanSorted, if_neg (by simp; omega)]; omega
    | succ N ih =>
      intro i h hb
      rw [Sort.scanSorted]
      split
      · rename_i hc
        simp at hc
        have := ih (i + 1) (by omega) (by omega)
        omega
      · omega
  exact fun i => key _ i (Nat.le_refl _)
set_option maxRecDepth 100000 in
set_option maxHeartbeats 4000000 in
theorem partial_t (b c n a e : Nat) (d0 : Array Int) (Γ : List HP) (hsz0 : d0.size = n) (hae : a < e) (he : e ≤ n) (hn : n ≤ 1000000000) :
    FnV Try.prog 90 [.slice (some ⟨b, 0, none⟩) n c, .int .i64 (a : Int), .int .i64 (e : Int)] (DD b c n d0 :: Γ) fun v Γ' => v = .bool (partialInsertionSort ltInt d0 a e).2 ∧ Γ' = DD b c n (partialInsertionSort ltInt d0 a e).1 :: Γ := by
  refine Fn.enter Try.func90 rfl rfl rfl fun E => ?_
  unfold partialInsertionSort
  generalize hX : partialIns ltInt a e 5 (a + 1) d0 = X
  refine m_run ?_
  apply TK.iter (fun m ρ' Γ' => ∃ (i : Nat) (d : Array Int), m ≤ 5 ∧ a + 1 ≤ i ∧ i ≤ e ∧ d.size = n ∧ partialIns ltInt a e m i d = X ∧ lk ρ' 0 = .slice (some ⟨b, 0, none⟩) n c ∧ lk ρ' 1 = .int .i64 (a : Int) ∧ lk ρ' 2 = .int .i64 (e : Int) ∧ lk ρ' 7 = .int .i64 (i : Int) ∧ lk ρ' 8 = .int .i64 ((5 - m : Nat) : Int) ∧ Γ' = DD b c n d :: Γ) 5
  · exact ⟨a + 1, d0, Nat.le_refl _, Nat.le_refl _, by omega, hsz0, hX, rfl, rfl, rfl, congrArg (Value.int .i64) (by rw [i64_in (by omega) (by omega)]; omega), rfl, rfl⟩
  clear hX
  rintro m IH ρ' _ ⟨i, d, hm, hi1, hie, hsz, hR, e0, e1, e2, e7, e8, rfl⟩
  refine TK.know5 e0 e1 e2 e7 e8 ?_
  cases m with
  | zero =>
    rw [Sort.partialIns] at hR
    rw [← hR]
    refine m_run ?_
    (apply TK.ret1; exact rfl; exact rfl; (exact m_val))
    exact ⟨_, rfl, rfl, rfl⟩
  | succ m =>
    rw [partialIns_succ] at hR
    obtain ⟨hs1, hs2⟩ := scanSorted_le e d i hie
    (repeat (first | refine TK.seq ?_ | refine TK.skip ?_))
    refine TK.region ?_
    refine m_rrun ?_
    refine TL.nil ?_
    (repeat (first | refine TK.seq ?_ | refine TK.skip ?_))
    refine TK.condT rfl (decide_eq_true (by omega)) ?_
    (repeat (first | refine TK.seq ?_ | refine TK.skip ?_))
    refine TK.block ?_
    (repeat (first | refine TK.seq ?_ | refine TK.skip ?_))
    apply TK.cut (fun ρ' Γ' => lk ρ' 0 = .slice (some ⟨b, 0, none⟩) n c ∧ lk ρ' 1 = .int .i64 (a : Int) ∧ lk ρ' 2 = .int .i64 (e : Int) ∧ lk ρ' 7 = .int .i64 ((scanSorted ltInt d e i : Nat) : Int) ∧ lk ρ' 8 = .int .i64 ((5 - (m + 1) : Nat) : Int) ∧ Γ' = DD b c n d :: Γ)
    · intro k' hk'
      generalize hS : scanSorted ltInt d e i = I at hk'
      refine m_run ?_
      apply TK.iter (fun q ρ' Γ' => ∃ (x : Nat), e - x ≤ q ∧ i ≤ x ∧ x ≤ e ∧ scanSorted ltInt d e x = I ∧ lk ρ' 0 = .slice (some ⟨b, 0, none⟩) n c ∧ lk ρ' 1 = .int .i64 (a : Int) ∧ lk ρ' 2 = .int .i64 (e : Int) ∧ lk ρ' 7 = .int .i64 (x : Int) ∧ lk ρ' 8 = .int .i64 ((5 - (m + 1) : Nat) : Int) ∧ Γ' = DD b c n d :: Γ) e
      · exact ⟨i, by omega, Nat.le_refl _, hie, hS, rfl, rfl, rfl, rfl, rfl, rfl⟩
      clear hS
      rintro q IH2 ρ2 _ ⟨x, hq, hx1, hx2, hS, f0, f1, f2, f7, f8, rfl⟩
      refine TK.know5 f0 f1 f2 f7 f8 ?_
      rw [Sort.scanSorted] at hS
      by_cases hx : x < e
      · have hc1 := cellD (b := b) (c := c) (Γ := Γ) hsz (show x < n by omega)
        have hc2 := cellD (b := b) (c := c) (Γ := Γ) hsz (show x - 1 < n by omega)
        refine m_run ?_
        refine TK.drawS mixed rfl ?_
        refine m_take (At.mk : At 0) ?_; refine m_take (At.mk : At 1) ?_; refine m_take (At.mk : At 2) ?_
        refine TA.isT 19 rfl (decide_eq_true (by omega)) ?_
        refine m_take (At.mk : At 3) ?_; refine m_take (At.mk : At 4) ?_; refine m_take (At.mk : At 5) ?_; refine m_take (At.mk : At 6) ?_; refine m_take (At.mk : At 7) ?_; refine m_take (At.mk : At 8) ?_; refine m_take (At.mk : At 9) ?_; refine m_take (At.mk : At 10) ?_
        refine TA.know (t := 27) (v := .int .i64 ((x - 1 : Nat) : Int)) (congrArg (Value.int .i64) (by rw [i64_in (by omega) (by omega)]; omega)) ?_
        refine m_take (At.mk : At 11) ?_; refine m_take (At.mk : At 12) ?_
        (apply TA.one 13; kernel_rfl; exact rfl)
        refine m_rrun ?_
        (apply TL.callV; exact rfl; exact callB_of (by kernel_rfl); exact rfl; exact fun _ h => h)
        exact less_t _ _ _
        rintro _ _ ⟨rfl, rfl⟩
        refine TL.back (by (focus ((repeat (first | assumption | exact Ent.refl _ | apply Ent.tail)); done))) ?_
        refine m_take (At.mk : At 14) ?_; refine m_take (At.mk : At 15) ?_
        by_cases h : d[x]! < d[x - 1]!
        · rw [if_neg (by simp [ltInt, h])] at hS
          refine TA.isF 32 rfl (not_f (decide_eq_true h)) ?_
          refine TA.done (by kernel_rfl) ?_
          clear hc1 hc2
          refine m_run ?_
          exact hk' _ _ ⟨rfl, rfl, rfl, congrArg (fun z : Nat => Value.int .i64 (z : Int)) hS, rfl, rfl⟩
        · rw [if_pos (by simp [ltInt, h]; omega)] at hS
          refine TA.isT 32 rfl (not_t (decide_eq_false h)) ?_
          refine TA.done (by kernel_rfl) ?_
          clear hc1 hc2
          refine m_run ?_
          exact IH2 (q - 1) _ _ (by omega) ⟨x + 1, by omega, by omega, by omega, hS, rfl, rfl, rfl, congrArg (Value.int .i64) (i64_succ x (by omega)), rfl, rfl⟩
      · rw [if_neg (by simp; omega)] at hS
        refine m_run ?_
        refine TK.drawS mixed rfl ?_
        refine m_take (At.mk : At 0) ?_; refine m_take (At.mk : At 1) ?_; refine m_take (At.mk : At 2) ?_
        refine TA.isF 19 rfl (decide_eq_false (by omega)) ?_
        refine m_take (At.mk : At 3) ?_; refine m_take (At.mk : At 4) ?_; refine m_take (At.mk : At 5) ?_; refine m_take (At.mk : At 6) ?_; refine m_take (At.mk : At 7) ?_; refine m_take (At.mk : At 8) ?_; refine m_take (At.mk : At 9) ?_; refine m_take (At.mk : At 10) ?_; refine m_take (At.mk : At 11) ?_; refine m_take (At.mk : At 12) ?_; refine m_take (At.mk : At 13) ?_; refine m_take (At.mk : At 14) ?_; refine m_take (At.mk : At 15) ?_
        refine TA.done (by kernel_rfl) ?_
        refine m_run ?_
        exact hk' _ _ ⟨rfl, rfl, rfl, congrArg (fun z : Nat => Value.int .i64 (z : Int)) hS, rfl, rfl⟩
    rintro ρ' _ ⟨e0, e1, e2, e7, e8, rfl⟩
    refine TK.know5 e0 e1 e2 e7 e8 ?_
    have hea : IntKind.i64.wrap ((e : Int) - (a : Int)) = ((e - a : Nat) : Int) := by rw [i64_in (by omega) (by omega)]; omega
    generalize scanSorted ltInt d e i = y at *
    have hya : IntKind.i64.wrap ((y : Int) - (a : Int)) = ((y - a : Nat) : Int) := by rw [i64_in (by omega) (by omega)]; omega
    have hey : IntKind.i64.wrap ((e : Int) - (y : Int)) = ((e - y : Nat) : Int) := by rw [i64_in (by omega) (by omega)]; omega
    by_cases hye : y = e
    · rw [if_pos hye] at hR
      rw [← hR]
      refine m_run ?_
      (apply TK.ret1; exact rfl; exact rfl; (exact m_val))
      exact ⟨_, rfl, rfl, rfl⟩
    rw [if_neg hye] at hR
    by_cases h50 : e - a < 50
    · rw [if_pos h50] at hR
      rw [← hR]
      refine m_run ?_
      refine TK.know (t := 41) (v := .bool true) (congrArg Value.bool (by rw [hea]; exact decide_eq_true (by omega))) ?_
      refine m_run ?_
      (apply TK.ret1; exact rfl; exact rfl; (exact m_val))
      exact ⟨_, rfl, rfl, rfl⟩
    rw [if_neg h50] at hR
    unfold fixUp fixDown at hR
    refine m_run ?_
    refine TK.know (t := 41) (v := .bool false) (congrArg Value.bool (by rw [hea]; exact decide_eq_false (by omega))) ?_
    refine m_run ?_
    have hcI := cellD (b := b) (c := c) (Γ := Γ) hsz (show y < n by omega)
    have hcK := cellD (b := b) (c := c) (Γ := Γ) hsz (show y - 1 < n by omega)
    refine TK.drawB mixed rfl 15 (DD b c n d :: Γ) (Γ) ?_
    refine m_bake (At.mk : At 0) ?_; refine m_bake (At.mk : At 1) ?_; refine m_bake (At.mk : At 2) ?_; refine m_bake (At.mk : At 3) ?_; refine m_bake (At.mk : At 4) ?_
    refine TB.know (t := 46) (v := .int .i64 ((y - 1 : Nat) : Int)) (congrArg (Value.int .i64) (by rw [i64_in (by omega) (by omega)]; omega)) ?_
    refine m_bake (At.mk : At 5) ?_; refine m_bake (At.mk : At 6) ?_; refine m_bake (At.mk : At 7) ?_
    refine TB.know (t := 49) (v := .int .i64 ((y - 1 : Nat) : Int)) (congrArg (Value.int .i64) (by rw [i64_in (by omega) (by omega)]; omega)) ?_
    refine m_bake (At.mk : At 8) ?_; refine m_bake (At.mk : At 9) ?_; refine m_bake (At.mk : At 10) ?_; refine m_bake (At.mk : At 11) ?_; refine m_bake (At.mk : At 12) ?_; refine m_bake (At.mk : At 13) ?_; refine m_bake (At.mk : At 14) ?_
    (apply TB.last; kernel_rfl; exact rfl)
    (apply TL.storeOwn 0 (y); exact rfl; exact rfl; exact rfl; exact rfl; exact tb rfl; exact rfl; exact (Nat.zero_add _).symm; exact (by omega))
    refine TL.back (by (focus ((repeat (first | assumption | exact Ent.refl _ | apply Ent.tail)); done))) ?_
    refine m_take (At.mk : At 16) ?_
    (apply TA.one 17; kernel_rfl; exact rfl)
    (apply TL.storeOwn 0 (y - 1); exact rfl; exact rfl; exact rfl; exact rfl; exact tb rfl; exact rfl; exact (Nat.zero_add _).symm; exact (by omega))
    refine TL.back (by (focus ((repeat (first | assumption | exact Ent.refl _ | apply Ent.tail)); done))) ?_
    refine TA.done (by kernel_rfl) ?_
    refine TK.imp (Δ := DD b c n (swp d (y) (y - 1)) :: Γ) (fun _ h => by show all (own _ _ _ _ (nums _ (swp d (y) (y - 1)).toList) :: _) _; rw [← swpD]; exact h) ?_
    have hsz : (swp d (y) (y - 1)).size = n := (size_swp _ _ _).trans hsz
    clear hcI hcK
    generalize swp d y (y - 1) = d at *
    (repeat (first | refine TK.seq ?_ | refine TK.skip ?_))
    refine TK.region ?_
    refine m_rrun ?_
    refine TL.nil ?_
    (repeat (first | refine TK.seq ?_ | refine TK.skip ?_))
    apply TK.cut (fun ρ' Γ' => lk ρ' 0 = .slice (some ⟨b, 0, none⟩) n c ∧ lk ρ' 1 = .int .i64 (a : Int) ∧ lk ρ' 2 = .int .i64 (e : Int) ∧ lk ρ' 7 = .int .i64 (y : Int) ∧ lk ρ' 8 = .int .i64 ((5 - (m + 1) : Nat) : Int) ∧ Γ' = DD b c n (if y - a ≥ 2 then shiftDown ltInt (y - 1) d else d) :: Γ)
    · intro k' hk'
      by_cases h2 : y - a ≥ 2
      · rw [if_pos h2] at hk'
        refine TK.know (t := 61) (v := .bool true) (congrArg Value.bool (by rw [hya]; exact decide_eq_true (by omega))) ?_
        refine m_run ?_
        generalize hS : shiftDown ltInt (y - 1) d = Y at hk'
        apply TK.iter (fun q ρ' Γ' => ∃ (d : Array Int), q + 1 ≤ y ∧ d.size = n ∧ shiftDown ltInt q d = Y ∧ lk ρ' 0 = .slice (some ⟨b, 0, none⟩) n c ∧ lk ρ' 1 = .int .i64 (a : Int) ∧ lk ρ' 2 = .int .i64 (e : Int) ∧ lk ρ' 7 = .int .i64 (y : Int) ∧ lk ρ' 8 = .int .i64 ((5 - (m + 1) : Nat) : Int) ∧ lk ρ' 9 = .int .i64 (q : Int) ∧ Γ' = DD b c n d :: Γ) (y - 1)
        · exact ⟨d, by omega, hsz, hS, rfl, rfl, rfl, rfl, rfl, congrArg (Value.int .i64) (by rw [i64_in (by omega) (by omega)]; omega), rfl⟩
        clear hS hsz hR
        rintro q IH2 ρ2 _ ⟨d, hq, hsz, hS, f0, f1, f2, f7, f8, f9, rfl⟩
        refine TK.know6 f0 f1 f2 f7 f8 f9 ?_
        cases q with
        | zero =>
          rw [Sort.shiftDown] at hS
          rw [hS]
          refine m_run ?_
          exact hk' _ _ ⟨rfl, rfl, rfl, rfl, rfl, rfl⟩
        | succ w =>
          rw [Sort.shiftDown] at hS
          have hc1 := cellD (b := b) (c := c) (Γ := Γ) hsz (show w + 1 < n by omega)
          have hc2 := cellD (b := b) (c := c) (Γ := Γ) hsz (show w < n by omega)
          refine m_run ?_
          refine TK.drawS mixed rfl ?_
          refine m_take (At.mk : At 0) ?_; refine m_take (At.mk : At 1) ?_; refine m_take (At.mk : At 2) ?_; refine m_take (At.mk : At 3) ?_; refine m_take (At.mk : At 4) ?_; refine m_take (At.mk : At 5) ?_; refine m_take (At.mk : At 6) ?_
          refine TA.know (t := 74) (v := .int .i64 ((w : Nat) : Int)) (congrArg (Value.int .i64) (by rw [i64_in (by omega) (by omega)]; omega)) ?_
          refine m_take (At.mk : At 7) ?_; refine m_take (At.mk : At 8) ?_
          (apply TA.one 9; kernel_rfl; exact rfl)
          (apply TL.callV; exact rfl; exact callB_of (by kernel_rfl); exact rfl; exact fun _ h => h)
          exact less_t _ _ _
          rintro _ _ ⟨rfl, rfl⟩
          refine TL.back (by (focus ((repeat (first | assumption | exact Ent.refl _ | apply Ent.tail)); done))) ?_
          refine m_take (At.mk : At 10) ?_
          by_cases h : d[w + 1]! < d[w]!
          · rw [if_neg (by simp [ltInt, h])] at hS
            refine TA.isF 78 rfl (not_f (decide_eq_true h)) ?_
            refine TA.done (by kernel_rfl) ?_
            clear hc1 hc2
            refine m_run ?_
            have hcI := cellD (b := b) (c := c) (Γ := Γ) hsz (show w + 1 < n by omega)
            have hcK := cellD (b := b) (c := c) (Γ := Γ) hsz (show w < n by omega)
            refine TK.drawB mixed rfl 15 (DD b c n d :: Γ) (Γ) ?_
            refine m_bake (At.mk : At 0) ?_; refine m_bake (At.mk : At 1) ?_; refine m_bake (At.mk : At 2) ?_; refine m_bake (At.mk : At 3) ?_; refine m_bake (At.mk : At 4) ?_
            refine TB.know (t := 83) (v := .int .i64 ((w : Nat) : Int)) (congrArg (Value.int .i64) (by rw [i64_in (by omega) (by omega)]; omega)) ?_
            refine m_bake (At.mk : At 5) ?_; refine m_bake (At.mk : At 6) ?_; refine m_bake (At.mk : At 7) ?_
            refine TB.know (t := 86) (v := .int .i64 ((w : Nat) : Int)) (congrArg (Value.int .i64) (by rw [i64_in (by omega) (by omega)]; omega)) ?_
            refine m_bake (At.mk : At 8) ?_; refine m_bake (At.mk : At 9) ?_; refine m_bake (At.mk : At 10) ?_; refine m_bake (At.mk : At 11) ?_; refine m_bake (At.mk : At 12) ?_; refine m_bake (At.mk : At 13) ?_; refine m_bake (At.mk : At 14) ?_
            (apply TB.last; kernel_rfl; exact rfl)
            (apply TL.storeOwn 0 (w + 1); exact rfl; exact rfl; exact rfl; exact rfl; exact tb rfl; exact rfl; exact (Nat.zero_add _).symm; exact (by omega))
            refine TL.back (by (focus ((repeat (first | assumption | exact Ent.refl _ | apply Ent.tail)); done))) ?_
            refine m_take (At.mk : At 16) ?_
            (apply TA.one 17; kernel_rfl; exact rfl)
            (apply TL.storeOwn 0 (w); exact rfl; exact rfl; exact rfl; exact rfl; exact tb rfl; exact rfl; exact (Nat.zero_add _).symm; exact (by omega))
            refine TL.back (by (focus ((repeat (first | assumption | exact Ent.refl _ | apply Ent.tail)); done))) ?_
            refine TA.done (by kernel_rfl) ?_
            refine TK.imp (Δ := DD b c n (swp d (w + 1) (w)) :: Γ) (fun _ h => by show all (own _ _ _ _ (nums _ (swp d (w + 1) (w)).toList) :: _) _; rw [← swpD]; exact h) ?_
            have hsz : (swp d (w + 1) (w)).size = n := (size_swp _ _ _).trans hsz
            clear hcI hcK
            refine m_run ?_
            exact IH2 w _ _ (by omega) ⟨_, by omega, hsz, hS, rfl, rfl, rfl, rfl, rfl, congrArg (Value.int .i64) (by rw [i64_in (by omega) (by omega)]; omega), rfl⟩
          · rw [if_pos (by simp [ltInt, h])] at hS
            refine TA.isT 78 rfl (not_t (decide_eq_false h)) ?_
            refine TA.done (by kernel_rfl) ?_
            rw [hS]
            refine m_run ?_
            exact hk' _ _ ⟨rfl, rfl, rfl, rfl, rfl, rfl⟩
      · rw [if_neg h2] at hk'
        refine TK.know (t := 61) (v := .bool false) (congrArg Value.bool (by rw [hya]; exact decide_eq_false (by omega))) ?_
        refine m_run ?_
        exact hk' _ _ ⟨rfl, rfl, rfl, rfl, rfl, rfl⟩
    rintro ρ' _ ⟨e0, e1, e2, e7, e8, rfl⟩
    refine TK.know5 e0 e1 e2 e7 e8 ?_
    have hsz : (if y - a ≥ 2 then shiftDown ltInt (y - 1) d else d).size = n := by
      split
      · rw [shiftDown_size]; exact hsz
      · exact hsz
    generalize (if y - a ≥ 2 then shiftDown ltInt (y - 1) d else d) = d at *
    (repeat (first | refine TK.seq ?_ | refine TK.skip ?_))
    refine TK.region ?_
    refine m_rrun ?_
    refine TL.nil ?_
    (repeat (first | refine TK.seq ?_ | refine TK.skip ?_))
    apply TK.cut (fun ρ' Γ' => lk ρ' 0 = .slice (some ⟨b, 0, none⟩) n c ∧ lk ρ' 1 = .int .i64 (a : Int) ∧ lk ρ' 2 = .int .i64 (e : Int) ∧ lk ρ' 7 = .int .i64 (y : Int) ∧ lk ρ' 8 = .int .i64 ((5 - (m + 1) : Nat) : Int) ∧ Γ' = DD b c n (if e - y ≥ 2 then shiftUp ltInt e (y + 1) d else d) :: Γ)
    · intro k' hk'
      by_cases h2 : e - y ≥ 2
      · rw [if_pos h2] at hk'
        refine TK.know (t := 98) (v := .bool true) (congrArg Value.bool (by rw [hey]; exact decide_eq_true (by omega))) ?_
        refine m_run ?_
        generalize hS : shiftUp ltInt e (y + 1) d = Y at hk'
        apply TK.iter (fun q ρ' Γ' => ∃ (x : Nat) (d : Array Int), e - x ≤ q ∧ y + 1 ≤ x ∧ x ≤ e ∧ d.size = n ∧ shiftUp ltInt e x d = Y ∧ lk ρ' 0 = .slice (some ⟨b, 0, none⟩) n c ∧ lk ρ' 1 = .int .i64 (a : Int) ∧ lk ρ' 2 = .int .i64 (e : Int) ∧ lk ρ' 7 = .int .i64 (y : Int) ∧ lk ρ' 8 = .int .i64 ((5 - (m + 1) : Nat) : Int) ∧ lk ρ' 10 = .int .i64 (x : Int) ∧ Γ' = DD b c n d :: Γ) e
        · exact ⟨y + 1, d, by omega, Nat.le_refl _, by omega, hsz, hS, rfl, rfl, rfl, rfl, rfl, congrArg (Value.int .i64) (i64_succ y (by omega)), rfl⟩
        clear hS hsz hR
        rintro q IH2 ρ2 _ ⟨x, d, hq, hx1, hx2, hsz, hS, f0, f1, f2, f7, f8, f10, rfl⟩
        refine TK.know6 f0 f1 f2 f7 f8 f10 ?_
        rw [Sort.shiftUp] at hS
        by_cases hx : x < e
        · rw [if_pos hx] at hS
          have hc1 := cellD (b := b) (c := c) (Γ := Γ) hsz (show x < n by omega)
          have hc2 := cellD (b := b) (c := c) (Γ := Γ) hsz (show x - 1 < n by omega)
          refine m_run ?_
          refine TK.drawS mixed rfl ?_
          refine m_take (At.mk : At 0) ?_; refine m_take (At.mk : At 1) ?_; refine m_take (At.mk : At 2) ?_; refine m_take (At.mk : At 3) ?_; refine m_take (At.mk : At 4) ?_; refine m_take (At.mk : At 5) ?_; refine m_take (At.mk : At 6) ?_
          refine TA.know (t := 112) (v := .int .i64 ((x - 1 : Nat) : Int)) (congrArg (Value.int .i64) (by rw [i64_in (by omega) (by omega)]; omega)) ?_
          refine m_take (At.mk : At 7) ?_; refine m_take (At.mk : At 8) ?_
          (apply TA.one 9; kernel_rfl; exact rfl)
          (apply TL.callV; exact rfl; exact callB_of (by kernel_rfl); exact rfl; exact fun _ h => h)
          exact less_t _ _ _
          rintro _ _ ⟨rfl, rfl⟩
          refine TL.back (by (focus ((repeat (first | assumption | exact Ent.refl _ | apply Ent.tail)); done))) ?_
          refine m_take (At.mk : At 10) ?_
          by_cases h : d[x]! < d[x - 1]!
          · rw [if_neg (by simp [ltInt, h])] at hS
            refine TA.isF 116 rfl (not_f (decide_eq_true h)) ?_
            refine TA.done (by kernel_rfl) ?_
            clear hc1 hc2
            refine m_run ?_
            have hcI := cellD (b := b) (c := c) (Γ := Γ) hsz (show x < n by omega)
            have hcK := cellD (b := b) (c := c) (Γ := Γ) hsz (show x - 1 < n by omega)
            refine TK.drawB mixed rfl 15 (DD b c n d :: Γ) (Γ) ?_
            refine m_bake (At.mk : At 0) ?_; refine m_bake (At.mk : At 1) ?_; refine m_bake (At.mk : At 2) ?_; refine m_bake (At.mk : At 3) ?_; refine m_bake (At.mk : At 4) ?_
            refine TB.know (t := 121) (v := .int .i64 ((x - 1 : Nat) : Int)) (congrArg (Value.int .i64) (by rw [i64_in (by omega) (by omega)]; omega)) ?_
            refine m_bake (At.mk : At 5) ?_; refine m_bake (At.mk : At 6) ?_; refine m_bake (At.mk : At 7) ?_
            refine TB.know (t := 124) (v := .int .i64 ((x - 1 : Nat) : Int)) (congrArg (Value.int .i64) (by rw [i64_in (by omega) (by omega)]; omega)) ?_
            refine m_bake (At.mk : At 8) ?_; refine m_bake (At.mk : At 9) ?_; refine m_bake (At.mk : At 10) ?_; refine m_bake (At.mk : At 11) ?_; refine m_bake (At.mk : At 12) ?_; refine m_bake (At.mk : At 13) ?_; refine m_bake (At.mk : At 14) ?_
            (apply TB.last; kernel_rfl; exact rfl)
            (apply TL.storeOwn 0 (x); exact rfl; exact rfl; exact rfl; exact rfl; exact tb rfl; exact rfl; exact (Nat.zero_add _).symm; exact (by omega))
            refine TL.back (by (focus ((repeat (first | assumption | exact Ent.refl _ | apply Ent.tail)); done))) ?_
            refine m_take (At.mk : At 16) ?_
            (apply TA.one 17; kernel_rfl; exact rfl)
            (apply TL.storeOwn 0 (x - 1); exact rfl; exact rfl; exact rfl; exact rfl; exact tb rfl; exact rfl; exact (Nat.zero_add _).symm; exact (by omega))
            refine TL.back (by (focus ((repeat (first | assumption | exact Ent.refl _ | apply Ent.tail)); done))) ?_
            refine TA.done (by kernel_rfl) ?_
            refine TK.imp (Δ := DD b c n (swp d (x) (x - 1)) :: Γ) (fun _ h => by show all (own _ _ _ _ (nums _ (swp d (x) (x - 1)).toList) :: _) _; rw [← swpD]; exact h) ?_
            have hsz : (swp d (x) (x - 1)).size = n := (size_swp _ _ _).trans hsz
            clear hcI hcK
            refine m_run ?_
            exact IH2 (q - 1) _ _ (by omega) ⟨x + 1, _, by omega, by omega, by omega, hsz, hS, rfl, rfl, rfl, rfl, rfl, congrArg (Value.int .i64) (i64_succ x (by omega)), rfl⟩
          · rw [if_pos (by simp [ltInt, h])] at hS
            refine TA.isT 116 rfl (not_t (decide_eq_false h)) ?_
            refine TA.done (by kernel_rfl) ?_
            rw [hS]
            refine m_run ?_
            exact hk' _ _ ⟨rfl, rfl, rfl, rfl, rfl, rfl⟩
        · rw [if_neg hx] at hS
          rw [hS]
          refine m_run ?_
          exact hk' _ _ ⟨rfl, rfl, rfl, rfl, rfl, rfl⟩
      · rw [if_neg h2] at hk'
        refine TK.know (t := 98) (v := .bool false) (congrArg Value.bool (by rw [hey]; exact decide_eq_false (by omega))) ?_
        refine m_run ?_
        exact hk' _ _ ⟨rfl, rfl, rfl, rfl, rfl, rfl⟩
    rintro ρ' _ ⟨e0, e1, e2, e7, e8, rfl⟩
    refine TK.know5 e0 e1 e2 e7 e8 ?_
    have hsz : (if e - y ≥ 2 then shiftUp ltInt e (y + 1) d else d).size = n := by
      split
      · rw [shiftUp_size]; exact hsz
      · exact hsz
    refine m_run ?_
    exact IH m _ _ (by omega) ⟨y, _, by omega, by omega, by omega, hsz, hR, rfl, rfl, rfl, rfl, congrArg (Value.int .i64) (by rw [i64_in (by omega) (by omega)]; omega), rfl⟩

def okTab (a : ByteArray) : Bool := Nat.beq a.size 256 && (List.range 256).all fun i => Nat.ble (a.get! i).toNat 8 && (Nat.beq i 0 || Nat.ble (2 ^ (a.get! i).toNat) (2 * i))
theorem okTab_spec {a : ByteArray} (h : okTab a = true) {i : Nat} (hi : i < 256) (hs : i < a.size) : (a[i]'hs).toNat ≤ 8 ∧ (0 < i → 2 ^ (a[i]'hs).toNat ≤ 2 * i) := by
  unfold okTab at h
  rw [Bool.and_eq_true] at h
  have h1 := List.all_eq_true.1 h.2 i (List.mem_range.2 hi)
  have e : a.get! i = a[i]'hs := by
    rw [ByteArray.getElem_eq_getElem_data]
    show a.data[i]! = _
    exact getElem!_pos a.data i hs
  rw [e, Bool.and_eq_true, Bool.or_eq_true] at h1
  refine ⟨Nat.le_of_ble_eq_true h1.1, fun h0 => ?_⟩
  rcases h1.2 with h2 | h2
  · have := Nat.eq_of_beq_eq_true h2; omega
  · exact Nat.le_of_ble_eq_true h2
theorem TL.indexTab {cx : Cx} {ops : Array Oper} {K : Act → World → Prop} {rest : List Oper} {ρ : Env} {ds : List Deferred} {Γ : List HP} {d : Nat} {ty t : TypeId} {pos : String} {after : Array Edge} {x y : Operand} {a : ByteArray} {q : IntKind} {i : Nat} {r : TR} (hd : Nat.blt d cx.n = true) (ea : ev ρ x = .string a) (eb : ev ρ y = .int q i) (ht : TabOk cx.P t r) (hq : r.und = .string) (hok : okTab a = true) (hi : i < 256)
    (h : ∀ u : Nat, u ≤ 8 → (0 < i → 2 ^ u ≤ 2 * i) → TL cx ops K rest ((d, .int .u8 (u : Int)) :: ρ) ds Γ) : TL cx ops K (⟨some d, .index t x y, ty, pos, after, none⟩ :: rest) ρ ds Γ := by
  have hs : i < a.size := by
    unfold okTab at hok
    rw [Bool.and_eq_true] at hok
    rw [Nat.eq_of_beq_eq_true hok.1]; exact hi
  obtain ⟨h1, h2⟩ := okTab_spec hok hi hs
  exact TL.pv hd (PV.indexStr ea eb ht hq hs) (h _ h1 h2)
theorem bxor_nat (a b : Int) : ∃ y : Nat, bitsOf .xor .u64 a b = (y : Int) ∧ y < 18446744073709551616 := by
  refine ⟨(BitVec.ofInt 64 a ^^^ BitVec.ofInt 64 b).toNat % 2 ^ 64, ?_, Nat.mod_lt _ (by decide)⟩
  show IntKind.u64.wrap _ = _
  exact wrap_nat rfl _
set_option maxRecDepth 100000 in
set_option maxHeartbeats 4000000 in
theorem len64_t (n : Nat) (hn : n ≤ 1000000000) (Γ : List HP) : FnV Try.prog 84 [.int .u64 (n : Int)] Γ fun v Γ' => ∃ L : Nat, L ≤ 32 ∧ (0 < n → 2 ^ L ≤ 2 * n) ∧ v = .int .i64 (L : Int) ∧ Γ' = Γ := by
  refine Fn.enter Try.func84 rfl rfl rfl fun E => ?_
  by_cases h16 : 65536 ≤ n
  · have h17 : 256 ≤ n / 2 ^ 16 ∨ ¬ 256 ≤ n / 2 ^ 16 := Decidable.em _
    rcases h17 with h8 | h8
    · have hm : n / 2 ^ 16 / 2 ^ 8 < 256 := by omega
      have hm0 : 0 < n / 2 ^ 16 / 2 ^ 8 := by omega
      have hd : n / 2 ^ 16 / 2 ^ 8 * 16777216 ≤ n := by omega
      refine m_run ?_
      generalize n / 2 ^ 16 / 2 ^ 8 = m at *
      refine TL.know (t := 21) (v := .int .u8 ((m : Nat) : Int)) (congrArg (Value.int .u8) (u8_in (by omega) (by omega))) ?_
      (apply TL.indexTab (i := m); exact rfl; exact rfl; exact rfl; exact tb rfl; exact rfl; kernel_rfl; exact (by omega))
      intro u hu hu2
      refine m_run ?_
      refine TK.know (t := 2) (v := .int .i64 ((24 + u : Nat) : Int)) (congrArg (Value.int .i64) (by rw [i64_in (x := (0 : Int) + 16) (by decide) (by decide), i64_in (x := (0 : Int) + 16 + 8) (by decide) (by decide), i64_in (x := (u : Int)) (by omega) (by omega), i64_in (by omega) (by omega)]; omega)) ?_
      (apply TK.ret1; exact rfl; exact rfl; (exact m_val))
      exact ⟨_, rfl, _, by omega, fun h0 => by have := hu2 (by omega); rw [Nat.pow_add]; show 16777216 * 2 ^ u ≤ _; generalize 2 ^ u = w at *; omega, rfl, rfl⟩
    · have hm : n / 2 ^ 16 < 256 := by omega
      have hm0 : 0 < n / 2 ^ 16 := by omega
      have hd : n / 2 ^ 16 * 65536 ≤ n := by omega
      refine m_run ?_
      generalize n / 2 ^ 16 = m at *
      refine TL.know (t := 21) (v := .int .u8 ((m : Nat) : Int)) (congrArg (Value.int .u8) (u8_in (by omega) (by omega))) ?_
      (apply TL.indexTab (i := m); exact rfl; exact rfl; exact rfl; exact tb rfl; exact rfl; kernel_rfl; exact (by omega))
      intro u hu hu2
      refine m_run ?_
      refine TK.know (t := 2) (v := .int .i64 ((16 + u : Nat) : Int)) (congrArg (Value.int .i64) (by rw [i64_in (x := (0 : Int) + 16) (by decide) (by decide), i64_in (x := (u : Int)) (by omega) (by omega), i64_in (by omega) (by omega)]; omega)) ?_
      (apply TK.ret1; exact rfl; exact rfl; (exact m_val))
      exact ⟨_, rfl, _, by omega, fun h0 => by have := hu2 (by omega); rw [Nat.pow_add]; show 65536 * 2 ^ u ≤ _; generalize 2 ^ u = w at *; omega, rfl, rfl⟩
  · by_cases h8 : 256 ≤ n
    · have hm : n / 2 ^ 8 < 256 := by omega
      have hm0 : 0 < n / 2 ^ 8 := by omega
      have hd : n / 2 ^ 8 * 256 ≤ n := by omega
      refine m_run ?_
      generalize n / 2 ^ 8 = m at *
      refine TL.know (t := 21) (v := .int .u8 ((m : Nat) : Int)) (congrArg (Value.int .u8) (u8_in (by omega) (by omega))) ?_
      (apply TL.indexTab (i := m); exact rfl; exact rfl; exact rfl; exact tb rfl; exact rfl; kernel_rfl; exact (by omega))
      intro u hu hu2
      refine m_run ?_
      refine TK.know (t := 2) (v := .int .i64 ((8 + u : Nat) : Int)) (congrArg (Value.int .i64) (by rw [i64_in (x := (0 : Int) + 8) (by decide) (by decide), i64_in (x := (u : Int)) (by omega) (by omega), i64_in (by omega) (by omega)]; omega)) ?_
      (apply TK.ret1; exact rfl; exact rfl; (exact m_val))
      exact ⟨_, rfl, _, by omega, fun h0 => by have := hu2 (by omega); rw [Nat.pow_add]; show 256 * 2 ^ u ≤ _; generalize 2 ^ u = w at *; omega, rfl, rfl⟩
    · refine m_run ?_
      refine TL.know (t := 21) (v := .int .u8 ((n : Nat) : Int)) (congrArg (Value.int .u8) (u8_in (by omega) (by omega))) ?_
      (apply TL.indexTab (i := n); exact rfl; exact rfl; exact rfl; exact tb rfl; exact rfl; kernel_rfl; exact (by omega))
      intro u hu hu2
      refine m_run ?_
      refine TK.know (t := 2) (v := .int .i64 ((0 + u : Nat) : Int)) (congrArg (Value.int .i64) (by rw [i64_in (x := (u : Int)) (by omega) (by omega), i64_in (by omega) (by omega)]; omega)) ?_
      (apply TK.ret1; exact rfl; exact rfl; (exact m_val))
      exact ⟨_, rfl, _, by omega, fun h0 => by rw [Nat.zero_add]; exact hu2 h0, rfl, rfl⟩
set_option maxRecDepth 100000 in
set_option maxHeartbeats 4000000 in
theorem len_t (n : Nat) (hn : n ≤ 1000000000) (Γ : List HP) : FnV Try.prog 57 [.int .u64 (n : Int)] Γ fun v Γ' => ∃ L : Nat, L ≤ 32 ∧ (0 < n → 2 ^ L ≤ 2 * n) ∧ v = .int .i64 (L : Int) ∧ Γ' = Γ := by
  refine Fn.enter Try.func57 rfl rfl rfl fun E => ?_
  refine m_run ?_
  (apply TL.callV; exact rfl; exact callB_of (by kernel_rfl); exact rfl; exact fun _ h => h)
  exact len64_t n hn Γ
  rintro _ Γ ⟨L, h1, h2, rfl, rfl⟩
  refine m_run ?_
  (apply TK.ret1; exact rfl; exact rfl; (exact m_val))
  exact ⟨_, rfl, L, h1, h2, rfl, rfl⟩
set_option maxRecDepth 100000 in
set_option maxHeartbeats 4000000 in
theorem npow_t (n : Nat) (h0 : 0 < n) (hn : n ≤ 1000000000) (Γ : List HP) : FnV Try.prog 108 [.int .i64 (n : Int)] Γ fun v Γ' => ∃ M : Nat, 1 ≤ M ∧ M ≤ 2 * n ∧ v = .int .u64 (M : Int) ∧ Γ' = Γ := by
  refine Fn.enter Try.func108 rfl rfl rfl fun E => ?_
  refine m_run ?_
  refine TL.know (t := 4) (v := .int .u64 (n : Int)) (congrArg (Value.int .u64) (u64_nat (by omega))) ?_
  (apply TL.callV; exact rfl; exact callB_of (by kernel_rfl); exact rfl; exact fun _ h => h)
  exact len_t n hn Γ
  rintro _ Γ ⟨L, h1, h2, rfl, rfl⟩
  have h2 := h2 h0
  have h3 := Nat.two_pow_pos L
  have hw : IntKind.u64.wrap (1 * 2 ^ (min ((L : Int)).toNat IntKind.u64.bits)) = ((2 ^ L : Nat) : Int) := by
    rw [Int.toNat_natCast, Nat.min_eq_left (by show L ≤ 64; omega), Int.one_mul, show (2 : Int) ^ L = ((2 ^ L : Nat) : Int) by simp, u64_nat (by omega)]
  (apply TL.pv; exact rfl; (apply PV.shl; exact rfl; exact rfl; exact (by omega)))
  rw [hw]
  generalize 2 ^ L = M at *
  refine m_run ?_
  (apply TK.ret1; exact rfl; exact rfl; (exact m_val))
  exact ⟨_, rfl, M, h3, h2, rfl, rfl⟩
set_option maxRecDepth 100000 in
set_option maxHeartbeats 4000000 in
theorem next_t (s x : Nat) (Γ : List HP) : FnV Try.prog 109 [.pointer (some ⟨s, 0, none⟩)] (row s [.int .u64 (x : Int)] 170 :: Γ) fun v Γ' => ∃ y : Nat, y < 18446744073709551616 ∧ v = .int .u64 (y : Int) ∧ Γ' = row s [.int .u64 (y : Int)] 170 :: Γ := by
  refine Fn.enter Try.func109 rfl rfl rfl fun E => ?_
  refine m_run ?_
  refine TK.drawB mixed rfl 9 (row s [.int .u64 (x : Int)] 170 :: Γ) Γ ?_
  refine m_bake (At.mk : At 0) ?_; refine m_bake (At.mk : At 1) ?_; refine m_bake (At.mk : At 2) ?_; refine m_bake (At.mk : At 3) ?_; refine m_bake (At.mk : At 4) ?_; refine m_bake (At.mk : At 5) ?_
  (apply TB.takeA (At.mk : At 6); exact rfl; exact rfl; kernel_rfl; exact rfl; ((focus ((repeat (first | assumption | exact Ent.refl _ | apply Ent.tail)); done))); (apply PV.shl; exact rfl; exact rfl; exact (by decide)))
  refine m_bake (At.mk : At 7) ?_; refine m_bake (At.mk : At 8) ?_
  (apply TB.last; kernel_rfl; exact rfl)
  refine m_rrun ?_
  refine TL.back (by (focus ((repeat (first | assumption | exact Ent.refl _ | apply Ent.tail)); done))) ?_
  refine TA.done (by kernel_rfl) ?_
  generalize bitsOf .xor .u64 _ _ = x1
  refine m_run ?_
  refine TK.drawB mixed rfl 9 (row s [.int .u64 x1] 170 :: Γ) Γ ?_
  refine m_bake (At.mk : At 0) ?_; refine m_bake (At.mk : At 1) ?_; refine m_bake (At.mk : At 2) ?_; refine m_bake (At.mk : At 3) ?_; refine m_bake (At.mk : At 4) ?_; refine m_bake (At.mk : At 5) ?_
  (apply TB.takeA (At.mk : At 6); exact rfl; exact rfl; kernel_rfl; exact rfl; ((focus ((repeat (first | assumption | exact Ent.refl _ | apply Ent.tail)); done))); (apply PV.shr; exact rfl; exact rfl; exact (by decide)))
  refine m_bake (At.mk : At 7) ?_; refine m_bake (At.mk : At 8) ?_
  (apply TB.last; kernel_rfl; exact rfl)
  refine m_rrun ?_
  refine TL.back (by (focus ((repeat (first | assumption | exact Ent.refl _ | apply Ent.tail)); done))) ?_
  refine TA.done (by kernel_rfl) ?_
  generalize bitsOf .xor .u64 _ _ = x2
  refine m_run ?_
  refine TK.drawB mixed rfl 9 (row s [.int .u64 x2] 170 :: Γ) Γ ?_
  refine m_bake (At.mk : At 0) ?_; refine m_bake (At.mk : At 1) ?_; refine m_bake (At.mk : At 2) ?_; refine m_bake (At.mk : At 3) ?_; refine m_bake (At.mk : At 4) ?_; refine m_bake (At.mk : At 5) ?_
  (apply TB.takeA (At.mk : At 6); exact rfl; exact rfl; kernel_rfl; exact rfl; ((focus ((repeat (first | assumption | exact Ent.refl _ | apply Ent.tail)); done))); (apply PV.shl; exact rfl; exact rfl; exact (by decide)))
  refine m_bake (At.mk : At 7) ?_
  obtain ⟨y, hy, hy2⟩ := bxor_nat x2 (IntKind.u64.wrap (x2 * 2 ^ min (Int.toNat 17) IntKind.u64.bits))
  refine TB.know (t := 28) (v := .int .u64 (y : Int)) (congrArg (Value.int .u64) hy) ?_
  refine m_bake (At.mk : At 8) ?_
  (apply TB.last; kernel_rfl; exact rfl)
  refine m_rrun ?_
  refine TL.back (by (focus ((repeat (first | assumption | exact Ent.refl _ | apply Ent.tail)); done))) ?_
  refine TA.done (by kernel_rfl) ?_
  refine m_run ?_
  (apply TK.ret1; exact rfl; exact rfl; (exact m_val))
  exact ⟨_, rfl, y, hy2, rfl, rfl⟩
set_option maxRecDepth 100000 in
set_option maxHeartbeats 4000000 in
theorem brk_t (b c n a e : Nat) (d0 : Array Int) (Γ : List HP) (hsz0 : d0.size = n) (hae : a + 12 < e) (he : e ≤ n) (hn : n ≤ 1000000000) :
    FnV Try.prog 87 [.slice (some ⟨b, 0, none⟩) n c, .int .i64 (a : Int), .int .i64 (e : Int)] (DD b c n d0 :: Γ) fun v Γ' => v = .tuple #[] ∧ ∃ d, PermIn a e d0 d ∧ Γ' = DD b c n d :: Γ := by
  refine Fn.enter Try.func87 rfl rfl rfl fun E => ?_
  have hq1 : (e - a) / 4 * 4 ≤ e - a := Nat.div_mul_le_self _ _
  have hq3 : 3 ≤ (e - a) / 4 := by omega
  have hqt : IntKind.i64.wrap (((e - a : Nat) : Int).tdiv 4) = (((e - a) / 4 : Nat) : Int) := by
    rw [show ((e - a : Nat) : Int).tdiv 4 = (((e - a) / 4 : Nat) : Int) from rfl, i64_in (by omega) (by omega)]
  generalize (e - a) / 4 = q at *
  have hea : IntKind.i64.wrap ((e : Int) - (a : Int)) = ((e - a : Nat) : Int) := by rw [i64_in (by omega) (by omega)]; omega
  refine m_run ?_
  refine TL.know (t := 17) (v := .int .u64 ((e - a : Nat) : Int)) (congrArg (Value.int .u64) (by rw [hea]; exact u64_nat (by omega))) ?_
  refine TL.know (t := 6) (v := .int .i64 ((e - a : Nat) : Int)) (congrArg (Value.int .i64) hea) ?_
  obtain ⟨L, hL⟩ : ∃ L, e - a = L := ⟨_, rfl⟩
  rw [hL] at hqt hq1 ⊢
  (apply TL.alloc; exact rfl; exact tb rfl; (exact m_lst))
  intro s
  refine m_run ?_
  refine TL.imp (Δ := row s [.int .u64 (L : Int)] 170 :: DD b c n d0 :: Γ) (fun _ h => h) ?_
  (apply TL.callV; exact rfl; exact callB_of (by kernel_rfl); exact rfl; exact fun _ h => h)
  exact npow_t L (by omega) (by omega) _
  rintro _ _ ⟨M, hM1, hM2, rfl, rfl⟩
  refine m_run ?_
  refine TK.know (t := 9) (v := .int .i64 ((a + q * 2 - 1 : Nat) : Int)) (congrArg (Value.int .i64) (by rw [hqt, i64_in (x := (q : Int) * 2) (by omega) (by omega), i64_in (x := (a : Int) + (q : Int) * 2) (by omega) (by omega), i64_in (by omega) (by omega)]; omega)) ?_
  apply TK.iter (fun m ρ' Γ' => ∃ (x y : Nat) (d : Array Int), x + m = a + q * 2 + 3 ∧ a + q * 2 ≤ x + 1 ∧ y < 18446744073709551616 ∧ PermIn a e d0 d ∧ lk ρ' 0 = .slice (some ⟨b, 0, none⟩) n c ∧ lk ρ' 1 = .int .i64 (a : Int) ∧ lk ρ' 6 = .int .i64 (L : Int) ∧ lk ρ' 7 = .pointer (some ⟨s, 0, none⟩) ∧ lk ρ' 8 = .int .u64 (M : Int) ∧ lk ρ' 9 = .int .i64 (x : Int) ∧ Γ' = row s [.int .u64 (y : Int)] 170 :: DD b c n d :: Γ) 4
  · exact ⟨a + q * 2 - 1, L, d0, by omega, by omega, by omega, permIn_refl _ _ _, rfl, rfl, rfl, rfl, rfl, rfl, rfl⟩
  rintro m IH ρ' _ ⟨x, y, d, hm, hx, hy, hP, e0, e1, e6, e7, e8, e9, rfl⟩
  refine TK.know6 e0 e1 e6 e7 e8 e9 ?_
  have hsz : d.size = n := hP.1.trans hsz0
  have hw : IntKind.i64.wrap (IntKind.i64.wrap ((a : Int) + IntKind.i64.wrap (IntKind.i64.wrap ((L : Int).tdiv 4) * 2)) + 1) = ((a + q * 2 + 1 : Nat) : Int) := by
    rw [hqt, i64_in (x := (q : Int) * 2) (by omega) (by omega), i64_in (x := (a : Int) + (q : Int) * 2) (by omega) (by omega), i64_in (by omega) (by omega)]; omega
  by_cases hx2 : x ≤ a + q * 2 + 1
  · refine m_run ?_
    (apply TL.callV; exact rfl; exact callB_of (by kernel_rfl); exact rfl; exact fun _ h => h)
    exact next_t s y _
    rintro _ _ ⟨z, hz, rfl, rfl⟩
    have hand : bitsOf .and .u64 (z : Int) ((M - 1 : Nat) : Int) = ((z &&& (M - 1) : Nat) : Int) := bits_and rfl hz (show M - 1 < 18446744073709551616 by omega)
    have hle : z &&& (M - 1) ≤ M - 1 := Nat.and_le_right
    have hM' : IntKind.u64.wrap ((M : Int) - 1) = ((M - 1 : Nat) : Int) := by rw [u64_in (by omega) (by omega)]; omega
    refine m_rrun ?_
    refine TL.know (t := 10) (v := .int .i64 ((z &&& (M - 1) : Nat) : Int)) (congrArg (Value.int .i64) (by rw [hM', hand]; exact i64_nat (by omega))) ?_
    generalize z &&& (M - 1) = o at *
    refine TL.nil ?_
    (repeat (first | refine TK.seq ?_ | refine TK.skip ?_))
    refine TK.region ?_
    refine m_rrun ?_
    refine TL.nil ?_
    (repeat (first | refine TK.seq ?_ | refine TK.skip ?_))
    apply TK.cut (fun ρ' Γ' => ∃ p : Nat, p < L ∧ lk ρ' 0 = .slice (some ⟨b, 0, none⟩) n c ∧ lk ρ' 1 = .int .i64 (a : Int) ∧ lk ρ' 6 = .int .i64 (L : Int) ∧ lk ρ' 7 = .pointer (some ⟨s, 0, none⟩) ∧ lk ρ' 8 = .int .u64 (M : Int) ∧ lk ρ' 9 = .int .i64 (x : Int) ∧ lk ρ' 10 = .int .i64 (p : Int) ∧ Γ' = row s [.int .u64 (z : Int)] 170 :: DD b c n d :: Γ)
    · intro k' hk'
      by_cases ho : L ≤ o
      · refine m_run ?_
        exact hk' _ _ ⟨o - L, by omega, rfl, rfl, rfl, rfl, rfl, rfl, congrArg (Value.int .i64) (by rw [i64_in (by omega) (by omega)]; omega), rfl⟩
      · refine m_run ?_
        exact hk' _ _ ⟨o, by omega, rfl, rfl, rfl, rfl, rfl, rfl, rfl, rfl⟩
    rintro ρ' _ ⟨p, hp, e0, e1, e6, e7, e8, e9, e10, rfl⟩
    refine TK.know7 e0 e1 e6 e7 e8 e9 e10 ?_
    refine TK.perm (List.Perm.swap _ _ _) ?_
    refine m_run ?_
    have hcI := cellD (b := b) (c := c) (Γ := row s [.int .u64 (z : Int)] 170 :: Γ) hsz (show x < n by omega)
    have hcK := cellD (b := b) (c := c) (Γ := row s [.int .u64 (z : Int)] 170 :: Γ) hsz (show a + p < n by omega)
    refine TK.drawB mixed rfl 17 (DD b c n d :: row s [.int .u64 (z : Int)] 170 :: Γ) (row s [.int .u64 (z : Int)] 170 :: Γ) ?_
    refine m_bake (At.mk : At 0) ?_; refine m_bake (At.mk : At 1) ?_; refine m_bake (At.mk : At 2) ?_; refine m_bake (At.mk : At 3) ?_; refine m_bake (At.mk : At 4) ?_; refine m_bake (At.mk : At 5) ?_
    refine TB.know (t := 52) (v := .int .i64 ((a + p : Nat) : Int)) (congrArg (Value.int .i64) (by rw [i64_in (by omega) (by omega)]; omega)) ?_
    refine m_bake (At.mk : At 6) ?_; refine m_bake (At.mk : At 7) ?_; refine m_bake (At.mk : At 8) ?_; refine m_bake (At.mk : At 9) ?_
    refine TB.know (t := 56) (v := .int .i64 ((a + p : Nat) : Int)) (congrArg (Value.int .i64) (by rw [i64_in (by omega) (by omega)]; omega)) ?_
    refine m_bake (At.mk : At 10) ?_; refine m_bake (At.mk : At 11) ?_; refine m_bake (At.mk : At 12) ?_; refine m_bake (At.mk : At 13) ?_; refine m_bake (At.mk : At 14) ?_; refine m_bake (At.mk : At 15) ?_; refine m_bake (At.mk : At 16) ?_
    (apply TB.last; kernel_rfl; exact rfl)
    (apply TL.storeOwn 0 (x); exact rfl; exact rfl; exact rfl; exact rfl; exact tb rfl; exact rfl; exact (Nat.zero_add _).symm; exact (by omega))
    refine TL.back (by (focus ((repeat (first | assumption | exact Ent.refl _ | apply Ent.tail)); done))) ?_
    refine m_take (At.mk : At 18) ?_
    (apply TA.one 19; kernel_rfl; exact rfl)
    (apply TL.storeOwn 0 (a + p); exact rfl; exact rfl; exact rfl; exact rfl; exact tb rfl; exact rfl; exact (Nat.zero_add _).symm; exact (by omega))
    refine TL.back (by (focus ((repeat (first | assumption | exact Ent.refl _ | apply Ent.tail)); done))) ?_
    refine TA.done (by kernel_rfl) ?_
    refine TK.imp (Δ := DD b c n (swp d (x) (a + p)) :: row s [.int .u64 (z : Int)] 170 :: Γ) (fun _ h => by show all (own _ _ _ _ (nums _ (swp d (x) (a + p)).toList) :: _) _; rw [← swpD]; exact h) ?_
    have hsz : (swp d (x) (a + p)).size = n := (size_swp _ _ _).trans hsz
    clear hcI hcK
    refine TK.perm (List.Perm.swap _ _ _) ?_
    refine m_run ?_
    exact IH (m - 1) _ _ (by omega) ⟨x + 1, z, _, by omega, by omega, hz, permIn_trans _ _ _ _ _ hP (swp_permIn _ _ _ _ _ (by omega) (by omega) (by omega) (by omega) (by rw [hP.1]; omega)), rfl, rfl, rfl, rfl, rfl, congrArg (Value.int .i64) (i64_succ x (by omega)), rfl⟩
  · refine m_run ?_
    refine TK.sub (Δ := DD b c n d :: Γ) (by (repeat (first | exact List.Sublist.refl _ | apply List.Sublist.cons_cons | apply List.Sublist.cons))) ?_
    exact TK.over0 rfl rfl ⟨_, rfl, rfl, d, hP, rfl⟩

set_option maxRecDepth 100000 in
set_option maxHeartbeats 4000000 in
theorem pdq_t (b c n : Nat) (Γ : List HP) (hn : n ≤ 1000000000) : ∀ (N a e : Nat) (z : Int) (d : Array Int), e - a = N → d.size = n → a ≤ e → e ≤ n → Below ltInt a e d →
    FnV Try.prog 58 [.slice (some ⟨b, 0, none⟩) n c, .int .i64 (a : Int), .int .i64 (e : Int), .int .i64 z] (DD b c n d :: Γ) fun v Γ' => v = .tuple #[] ∧ ∃ d', PermIn a e d d' ∧ SortedIn ltInt a e d' ∧ Γ' = DD b c n d' :: Γ := by
  intro N
  induction N using Nat.strongRecOn with
  | _ N IHN =>
  intro a0 e0 z0 d0 hN hsz0 hae0 he0 hB0
  refine Fn.enter Try.func58 rfl rfl rfl fun E => ?_
  refine m_run ?_
  apply TK.iter (fun m ρ' Γ' => ∃ (a e : Nat) (z : Int) (d : Array Int) (wb wp : Bool), e - a ≤ m ∧ a0 ≤ a ∧ a ≤ e ∧ e ≤ e0 ∧ d.size = n ∧ Below ltInt a e d ∧ (∀ R, PermIn a e d R → SortedIn ltInt a e R → PermIn a0 e0 d0 R ∧ SortedIn ltInt a0 e0 R) ∧ lk ρ' 0 = .slice (some ⟨b, 0, none⟩) n c ∧ lk ρ' 1 = .int .i64 (a : Int) ∧ lk ρ' 2 = .int .i64 (e : Int) ∧ lk ρ' 3 = .int .i64 z ∧ lk ρ' 8 = .bool wb ∧ lk ρ' 9 = .bool wp ∧ Γ' = DD b c n d :: Γ) (e0 - a0)
  · exact ⟨a0, e0, z0, d0, true, true, Nat.le_refl _, Nat.le_refl _, hae0, Nat.le_refl _, hsz0, hB0, fun R h1 h2 => ⟨h1, h2⟩, rfl, rfl, rfl, rfl, rfl, rfl, rfl⟩
  rintro m IH ρ' _ ⟨a, e, z, d, wb, wp, hm, ha0, hae, hee, hsz, hB, hfin, e0_, e1, e2, e3, e8, e9, rfl⟩
  refine TK.know6 e0_ e1 e2 e3 e8 e9 ?_
  have hea : IntKind.i64.wrap ((e : Int) - (a : Int)) = ((e - a : Nat) : Int) := by rw [i64_in (by omega) (by omega)]; omega
  by_cases h12 : e - a ≤ 12
  · refine m_run ?_
    (apply TL.callV; exact rfl; exact callB_of (by kernel_rfl); exact rfl; exact fun _ h => h)
    exact ins_t b c n a e d Γ hsz (by omega) (by omega) hn
    rintro _ _ ⟨rfl, rfl⟩
    obtain ⟨q1, q2⟩ := insertionSort_holds swo_ltInt d a e hae (by omega)
    obtain ⟨r1, r2⟩ := hfin _ q1 q2
    refine m_run ?_
    (apply TK.ret0; exact rfl; exact rfl)
    exact ⟨_, rfl, rfl, _, r1, r2, rfl⟩
  by_cases hz : z = 0
  · refine m_run ?_
    (apply TL.callV; exact rfl; exact callB_of (by kernel_rfl); exact rfl; exact fun _ h => h)
    exact heap_t b c n a e d Γ hsz (by omega) (by omega) hn
    rintro _ _ ⟨rfl, rfl⟩
    obtain ⟨q1, q2⟩ := heapSort_holds swo_ltInt d a e hae (by omega)
    obtain ⟨r1, r2⟩ := hfin _ q1 q2
    refine m_run ?_
    (apply TK.ret0; exact rfl; exact rfl)
    exact ⟨_, rfl, rfl, _, r1, r2, rfl⟩
  (repeat (first | refine TK.seq ?_ | refine TK.skip ?_))
  refine TK.block ?_
  (repeat (first | refine TK.seq ?_ | refine TK.skip ?_))
  refine TK.region ?_
  refine m_rrun ?_
  refine TL.nil ?_
  (repeat (first | refine TK.seq ?_ | refine TK.skip ?_))
  refine TK.know (t := 10) (v := .int .i64 ((e - a : Nat) : Int)) (congrArg (Value.int .i64) hea) ?_
  (repeat (first | refine TK.seq ?_ | refine TK.skip ?_))
  refine TK.region ?_
  refine m_rrun ?_
  refine TL.nil ?_
  (repeat (first | refine TK.seq ?_ | refine TK.skip ?_))
  refine TK.condF rfl (decide_eq_false (by omega)) ?_
  (repeat (first | refine TK.seq ?_ | refine TK.skip ?_))
  refine TK.region ?_
  refine m_rrun ?_
  refine TL.nil ?_
  (repeat (first | refine TK.seq ?_ | refine TK.skip ?_))
  refine TK.condF rfl (beq_eq_false_iff_ne.2 hz) ?_
  (repeat (first | refine TK.seq ?_ | refine TK.skip ?_))
  refine TK.region ?_
  refine m_rrun ?_
  refine TL.nil ?_
  (repeat (first | refine TK.seq ?_ | refine TK.skip ?_))
  apply TK.cut (fun ρ' Γ' => ∃ (z : Int) (d1 : Array Int), PermIn a e d d1 ∧ lk ρ' 0 = .slice (some ⟨b, 0, none⟩) n c ∧ lk ρ' 1 = .int .i64 (a : Int) ∧ lk ρ' 2 = .int .i64 (e : Int) ∧ lk ρ' 8 = .bool wb ∧ lk ρ' 9 = .bool wp ∧ lk ρ' 10 = .int .i64 ((e - a : Nat) : Int) ∧ lk ρ' 3 = .int .i64 z ∧ Γ' = DD b c n d1 :: Γ)
  · intro k' hk'
    cases wb with
    | true =>
      refine m_run ?_
      exact hk' _ _ ⟨z, d, permIn_refl _ _ _, rfl, rfl, rfl, rfl, rfl, rfl, rfl, rfl⟩
    | false =>
      refine m_run ?_
      (apply TL.callV; exact rfl; exact callB_of (by kernel_rfl); exact rfl; exact fun _ h => h)
      exact brk_t b c n a e d Γ hsz (by omega) (by omega) hn
      rintro _ _ ⟨rfl, d1, hP, rfl⟩
      refine m_run ?_
      exact hk' _ _ ⟨_, d1, hP, rfl, rfl, rfl, rfl, rfl, rfl, rfl, rfl⟩
  rintro ρ' _ ⟨z, d1, hP1, e0_, e1, e2, e8, e9, e10, e3, rfl⟩
  refine TK.know7 e0_ e1 e2 e8 e9 e10 e3 ?_
  have hsz1 : d1.size = n := hP1.1.trans hsz
  (repeat (first | refine TK.seq ?_ | refine TK.skip ?_))
  refine TK.region ?_
  refine m_rrun ?_
  (apply TL.callV; exact rfl; exact callB_of (by kernel_rfl); exact rfl; exact fun _ h => h)
  exact pivot_t b c n a e d1 Γ hsz1 (by omega) (by omega) hn
  rintro _ _ ⟨x, h, hx1, hx2, hh, rfl, rfl⟩
  refine m_rrun ?_
  refine TL.nil ?_
  (repeat (first | refine TK.seq ?_ | refine TK.skip ?_))
  refine TK.region ?_
  refine m_rrun ?_
  refine TL.nil ?_
  (repeat (first | refine TK.seq ?_ | refine TK.skip ?_))
  apply TK.cut (fun ρ' Γ' => ∃ (x : Nat) (h : Int) (d2 : Array Int), PermIn a e d1 d2 ∧ a ≤ x ∧ x < e ∧ lk ρ' 0 = .slice (some ⟨b, 0, none⟩) n c ∧ lk ρ' 1 = .int .i64 (a : Int) ∧ lk ρ' 2 = .int .i64 (e : Int) ∧ lk ρ' 8 = .bool wb ∧ lk ρ' 9 = .bool wp ∧ lk ρ' 10 = .int .i64 ((e - a : Nat) : Int) ∧ lk ρ' 3 = .int .i64 z ∧ lk ρ' 11 = .int .i64 (x : Int) ∧ lk ρ' 12 = .int .i64 h ∧ Γ' = DD b c n d2 :: Γ)
  · intro k' hk'
    by_cases hh2 : h = 2
    · refine m_run ?_
      (apply TL.callV; exact rfl; exact callB_of (by kernel_rfl); exact rfl; exact fun _ h => h)
      exact rev_t b c n a e d1 Γ hsz1 (by omega) (by omega) hn
      rintro _ _ ⟨rfl, rfl⟩
      have hP2 := reverseRange_holds d1 a e hae (by omega)
      refine m_run ?_
      exact hk' _ _ ⟨(e - 1) - (x - a), 1, _, hP2, by omega, by omega, rfl, rfl, rfl, rfl, rfl, rfl, rfl, congrArg (Value.int .i64) (by rw [i64_in (x := (e : Int) - 1) (by omega) (by omega), i64_in (x := (x : Int) - (a : Int)) (by omega) (by omega), i64_in (by omega) (by omega)]; omega), rfl, rfl⟩
    · refine m_run ?_
      exact hk' _ _ ⟨x, h, d1, permIn_refl _ _ _, hx1, hx2, rfl, rfl, rfl, rfl, rfl, rfl, rfl, rfl, rfl, rfl⟩
  clear hx1 hx2 hh
  rintro ρ' _ ⟨x, h, d2, hP2, hx1, hx2, e0_, e1, e2, e8, e9, e10, e3, e11, e12, rfl⟩
  refine TK.know9 e0_ e1 e2 e8 e9 e10 e3 e11 e12 ?_
  have hsz2 : d2.size = n := hP2.1.trans hsz1
  (repeat (first | refine TK.seq ?_ | refine TK.skip ?_))
  apply TK.cut (fun ρ' Γ' => ∃ (t : Bool), lk ρ' 0 = .slice (some ⟨b, 0, none⟩) n c ∧ lk ρ' 1 = .int .i64 (a : Int) ∧ lk ρ' 2 = .int .i64 (e : Int) ∧ lk ρ' 8 = .bool wb ∧ lk ρ' 9 = .bool wp ∧ lk ρ' 10 = .int .i64 ((e - a : Nat) : Int) ∧ lk ρ' 3 = .int .i64 z ∧ lk ρ' 11 = .int .i64 (x : Int) ∧ lk ρ' 68 = .bool t ∧ Γ' = DD b c n d2 :: Γ)
  · intro k' hk'
    cases wb <;> cases wp <;> (by_cases h1 : h = 1) <;> (refine m_run ?_; exact hk' _ _ ⟨_, rfl, rfl, rfl, rfl, rfl, rfl, rfl, rfl, rfl, rfl⟩)
  rintro ρ' _ ⟨t, e0_, e1, e2, e8, e9, e10, e3, e11, e68, rfl⟩
  refine TK.know9 e0_ e1 e2 e8 e9 e10 e3 e11 e68 ?_
  (repeat (first | refine TK.seq ?_ | refine TK.skip ?_))
  have hB2 : Below ltInt a e d2 := (hB.perm (by omega) hP1).perm (by omega) hP2
  apply TK.cut (fun ρ' Γ' => ∃ (d3 : Array Int), PermIn a e d2 d3 ∧ lk ρ' 0 = .slice (some ⟨b, 0, none⟩) n c ∧ lk ρ' 1 = .int .i64 (a : Int) ∧ lk ρ' 2 = .int .i64 (e : Int) ∧ lk ρ' 8 = .bool wb ∧ lk ρ' 9 = .bool wp ∧ lk ρ' 10 = .int .i64 ((e - a : Nat) : Int) ∧ lk ρ' 3 = .int .i64 z ∧ lk ρ' 11 = .int .i64 (x : Int) ∧ Γ' = DD b c n d3 :: Γ)
  · intro k' hk'
    cases t with
    | false =>
      refine m_run ?_
      exact hk' _ _ ⟨d2, permIn_refl _ _ _, rfl, rfl, rfl, rfl, rfl, rfl, rfl, rfl, rfl⟩
    | true =>
      refine m_run ?_
      (apply TL.callV; exact rfl; exact callB_of (by kernel_rfl); exact rfl; exact fun _ h => h)
      exact partial_t b c n a e d2 Γ hsz2 (by omega) (by omega) hn
      rintro _ _ ⟨rfl, rfl⟩
      obtain ⟨q1, q2⟩ := partialInsertionSort_holds swo_ltInt d2 a e (by omega) (by omega) hB2
      generalize partialInsertionSort ltInt d2 a e = r at *
      obtain ⟨d3, t⟩ := r
      cases t with
      | true =>
        obtain ⟨r1, r2⟩ := hfin _ (permIn_trans _ _ _ _ _ (permIn_trans _ _ _ _ _ hP1 hP2) q1) (q2 rfl)
        refine m_run ?_
        (apply TK.ret0; exact rfl; exact rfl)
        exact ⟨_, rfl, rfl, _, r1, r2, rfl⟩
      | false =>
        refine m_run ?_
        exact hk' _ _ ⟨d3, q1, rfl, rfl, rfl, rfl, rfl, rfl, rfl, rfl, rfl⟩
  rintro ρ' _ ⟨d3, hP3, e0_, e1, e2, e8, e9, e10, e3, e11, rfl⟩
  refine TK.know8 e0_ e1 e2 e8 e9 e10 e3 e11 ?_
  have hsz3 : d3.size = n := hP3.1.trans hsz2
  have hP : PermIn a e d d3 := permIn_trans _ _ _ _ _ (permIn_trans _ _ _ _ _ hP1 hP2) hP3
  have hB3 : Below ltInt a e d3 := hB2.perm (by omega) hP3
  clear hB2 hB hP1 hP2 hP3
  (repeat (first | refine TK.seq ?_ | refine TK.skip ?_))
  by_cases heq : 0 < a ∧ ¬ d3[a - 1]! < d3[x]!
  · obtain ⟨h0, hnl⟩ := heq
    have hc1 := cellD (b := b) (c := c) (Γ := Γ) hsz3 (show a - 1 < n by omega)
    have hc2 := cellD (b := b) (c := c) (Γ := Γ) hsz3 (show x < n by omega)
    refine TK.drawS mixed rfl ?_
    refine m_take (At.mk : At 0) ?_; refine m_take (At.mk : At 1) ?_
    refine TA.isT 74 rfl (decide_eq_true (by omega)) ?_
    refine m_take (At.mk : At 2) ?_; refine m_take (At.mk : At 3) ?_; refine m_take (At.mk : At 4) ?_; refine m_take (At.mk : At 5) ?_
    refine TA.know (t := 78) (v := .int .i64 ((a - 1 : Nat) : Int)) (congrArg (Value.int .i64) (by rw [i64_in (by omega) (by omega)]; omega)) ?_
    refine m_take (At.mk : At 6) ?_; refine m_take (At.mk : At 7) ?_; refine m_take (At.mk : At 8) ?_; refine m_take (At.mk : At 9) ?_; refine m_take (At.mk : At 10) ?_; refine m_take (At.mk : At 11) ?_
    (apply TA.one 12; kernel_rfl; exact rfl)
    refine m_rrun ?_
    (apply TL.callV; exact rfl; exact callB_of (by kernel_rfl); exact rfl; exact fun _ h => h)
    exact less_t _ _ _
    rintro _ _ ⟨rfl, rfl⟩
    refine TL.back (by (focus ((repeat (first | assumption | exact Ent.refl _ | apply Ent.tail)); done))) ?_
    refine m_take (At.mk : At 13) ?_; refine m_take (At.mk : At 14) ?_
    refine TA.isT 87 rfl (not_t (decide_eq_false hnl)) ?_
    refine TA.done (by kernel_rfl) ?_
    clear hc1 hc2
    refine m_run ?_
    (apply TL.callV; exact rfl; exact callB_of (by kernel_rfl); exact rfl; exact fun _ h => h)
    exact partEq_t b c n a e x d3 Γ hsz3 hx1 hx2 (by omega) hn
    rintro _ _ ⟨rfl, rfl⟩
    obtain ⟨mid, d4, hx⟩ : ∃ mid d4, partitionEqual ltInt d3 a e x = (mid, d4) := ⟨_, _, rfl⟩
    rw [show (partitionEqual ltInt d3 a e x).1 = mid by rw [hx], show (partitionEqual ltInt d3 a e x).2 = d4 by rw [hx]]
    obtain ⟨g1, g2, g3, g4, g5⟩ := round_eq swo_ltInt (partitionEqual_holds ltInt) h0 hx1 hx2 (by omega) hB3 (decide_eq_false hnl) hx
    refine m_run ?_
    exact IH (m - 1) _ _ (by omega) ⟨mid, e, z, d4, wb, wp, by omega, by omega, g2, hee, g3.trans hsz3, g4, fun R r1 r2 => by
      obtain ⟨q1, q2⟩ := g5 R r1 r2
      exact hfin R (permIn_trans _ _ _ _ _ hP q1) q2, rfl, rfl, rfl, rfl, rfl, rfl, rfl⟩
  apply TK.cut (fun ρ' Γ' => lk ρ' 0 = .slice (some ⟨b, 0, none⟩) n c ∧ lk ρ' 1 = .int .i64 (a : Int) ∧ lk ρ' 2 = .int .i64 (e : Int) ∧ lk ρ' 8 = .bool wb ∧ lk ρ' 9 = .bool wp ∧ lk ρ' 10 = .int .i64 ((e - a : Nat) : Int) ∧ lk ρ' 3 = .int .i64 z ∧ lk ρ' 11 = .int .i64 (x : Int) ∧ lk ρ' 87 = .bool false ∧ Γ' = DD b c n d3 :: Γ)
  · intro k' hk'
    by_cases h0 : 0 < a
    · have hlt : d3[a - 1]! < d3[x]! := Decidable.byContradiction fun h => heq ⟨h0, h⟩
      have hc1 := cellD (b := b) (c := c) (Γ := Γ) hsz3 (show a - 1 < n by omega)
      have hc2 := cellD (b := b) (c := c) (Γ := Γ) hsz3 (show x < n by omega)
      refine TK.drawS mixed rfl ?_
      refine m_take (At.mk : At 0) ?_; refine m_take (At.mk : At 1) ?_
      refine TA.isT 74 rfl (decide_eq_true (by omega)) ?_
      refine m_take (At.mk : At 2) ?_; refine m_take (At.mk : At 3) ?_; refine m_take (At.mk : At 4) ?_; refine m_take (At.mk : At 5) ?_
      refine TA.know (t := 78) (v := .int .i64 ((a - 1 : Nat) : Int)) (congrArg (Value.int .i64) (by rw [i64_in (by omega) (by omega)]; omega)) ?_
      refine m_take (At.mk : At 6) ?_; refine m_take (At.mk : At 7) ?_; refine m_take (At.mk : At 8) ?_; refine m_take (At.mk : At 9) ?_; refine m_take (At.mk : At 10) ?_; refine m_take (At.mk : At 11) ?_
      (apply TA.one 12; kernel_rfl; exact rfl)
      refine m_rrun ?_
      (apply TL.callV; exact rfl; exact callB_of (by kernel_rfl); exact rfl; exact fun _ h => h)
      exact less_t _ _ _
      rintro _ _ ⟨rfl, rfl⟩
      refine TL.back (by (focus ((repeat (first | assumption | exact Ent.refl _ | apply Ent.tail)); done))) ?_
      refine m_take (At.mk : At 13) ?_; refine m_take (At.mk : At 14) ?_
      refine TA.isF 87 rfl (not_f (decide_eq_true hlt)) ?_
      refine TA.done (by kernel_rfl) ?_
      exact hk' _ _ ⟨rfl, rfl, rfl, rfl, rfl, rfl, rfl, rfl, rfl, rfl⟩
    · refine TK.drawS mixed rfl ?_
      refine m_take (At.mk : At 0) ?_; refine m_take (At.mk : At 1) ?_
      refine TA.isF 74 rfl (decide_eq_false (by omega)) ?_
      refine m_take (At.mk : At 2) ?_; refine m_take (At.mk : At 3) ?_; refine m_take (At.mk : At 4) ?_; refine m_take (At.mk : At 5) ?_; refine m_take (At.mk : At 6) ?_; refine m_take (At.mk : At 7) ?_; refine m_take (At.mk : At 8) ?_; refine m_take (At.mk : At 9) ?_; refine m_take (At.mk : At 10) ?_; refine m_take (At.mk : At 11) ?_; refine m_take (At.mk : At 12) ?_; refine m_take (At.mk : At 13) ?_; refine m_take (At.mk : At 14) ?_
      refine TA.done (by kernel_rfl) ?_
      exact hk' _ _ ⟨rfl, rfl, rfl, rfl, rfl, rfl, rfl, rfl, rfl, rfl⟩
  rintro ρ' _ ⟨e0_, e1, e2, e8, e9, e10, e3, e11, e87, rfl⟩
  refine TK.know9 e0_ e1 e2 e8 e9 e10 e3 e11 e87 ?_
  clear heq
  refine m_run ?_
  (apply TL.callV; exact rfl; exact callB_of (by kernel_rfl); exact rfl; exact fun _ h => h)
  exact part_t b c n a e x d3 Γ hsz3 hx1 hx2 (by omega) hn
  rintro _ _ ⟨rfl, rfl⟩
  obtain ⟨mid, ap, d4, hx⟩ : ∃ mid ap d4, Sort.partition ltInt d3 a e x = (mid, ap, d4) := ⟨_, _, _, rfl⟩
  rw [show (Sort.partition ltInt d3 a e x).1 = mid by rw [hx], show (Sort.partition ltInt d3 a e x).2.1 = ap by rw [hx], show (Sort.partition ltInt d3 a e x).2.2 = d4 by rw [hx]]
  obtain ⟨g1, g2, g3, gBl, gBr, gL, gR⟩ := round_part swo_ltInt (partition_holds ltInt) hx1 hx2 (by omega) hB3 hx
  have hsz4 : d4.size = n := g3.trans hsz3
  have hma : IntKind.i64.wrap ((mid : Int) - (a : Int)) = ((mid - a : Nat) : Int) := by rw [i64_in (by omega) (by omega)]; omega
  have hme : IntKind.i64.wrap ((e : Int) - (mid : Int)) = ((e - mid : Nat) : Int) := by rw [i64_in (by omega) (by omega)]; omega
  by_cases hlt : mid - a < e - mid
  · refine m_run ?_
    (apply TL.callV; exact rfl; exact callB_of (by kernel_rfl); exact rfl; exact fun _ h => h)
    exact IHN (mid - a) (by omega) a mid z d4 rfl hsz4 g1 (by omega) gBl
    rintro _ _ ⟨rfl, d5, p1, p2, rfl⟩
    obtain ⟨b5, f5⟩ := gL d5 p1 p2
    refine m_run ?_
    exact IH (m - 1) _ _ (by omega) ⟨mid + 1, e, z, d5, _, ap, by omega, by omega, by omega, hee, p1.1.trans hsz4, b5, fun R r1 r2 => by
      obtain ⟨q1, q2⟩ := f5 R r1 r2
      exact hfin R (permIn_trans _ _ _ _ _ hP q1) q2, rfl, congrArg (Value.int .i64) (i64_succ mid (by omega)), rfl, rfl, rfl, rfl, rfl⟩
  · refine m_run ?_
    refine TL.know (t := 129) (v := .int .i64 ((mid + 1 : Nat) : Int)) (congrArg (Value.int .i64) (i64_succ mid (by omega))) ?_
    (apply TL.callV; exact rfl; exact callB_of (by kernel_rfl); exact rfl; exact fun _ h => h)
    exact IHN (e - (mid + 1)) (by omega) (mid + 1) e z d4 rfl hsz4 (by omega) (by omega) gBr
    rintro _ _ ⟨rfl, d5, p1, p2, rfl⟩
    obtain ⟨b5, f5⟩ := gR d5 p1 p2
    refine m_run ?_
    exact IH (m - 1) _ _ (by omega) ⟨a, mid, z, d5, _, ap, by omega, by omega, g1, by omega, p1.1.trans hsz4, b5, fun R r1 r2 => by
      obtain ⟨q1, q2⟩ := f5 R r1 r2
      exact hfin R (permIn_trans _ _ _ _ _ hP q1) q2, rfl, rfl, rfl, rfl, rfl, rfl, rfl⟩

theorem perm_whole {d d' : Array Int} (h : PermIn 0 d.size d d') : d'.toList.Perm d.toList := by
  obtain ⟨h1, _, h3⟩ := h
  have e1 : d'.extract 0 d.size = d' := by rw [← h1]; simp
  have e2 : d.extract 0 d.size = d := by simp
  rw [e1, e2] at h3
  exact h3
theorem sorted_whole {d : Array Int} (h : SortedIn ltInt 0 d.size d) : d.toList.Pairwise (· ≤ ·) := by
  refine List.pairwise_iff_getElem.2 fun i j hi hj hij => ?_
  simp only [Array.length_toList] at hi hj
  have := h i j (Nat.zero_le _) hij hj
  unfold ltInt at this
  have h2 := of_decide_eq_false this
  rw [getElem!_pos d i hi, getElem!_pos d j hj] at h2
  simp only [Array.getElem_toList]
  omega
set_option maxRecDepth 100000 in
set_option maxHeartbeats 4000000 in
theorem ins0_t (A : Option Addr) (c : Nat) (Γ : List HP) : FnV Try.prog 85 [.slice A 0 c, .int .i64 0, .int .i64 0] Γ fun v Γ' => v = .tuple #[] ∧ Γ' = Γ := by
  refine Fn.enter Try.func85 rfl rfl rfl fun E => ?_
  refine m_run ?_
  refine TK.know (t := 6) (v := .int .i64 1) rfl ?_
  apply TK.iter (fun m ρ' Γ' => lk ρ' 2 = .int .i64 0 ∧ lk ρ' 6 = .int .i64 1 ∧ Γ' = Γ) 0
  · exact ⟨rfl, rfl, rfl⟩
  rintro m IH ρ' _ ⟨e2, e6, rfl⟩
  refine TK.know2 e2 e6 ?_
  refine m_run ?_
  exact TK.over0 rfl rfl ⟨_, rfl, rfl, rfl⟩
set_option maxRecDepth 100000 in
set_option maxHeartbeats 4000000 in
theorem pdq0_t (A : Option Addr) (c : Nat) (z : Int) (Γ : List HP) : FnV Try.prog 58 [.slice A 0 c, .int .i64 0, .int .i64 0, .int .i64 z] Γ fun v Γ' => v = .tuple #[] ∧ Γ' = Γ := by
  refine Fn.enter Try.func58 rfl rfl rfl fun E => ?_
  refine m_run ?_
  apply TK.iter (fun m ρ' Γ' => lk ρ' 0 = .slice A 0 c ∧ lk ρ' 1 = .int .i64 0 ∧ lk ρ' 2 = .int .i64 0 ∧ Γ' = Γ) 0
  · exact ⟨rfl, rfl, rfl, rfl⟩
  rintro m IH ρ' _ ⟨e0, e1, e2, rfl⟩
  refine TK.know3 e0 e1 e2 ?_
  have hw : IntKind.i64.wrap ((0 : Int) - 0) = 0 := rfl
  refine m_run ?_
  (apply TL.callV; exact rfl; exact callB_of (by kernel_rfl); exact rfl; exact fun _ h => h)
  exact ins0_t A c _
  rintro _ _ ⟨rfl, rfl⟩
  refine m_run ?_
  (apply TK.ret0; exact rfl; exact rfl)
  exact ⟨_, rfl, rfl, rfl⟩
set_option maxRecDepth 100000 in
set_option maxHeartbeats 4000000 in
theorem sort_t (A : Option Addr) (c : Nat) (D : List Int) (Γ : List HP) (hn : D.length ≤ 1000000000) :
    FnV Try.prog 41 [.slice A D.length c] (own 3 1 (.slice A D.length c) D.length (nums .i64 D) :: Γ)
      fun v Γ' => v = .tuple #[] ∧ ∃ D', D'.Perm D ∧ D'.Pairwise (· ≤ ·) ∧ Γ' = own 3 1 (.slice A D.length c) D.length (nums .i64 D') :: Γ := by
  refine Fn.enter Try.func41 rfl rfl rfl fun E => ?_
  refine m_run ?_
  refine TL.know (t := 8) (v := .int .u64 (D.length : Int)) (congrArg (Value.int .u64) (u64_in (by omega) (by omega))) ?_
  (apply TL.callV; exact rfl; exact callB_of (by kernel_rfl); exact rfl; exact fun _ h => h)
  exact len_t D.length hn _
  rintro _ _ ⟨L, _, _, rfl, rfl⟩
  refine m_run ?_
  by_cases h0 : D.length = 0
  · rw [h0]
    (apply TL.callV; exact rfl; exact callB_of (by kernel_rfl); exact rfl; exact fun _ h => h)
    exact pdq0_t A c _ _
    rintro _ _ ⟨rfl, rfl⟩
    refine m_run ?_
    refine TK.over0 rfl rfl ⟨_, rfl, rfl, D, List.Perm.refl _, ?_, rfl⟩
    rw [List.eq_nil_of_length_eq_zero h0]
    exact List.Pairwise.nil
  refine TL.mem fun m0 hm0 => ?_
  obtain ⟨b, rfl⟩ : ∃ b, A = some ⟨b, 0, none⟩ := by
    obtain ⟨m1, m2, _, _, h1, _⟩ := hm0
    obtain ⟨_, ⟨_, h, _⟩ | ⟨g, cap, cur, hv, _⟩⟩ := h1
    · omega
    · injection hv with hv _ _
      exact ⟨g, hv⟩
  clear hm0 m0
  (apply TL.callV (Δ := DD b c D.length D.toArray :: Γ); exact rfl; exact callB_of (by kernel_rfl); exact rfl; exact fun _ h => h)
  exact pdq_t b c D.length Γ hn D.length 0 D.length L D.toArray rfl rfl (Nat.zero_le _) (Nat.le_refl _) (.inl rfl)
  rintro _ _ ⟨rfl, d', h1, h2, rfl⟩
  refine m_run ?_
  refine TK.over0 rfl rfl ⟨_, rfl, rfl, d'.toList, perm_whole (d := D.toArray) h1, sorted_whole (by rw [show d'.size = D.length from h1.1]; exact h2), rfl⟩
end Go.Proofs.Ythbcfamfaicneaa.E.SI

/- Of, as the program tells it, walked. -/
namespace Go.Proofs.Ythbcfamfaicneaa.E
open Go Go.RowKit Go.Proofs
attribute [local irreducible] TK TL TQ TA TB Fn PV
namespace Rch
theorem flat_len {α β : Type} (f : α → List β) (k : Nat) : ∀ L : List α, (∀ x ∈ L, (f x).length ≤ k) → (L.flatMap f).length ≤ L.length * k
  | [], _ => by simp
  | x :: L, h => by
    rw [List.flatMap_cons, List.length_append, List.length_cons, Nat.add_mul]
    have h1 := h x (List.mem_cons_self ..)
    have h2 := flat_len f k L fun y hy => h y (List.mem_cons_of_mem _ hy)
    omega
end Rch
/-- Who is reached: told once, in order. -/
def OfSpec (l : List Cr) (who p : Nat) (args : Int) (O : List Nat) : Prop := O.Pairwise (· < ·) ∧ ∀ v, v ∈ O ↔ (predS p args true 0).2 = true ∧ ∃ s ∈ Rch.allC (linksOf l p args) (nxL l) (who, 3) 4, s.1.1 = v
def TOf (b : Nat) (L : List Wy) : HP := fun m => ∃ p : Option Addr × Nat, sep (own 31 1 (.slice p.1 (L.map Wy.pos).length p.2) (L.map Wy.pos).length (u32s (L.map Wy.pos))) (row b [.slice p.1 (L.map Wy.pos).length p.2] 32) m
end Go.Proofs.Ythbcfamfaicneaa.E

/- Chain and Cuts, as the program tells them, walked. -/
namespace Go.Proofs.Ythbcfamfaicneaa.E
open Go Go.RowKit Go.Proofs
attribute [local irreducible] TK TL TQ TA TB Fn PV
def fnd (L : List Wy) (x : Nat) : Option Wy := L.find? fun s => decide (s.pos = x)
def wayV : Option Wy → Value
  | none => .slice none 0 0
  | some s => .slice s.A s.w.length s.c
def TCh (bx bi bw x : Nat) (L : List Wy) : HP := sep (row bx [.int .u32 (x : Int)] 31) (sep (row bi [.bool (fnd L x).isSome] 4) (row bw [wayV (fnd L x)] 54))
/-- The least chain, without a link. -/
def chainS (l : List Cr) (who p : Nat) (args : Int) (x : Nat) (skip : Int) : Option (List Nat) := if (predS p args true 0).2 then ((Rch.allC (unskip (linksOf l p args) skip) (nxL l) (who, 3) 4).find? fun s => decide (s.1.1 = x)).map (·.2) else none
theorem sub_perm {α : Type} {l m : List α} (h : l.Sublist m) : ∃ r, m.Perm (l ++ r) := by
  induction h with
  | slnil => exact ⟨[], .refl _⟩
  | cons a _ ih =>
    obtain ⟨r, hr⟩ := ih
    exact ⟨a :: r, (hr.cons a).trans List.perm_middle.symm⟩
  | cons_cons a _ ih =>
    obtain ⟨r, hr⟩ := ih
    exact ⟨r, hr.cons a⟩
theorem Atm.ok_sub {a : Atm} {Γ Δ : List HP} (hs : Γ.Sublist Δ) (h : a.ok Γ) : a.ok Δ := ⟨has_sublist (up_src _ _ _ _) hs h.1, h.2⟩
theorem Cr.ok_sub {c : Cr} {Γ Δ : List HP} (hs : Γ.Sublist Δ) (h : c.ok Γ) : c.ok Δ := ⟨Atm.ok_sub hs h.1, has_sublist (up_src _ _ _ _) hs h.2.1, h.2.2.1, fun x hx => Atm.ok_sub hs (h.2.2.2 x hx)⟩
/-- The links without which one is not reached, as they lie on the way. -/
def cutsL (l : List Cr) (who p : Nat) (args : Int) (x : Nat) : List Nat := ((chainS l who p args x (-1)).getD []).filter fun i : Nat => (chainS l who p args x i).isNone
end Go.Proofs.Ythbcfamfaicneaa.E

/- The document on who is reached: link, reached, from, walked. Printed by gen_yp.py. -/
namespace Go.Proofs.Ythbcfamfaicneaa.E
open Go Go.RowKit Go.Proofs
attribute [local irreducible] TK TL TQ TA TB Fn PV
abbrev wkRow (bw : Nat) (A : Option Addr) (n c p : Nat) (args : Int) (O : Option Addr) (m ko x : Nat) (f : Option Wy) : HP := row bw [.slice A n c, .int .u32 (p : Int), .int .i64 args, .slice O m ko, .int .u32 (x : Int), wayV f, .bool f.isSome] 88
/-- One chain, told. -/
def rchP (x : Nat) (st : List Nat × Option (List Nat)) (s : Rch.Stp) : List Nat × Option (List Nat) := (if s.1.1 ∈ st.1 then st.1 else st.1 ++ [s.1.1], if st.2.isSome then st.2 else if s.1.1 = x then some s.2 else none)
end Go.Proofs.Ythbcfamfaicneaa.E







/- The document on who is reached: Cuts; what may be gone through; numbers compared; walked. -/
namespace Go.Proofs.Ythbcfamfaicneaa.E
open Go Go.RowKit Go.Proofs
attribute [local irreducible] TK TL TQ TA TB Fn PV
theorem crs_one (l : List Cr) : ∀ u ∈ crsC l, u.oneCell' = true := by
  intro u hu
  obtain ⟨c, _, hc⟩ := List.mem_flatMap.1 hu
  simp only [Cr.cells, Rl.cells, Sy.cells, List.mem_append, List.mem_cons, List.not_mem_nil, or_false] at hc
  rcases hc with ((rfl | rfl | rfl | rfl | rfl) | ((rfl | rfl | rfl | rfl | rfl) | rfl)) | (rfl | rfl | rfl | rfl) <;> rfl
def lessB (l : List Cr) (who p : Nat) (args : Int) (x i : Nat) : Bool := (chainS (l.eraseIdx i) who p args x (-1)).isNone
end Go.Proofs.Ythbcfamfaicneaa.E

/- Cuts, plainly; how credentials are read; the example; ReachPlays walked -/
namespace Go.Proofs.Ythbcfamfaicneaa.E
open Go Go.RowKit Go.Proofs
section
/- Cuts, plainly: those of the way that cannot be left out are all that cannot. -/
def rnm (v i : Nat) : Nat := if i < v then i else i + 1
end
section
/- How credentials are read. -/
attribute [local irreducible] TK TL TQ TA Fn PV
/-! ### how they are read -/
def rU32 : Rd Nat := rNat .u32 4294967295
def rTm : Rd Tm := ⟨2, tmC, fun t _ => t.n ≤ 4294967295⟩
def atmAt (a : Atm) (m : Mem) : Prop := a.p ≤ 4294967295 ∧ a.l.length ≤ a.c ∧ srcAt 2 a.A a.l.length (tmsC a.l) m ∧ ∀ t ∈ a.l, t.n ≤ 4294967295
def rAtm : Rd Atm := ⟨2, Atm.cells, atmAt⟩
def syAt (y : Sy) (m : Mem) : Prop := y.w.n ≤ 4294967295 ∧ atmAt y.a m
def rSy : Rd Sy := ⟨5, Sy.cells, syAt⟩
def rCd : Rd Cd := ⟨6, Cd.cells, fun x m => syAt x.y m⟩
def rlAt (c : Rl) (m : Mem) : Prop := syAt c.h m ∧ c.l.length ≤ c.c ∧ srcAt 6 c.A c.l.length (cdsC c.l) m ∧ ∀ x ∈ c.l, syAt x.y m
def rRl : Rd Rl := ⟨6, Rl.cells, rlAt⟩
def crAt (c : Cr) (m : Mem) : Prop := rlAt c.r m
def rCr : Rd Cr := ⟨15, Cr.cells, crAt⟩
end
section
/- The chapter's example of who is reached: walked. -/
attribute [local irreducible] TK TL TQ TA TB Fn PV
/-- A link. -/
def giveC (a b p : Nat) (d : Int) : Cr := ⟨a, 0, 0, 9, 2, ⟨⟨false, ⟨false, 0⟩, ⟨0, none, 0, []⟩⟩, none, 0, []⟩, p, 1, b, d⟩
def exL : List Cr := [giveC 5 6 7 0, giveC 6 8 7 3]
attribute [local irreducible] exL chainS cutsL OfSpec
end
section
/- Whom anybody reaches, as the document tells it: walked. -/
attribute [local irreducible] TK TL TQ TA TB Fn PV
end
end Go.Proofs.Ythbcfamfaicneaa.E

/- Credentials as clauses, as the program tells them: walked. -/
namespace Go.Proofs.Ythbcfamfaicneaa.E
open Go Go.RowKit Go.Proofs
attribute [local irreducible] TK TL TQ TA TB Fn PV
def outA (b2 : Nat) (pre : List Cl) : HP := fun m => ∃ p : Option Addr × Nat, sep (row b2 [.slice p.1 pre.length p.2] 29) (own 68 3 (.slice p.1 pre.length p.2) pre.length (clsC pre)) m
theorem clsC1_one (l : List Cl) : ∀ u ∈ clsC l, u.oneCell' = true := by
  intro u hu
  obtain ⟨c, _, hc⟩ := List.mem_flatMap.1 hu
  simp only [Cl.cells, List.mem_cons, List.not_mem_nil, or_false] at hc
  rcases hc with rfl | rfl | rfl <;> rfl
theorem onesC_len (c : Cr) : (onesC c).length ≤ 4 := by
  unfold onesC
  split
  · rw [List.length_map]; exact Nat.le_trans (List.length_filter_le _ _) (by simp)
  · exact Nat.zero_le _
theorem credsC_snoc {l : List Cr} {i : Nat} {x : Cr} (h : l[i]? = some x) : credsC (l.take (i + 1)) = credsC (l.take i) ++ onesC x := by
  unfold credsC
  rw [List.take_add_one, h]
  simp
theorem credsC_len : ∀ l : List Cr, (credsC l).length ≤ l.length * 4
  | [] => Nat.le_refl _
  | c :: l => by
    have h1 := credsC_len l
    have h2 := onesC_len c
    unfold credsC at h1 ⊢
    rw [List.flatMap_cons, List.length_append, List.length_cons, Nat.succ_mul]; omega
theorem Cl.ok_subs {c : Cl} {Γ Δ : List HP} (hs : Γ.Sublist Δ) (h : c.ok Γ) : c.ok Δ := ⟨Atm.ok_subs hs h.1, has_sublist (up_src _ _ _ _) hs h.2.1, h.2.2.1, fun x hx => Atm.ok_subs hs (h.2.2.2 x hx)⟩
set_option maxRecDepth 100000 in
set_option maxHeartbeats 8000000 in
theorem creds_t (A : Option Addr) (cc : Nat) (l : List Cr) (Γ : List HP) (h : Crs A l Γ) (hn : l.length ≤ 1000) :
    FnV Try.prog 11 [.slice A l.length cc] Γ fun v Γ' => ∃ (L : List Cl) (B : Option Addr) (k : Nat), v = .slice B L.length k ∧ L.length ≤ k ∧ L.map pureC = credsC l ∧ clsOk B L Γ' ∧ (∀ C ∈ L, C.l.length ≤ 30) ∧ Γ.Sublist Γ' := by
  refine Fn.enter Try.func11 rfl rfl rfl fun E => ?_
  refine m_run ?_
  (apply TL.alloc; exact rfl; exact tb rfl; (exact m_lst))
  intro b2
  refine m_run ?_
  refine TK.free (H := own 68 3 (.slice none 0 0) 0 []) (fun m hm => own_nil _ _ hm) ?_
  refine TK.imp (Δ := outA b2 [] :: ([].map dfA ++ Γ)) (fun m hm => sep_mono (sep_assoc' (all_perm (.swap _ _ _) hm)) (fun _ h => ⟨(none, 0), h⟩) (fun _ => id)) ?_
  apply TK.iterD (fun j ρ' ds' Γ' => ∃ (i : Nat) (L : List Cl) (rs : List Nat) (Γ3 : List HP), i + j = l.length ∧ Γ.Sublist Γ3 ∧ L.map pureC = credsC (l.take i) ∧ (∀ C ∈ L, C.ok Γ3 ∧ C.small ∧ C.l.length ≤ 30) ∧ lk ρ' 2 = .pointer (some ⟨b2, 0, none⟩) ∧ lk ρ' 6 = .slice A l.length cc ∧ lk ρ' 7 = .int .i64 (l.length : Int) ∧ lk ρ' 8 = .int .i64 (i : Int) ∧ ds' = rs.map mark ∧ Γ' = outA b2 L :: (rs.map dfA ++ Γ3)) l.length
  · exact ⟨0, [], [], Γ, Nat.zero_add _, .refl _, rfl, fun C hC => (List.not_mem_nil hC).elim, rfl, rfl, rfl, rfl, rfl, rfl⟩
  rintro j IH ρ' _ _ ⟨i, L, rs, Γ3, hij, hs3, hL, hLo, e2, e6, e7, e8, rfl, rfl⟩
  refine TK.know4 e2 e6 e7 e8 ?_
  have hLl : L.length ≤ 4000 := by
    have h1 := congrArg List.length hL
    have h2 := credsC_len (l.take i)
    rw [List.length_map] at h1
    rw [List.length_take] at h2
    omega
  by_cases hi : i < l.length
  · obtain ⟨c, hc⟩ : ∃ c, l[i]? = some c := ⟨l[i], List.getElem?_eq_getElem hi⟩
    have hcm := List.mem_of_getElem? hc
    have hco := h.ok c hcm
    have hcf := h.few c hcm
    have hsn := credsC_snoc hc
    have hs := has_sublist (up_src _ _ _ _) hs3 h.src
    have hsY : Γ3.Sublist (outA b2 L :: (rs.map dfA ++ Γ3)) := .cons _ (List.sublist_append_right _ _)
    refine TK.mem fun m0 hm0 => ?_
    obtain ⟨g, u, hgA⟩ := src_some (has_sublist (up_src _ _ _ _) hsY hs m0 hm0) (by rw [crsC_len]; omega)
    clear hm0 m0
    subst hgA
    have hel : has (outA b2 L :: (rs.map dfA ++ Γ3)) (fun m => cellsAt m g (u + i * 15) [.int .u32 (c.iss : Int), .int .u64 (c.ser : Int), .int .u64 (c.frm : Int), .int .u64 (c.til : Int), .int .u8 (c.kind : Int), .bool c.r.h.s, .bool c.r.h.w.v, .int .u32 (c.r.h.w.n : Int), .int .u32 (c.r.h.a.p : Int), .slice c.r.h.a.A c.r.h.a.l.length c.r.h.a.c, .slice c.r.A c.r.l.length c.r.c, .int .u32 (c.p : Int), .int .i64 c.args, .int .u32 (c.to : Int), .int .i64 c.dep]) := has_sublist (up_cells _ _ _) hsY (has_el (sz := 15) (f := Cr.cells) (fun _ => rfl) (by decide) hs hc)
    refine m_run ?_
    (apply TL.alloc; exact rfl; exact tb rfl; exact (rfl : _ = [_, _, _, _, _, _, _, _, _, _, _, _, _, _, _]))
    intro b4
    refine m_rrun ?_
    refine TL.nil ?_
    refine TK.imp (Δ := crRow b4 c :: outA b2 L :: (rs.map dfA ++ Γ3)) (fun _ h => h) ?_
    have hb4 : has (crRow b4 c :: outA b2 L :: (rs.map dfA ++ Γ3)) (fun m => cellsAt m b4 0 c.cells) := has_rows 0 rfl rfl
    refine m_run ?_
    (apply TL.callV; exact rfl; exact callB_of (by kernel_rfl); exact rfl; exact fun _ h => h)
    exact credMay_t c _ (Cr.ok_tl (Cr.ok_sub (hs3.trans hsY) hco)) hcf
    rintro _ _ ⟨rfl, rfl⟩
    cases hmay : mayCr c with
    | false =>
      have h0 : onesC c = [] := by unfold onesC; rw [if_neg (by rw [hmay]; decide)]
      refine m_run ?_
      refine TK.drop ?_
      exact IH (j - 1) _ _ _ (by omega) ⟨i + 1, L, rs, Γ3, by omega, hs3, by rw [hsn, h0, List.append_nil]; exact hL, hLo, rfl, rfl, rfl, congrArg (Value.int .i64) (i64_succ i (by omega)), rfl, rfl⟩
    | true =>
      refine m_run ?_
      (apply TL.callV; exact rfl; exact callB_of (by kernel_rfl); exact rfl; exact fun _ h => h)
      exact depths_t c _
      rintro _ _ ⟨b5, rfl, rfl⟩
      refine m_run ?_
      apply TK.rangeF (first := []) (cap := [.pointer (some ⟨b5, 0, none⟩)]) (RI := fun lp r D _ Γ' => ∃ (L2 : List Cl) (Γ4 : List HP), Γ3.Sublist Γ4 ∧ L2.map pureC = onesC c ∧ (∀ C ∈ L2, C.ok Γ4 ∧ C.small ∧ C.l.length ≤ 30) ∧ Γ' = loopA lp D .ready none :: crRow b5 c :: outA b2 (L ++ L2) :: ((dfA r :: crRow b4 c :: rs.map dfA) ++ Γ4))
      · exact rfl
      · exact rfl
      · exact callB_of (by kernel_rfl)
      · intro lp r D hD
        refine Fn.mono (Fn.imp (depths1_t lp D (by rw [hD]; rfl) b5 c (outA b2) (dfA r :: crRow b4 c :: rs.map dfA) hmay hcf L Γ3 (Cr.ok_sub hs3 hco) (fun C pre Γ4 hCo hCs hpl => ?_)) (fun m hm => all_perm (.cons _ ?_) hm)) ?_
        · refine Rnd.imp (Δ := outA b2 pre :: loopA lp D .ready none :: crRow b5 c :: ((dfA r :: crRow b4 c :: rs.map dfA) ++ Γ4)) ?_ (fun m hm => all_perm (List.perm_middle (l₁ := [_, _])) hm)
          refine Rnd.enterD hD Try.func11 rfl fun E2 => ?_
          refine TK.ex fun p => ?_
          obtain ⟨OB, Ok⟩ := p
          refine TK.imp (Δ := row b2 [.slice OB pre.length Ok] 29 :: own 68 3 (.slice OB pre.length Ok) pre.length (clsC pre) :: loopA lp D .ready none :: crRow b5 c :: ((dfA r :: crRow b4 c :: rs.map dfA) ++ Γ4)) (fun m hm => sep_assoc hm) ?_
          refine m_run ?_
          (apply TL.alloc; exact rfl; exact tb rfl; (exact m_lst))
          intro b6
          refine m_run ?_
          (apply TK.begin 3; exact rfl; exact rfl; exact (rfl : _ = _ :: _ :: _ :: _ :: _))
          refine m_run ?_
          (apply TL.buildSlice (l := clsC [C]); exact rfl; exact tb rfl; exact rfl; exact tb rfl; exact rfl; exact rfl; exact rfl; exact rfl; exact rfl)
          intro b20
          refine m_run ?_
          (apply TL.append 3 (n := pre.length) (m := 1) (cs := clsC pre) (news := clsC [C]); exact rfl; exact rfl; exact tb rfl; exact rfl; exact tb rfl; exact rfl; exact rfl; exact rfl)
          · exact fun _ h => h
          · exact rfl
          · exact has_src_row 0 rfl rfl
          · exact clsC1_one _
          · show (pre.length + 1) * 56 ≤ _; omega
          · show pre.length + 1 ≤ maxLen; unfold maxLen; omega
          · exact fun _ => (rfl : _ = _ :: _ :: _ :: _ :: _)
          intro OB2 Ok2 hOk2
          rw [show clsC pre ++ clsC [C] = clsC (pre ++ [C]) by simp, show pre.length + 1 = (pre ++ [C]).length by simp]
          refine m_run ?_
          refine TK.imp (Δ := loopA lp D .busy none :: crRow b5 c :: outA b2 (pre ++ [C]) :: ((dfA r :: crRow b4 c :: rs.map dfA) ++ (row b20 (clsC [C]) 68 :: row b6 [.int .u32 (C.h.p : Int), .slice C.h.A C.h.l.length C.h.c, .slice C.A C.l.length C.c] 68 :: Γ4))) (fun m hm => ?_) ?_
          · have hm1 := all_perm (List.perm_append_comm_assoc [_, _] [_, _] _) hm
            have hm2 : all (outA b2 (pre ++ [C]) :: row b20 (clsC [C]) 68 :: row b6 [.int .u32 (C.h.p : Int), .slice C.h.A C.h.l.length C.h.c, .slice C.A C.l.length C.c] 68 :: loopA lp D .busy none :: crRow b5 c :: ((dfA r :: crRow b4 c :: rs.map dfA) ++ Γ4)) m := sep_mono (sep_assoc' hm1) (fun _ h => ⟨(OB2, Ok2), h⟩) (fun _ => id)
            refine all_perm ?_ hm2
            refine (List.perm_append_comm_assoc [_, _, _] [_, _] _).trans (.cons _ (.cons _ (.cons _ ?_)))
            exact List.perm_append_comm_assoc [_, _] (dfA r :: crRow b4 c :: rs.map dfA) Γ4
          (apply TK.roundEnd 0; exact rfl; exact rfl)
          exact ⟨true, rfl, rfl, _, .cons _ (.cons _ (.refl _)), rfl⟩
        · exact (List.Perm.swap _ _ _).trans (.cons _ (List.perm_middle (l₁ := [_, _])))
        · rintro e Γ' ⟨v, rfl, L2, Γ4, h1, h2, h3, rfl⟩
          exact ⟨v, rfl, L2, Γ4, h1, h2, h3, rfl⟩
      rintro lp r D v _ hD ⟨L2, Γ4, hs4, hL2, hLo2, rfl⟩
      refine ⟨0, _, _, rfl, by simp, ?_⟩
      refine TK.imp (Δ := outA b2 (L ++ L2) :: ((r :: rs).map dfA ++ (crRow b4 c :: crRow b5 c :: Γ4))) (fun m hm => ?_) ?_
      · refine all_perm ?_ hm
        refine (List.Perm.swap _ _ _).trans (.cons _ ?_)
        refine (List.perm_append_comm_assoc [_] [_] _).trans (.cons _ ?_)
        refine (List.perm_append_comm_assoc [crRow b5 c, crRow b4 c] (rs.map dfA) Γ4).trans ?_
        exact List.Perm.append_left _ (.swap _ _ _)
      refine m_run ?_
      have hup : ∀ C : Cl, C.ok Γ3 → C.ok (crRow b4 c :: crRow b5 c :: Γ4) := fun C h => Cl.ok_subs (.cons _ (.cons _ hs4)) h
      refine IH (j - 1) _ _ _ (by omega) ⟨i + 1, L ++ L2, r :: rs, _, by omega, .cons _ (.cons _ (hs3.trans hs4)), by rw [hsn, List.map_append, hL, hL2], fun C hC => ?_, rfl, rfl, rfl, congrArg (Value.int .i64) (i64_succ i (by omega)), rfl, rfl⟩
      rcases List.mem_append.1 hC with h1 | h1
      · exact ⟨hup C (hLo C h1).1, (hLo C h1).2⟩
      · exact ⟨Cl.ok_subs (.cons _ (.cons _ (.refl _))) (hLo2 C h1).1, (hLo2 C h1).2⟩
  obtain rfl : i = l.length := by omega
  rw [List.take_length] at hL
  refine TK.ex fun p => ?_
  obtain ⟨OB, Ok⟩ := p
  refine TK.imp (Δ := row b2 [.slice OB L.length Ok] 29 :: own 68 3 (.slice OB L.length Ok) L.length (clsC L) :: (rs.map dfA ++ Γ3)) (fun m hm => sep_assoc hm) ?_
  refine TK.mem fun m0 hm0 => ?_
  have hLk : L.length ≤ Ok := own_cap (all_perm (.swap _ _ _) hm0)
  clear hm0 m0
  refine m_run ?_
  refine TK.perm (Δ := rs.map dfA ++ (row b2 [.slice OB L.length Ok] 29 :: own 68 3 (.slice OB L.length Ok) L.length (clsC L) :: Γ3)) (List.perm_append_comm_assoc [_, _] _ _) ?_
  rw [← List.append_nil (rs.map mark)]
  refine TK.unmarks rfl (by rintro _ ⟨_, h, _⟩; cases h) rs ?_
  refine TK.retSub (Δ := own 68 3 (.slice OB L.length Ok) L.length (clsC L) :: Γ3) (fun R' hR' => TK.rets rfl rfl (.cons (.cell rfl (tb rfl) rfl (has_row 0 rfl rfl)) .nil) (hR' _ (by (repeat (first | exact List.Sublist.refl _ | apply List.Sublist.cons_cons | apply List.Sublist.cons))))) ⟨_, rfl, L, OB, Ok, rfl, hLk, hL, ⟨has_at (up_src _ _ _ _) 0 rfl fun _ h => own_src h, fun C hC => ⟨Cl.ok_tl (hLo C hC).1, (hLo C hC).2.1⟩⟩, fun C hC => (hLo C hC).2.2, .cons _ hs3⟩
end Go.Proofs.Ythbcfamfaicneaa.E

/- Facts compared, as the document does it. -/
namespace Go.Proofs.Ythbcfamfaicneaa.E
open Go Go.RowKit Go.Proofs
attribute [local irreducible] TK TL TQ TA Fn PV
def cmpI (a b : Int) : Int := if a < b then -1 else if b < a then 1 else 0
def Fct.ok (f : Fct) (Γ : List HP) : Prop := has Γ (srcAt 1 f.A f.l.length (u32s f.l)) ∧ f.l.length ≤ f.c
theorem Fct.ok_tl {f : Fct} {Γ : List HP} {H : HP} (h : f.ok Γ) : f.ok (H :: Γ) := ⟨has_tls h.1, h.2⟩
def cmpLs : List Nat → List Nat → Int
  | [], [] => 0
  | [], _ :: _ => -1
  | _ :: _, [] => 1
  | x :: l, y :: m => if cmpI x y ≠ 0 then cmpI x y else cmpLs l m
def orI (a b c : Int) : Int := if a ≠ 0 then a else if b ≠ 0 then b else c
def cmpF (f g : Fct) : Int := orI (cmpI f.p g.p) (cmpI f.l.length g.l.length) (cmpLs f.l g.l)
theorem cmpI_zero {x y : Int} : cmpI x y = 0 ↔ x = y := by unfold cmpI; split <;> (try split) <;> omega
theorem cmpLs_zero : ∀ {l m : List Nat}, cmpLs l m = 0 ↔ l = m
  | [], [] => by simp [cmpLs]
  | [], _ :: _ => by simp [cmpLs]
  | _ :: _, [] => by simp [cmpLs]
  | x :: l, y :: m => by
    simp only [cmpLs]
    by_cases h0 : cmpI (x : Int) (y : Int) = 0
    · rw [if_neg (by simpa using h0), cmpLs_zero]
      have := cmpI_zero.1 h0
      constructor
      · rintro rfl; rw [show x = y by omega]
      · intro e; injection e
    · rw [if_pos h0]
      have : x ≠ y := fun e => h0 (cmpI_zero.2 (by rw [e]))
      simp [h0, this]
theorem cmpF_zero {f g : Fct} : cmpF f g = 0 ↔ f.p = g.p ∧ f.l = g.l := by
  unfold cmpF orI
  constructor
  · intro h
    split at h
    · rename_i h1; exact absurd h h1
    · rename_i h1
      split at h
      · rename_i h2; exact absurd h h2
      · have := cmpI_zero.1 (by simpa using h1 : cmpI (f.p : Int) (g.p : Int) = 0)
        exact ⟨by omega, cmpLs_zero.1 h⟩
  · rintro ⟨h1, h2⟩
    rw [h1, h2, if_neg (by rw [cmpI_zero.2 rfl]; simp), if_neg (by rw [cmpI_zero.2 rfl]; simp)]
    exact cmpLs_zero.2 rfl
set_option maxRecDepth 100000 in
set_option maxHeartbeats 2000000 in
theorem rcompare_t (f g : Fct) (Γ : List HP) (hf : f.ok Γ) (hg : g.ok Γ) (hn : f.l.length ≤ 1000000) :
    FnV Try.prog 33 [.agg f.cells.toArray, .agg g.cells.toArray] Γ fun v Γ' => v = .int .i64 (cmpF f g) ∧ Γ' = Γ := by
  refine Fn.enter Try.func33 rfl rfl rfl fun E => ?_
  obtain ⟨p, A, c, l⟩ := f
  obtain ⟨q, B, d, m⟩ := g
  have hs : has Γ (srcAt 1 A l.length (u32s l)) := hf.1
  have ht : has Γ (srcAt 1 B m.length (u32s m)) := hg.1
  replace hn : l.length ≤ 1000000 := hn
  refine m_run ?_
  (apply TL.box; exact rfl; exact rfl; (exact m_lst))
  intro b2
  refine m_run ?_
  (apply TL.box; exact rfl; exact rfl; (exact m_lst))
  intro b3
  refine TL.imp (Δ := row b3 [.int .u32 (q : Int), .slice B m.length d] 34 :: row b2 [.int .u32 (p : Int), .slice A l.length c] 34 :: Γ) (fun _ h => h) ?_
  by_cases h1 : p < q
  · have hr : cmpF ⟨p, A, c, l⟩ ⟨q, B, d, m⟩ = -1 := by
      unfold cmpF cmpI
      rw [if_pos (by show (p : Int) < (q : Int); omega)]; rfl
    refine m_run ?_
    (apply TK.retS1; exact rfl; exact rfl; (exact m_val))
    · exact ⟨_, rfl, congrArg (Value.int .i64) hr.symm, rfl⟩
    · (repeat (first | exact List.Sublist.refl _ | apply List.Sublist.cons_cons | apply List.Sublist.cons))
  by_cases h2 : q < p
  · have hr : cmpF ⟨p, A, c, l⟩ ⟨q, B, d, m⟩ = 1 := by
      unfold cmpF cmpI
      rw [if_neg (by show ¬ (p : Int) < (q : Int); omega), if_pos (by show (q : Int) < (p : Int); omega)]; rfl
    refine m_run ?_
    (apply TK.retS1; exact rfl; exact rfl; (exact m_val))
    · exact ⟨_, rfl, congrArg (Value.int .i64) hr.symm, rfl⟩
    · (repeat (first | exact List.Sublist.refl _ | apply List.Sublist.cons_cons | apply List.Sublist.cons))
  obtain rfl : p = q := by omega
  have hp0 : cmpI (p : Int) (p : Int) = 0 := cmpI_zero.2 rfl
  by_cases h3 : l.length < m.length
  · have hr : cmpF ⟨p, A, c, l⟩ ⟨p, B, d, m⟩ = -1 := by
      unfold cmpF
      simp only [hp0]
      unfold cmpI
      rw [if_pos (show (l.length : Int) < (m.length : Int) by omega)]; rfl
    refine m_run ?_
    (apply TK.retS1; exact rfl; exact rfl; (exact m_val))
    · exact ⟨_, rfl, congrArg (Value.int .i64) hr.symm, rfl⟩
    · (repeat (first | exact List.Sublist.refl _ | apply List.Sublist.cons_cons | apply List.Sublist.cons))
  by_cases h4 : m.length < l.length
  · have hr : cmpF ⟨p, A, c, l⟩ ⟨p, B, d, m⟩ = 1 := by
      unfold cmpF
      simp only [hp0]
      unfold cmpI
      rw [if_neg (show ¬ (l.length : Int) < (m.length : Int) by omega), if_pos (show (m.length : Int) < (l.length : Int) by omega)]; rfl
    refine m_run ?_
    (apply TK.retS1; exact rfl; exact rfl; (exact m_val))
    · exact ⟨_, rfl, congrArg (Value.int .i64) hr.symm, rfl⟩
    · (repeat (first | exact List.Sublist.refl _ | apply List.Sublist.cons_cons | apply List.Sublist.cons))
  have hlm : l.length = m.length := by omega
  have hr : cmpF ⟨p, A, c, l⟩ ⟨p, B, d, m⟩ = cmpLs l m := by
    unfold cmpF
    simp only [hp0, hlm, cmpI_zero.2 (rfl : (m.length : Int) = m.length)]
    rfl
  rw [hr]
  clear hr
  refine m_run ?_
  apply TK.iter (fun j ρ' Γ' => ∃ (i : Nat), i + j = l.length ∧ cmpLs l m = cmpLs (l.drop i) (m.drop i) ∧ lk ρ' 2 = .pointer (some ⟨b2, 0, none⟩) ∧ lk ρ' 3 = .pointer (some ⟨b3, 0, none⟩) ∧ lk ρ' 5 = .int .i64 (i : Int) ∧ Γ' = row b3 [.int .u32 (p : Int), .slice B m.length d] 34 :: row b2 [.int .u32 (p : Int), .slice A l.length c] 34 :: Γ) l.length
  · exact ⟨0, Nat.zero_add _, rfl, rfl, rfl, rfl, rfl⟩
  rintro j IH ρ' _ ⟨i, hij, hc, e2, e3, e5, rfl⟩
  refine TK.know3 e2 e3 e5 ?_
  by_cases hi : i < l.length
  · obtain ⟨x, hx⟩ : ∃ x, l[i]? = some x := ⟨l[i], List.getElem?_eq_getElem hi⟩
    obtain ⟨y, hy⟩ : ∃ y, m[i]? = some y := ⟨m[i], List.getElem?_eq_getElem (by omega)⟩
    have hdl : l.drop i = x :: l.drop (i + 1) := by rw [List.drop_eq_getElem_cons hi, (List.getElem?_eq_some_iff.1 hx).2]
    have hdm : m.drop i = y :: m.drop (i + 1) := by rw [List.drop_eq_getElem_cons (show i < m.length by omega), (List.getElem?_eq_some_iff.1 hy).2]
    rw [hdl, hdm] at hc
    refine TK.mem fun m0 hm0 => ?_
    obtain ⟨b, o, rfl⟩ := src_some (has_tls (has_tls hs) m0 hm0) (by rw [u32s_len]; omega)
    obtain ⟨b', o', rfl⟩ := src_some (has_tls (has_tls ht) m0 hm0) (by rw [u32s_len]; omega)
    clear hm0 m0
    have hx1 := has_u32 hs hx
    have hy1 := has_u32 ht hy
    refine m_run ?_
    refine TK.drawS mixed rfl ?_
    refine m_take (At.mk : At 0) ?_; refine m_take (At.mk : At 1) ?_; refine m_take (At.mk : At 2) ?_; refine m_take (At.mk : At 3) ?_; refine m_take (At.mk : At 4) ?_; refine m_take (At.mk : At 5) ?_; refine m_take (At.mk : At 6) ?_; refine m_take (At.mk : At 7) ?_; refine m_take (At.mk : At 8) ?_; refine m_take (At.mk : At 9) ?_; refine m_take (At.mk : At 10) ?_
    by_cases hlt : x < y
    · have hv : cmpLs l m = -1 := by
        rw [hc]
        have : cmpI (x : Int) (y : Int) = -1 := by unfold cmpI; rw [if_pos (by omega)]
        simp [cmpLs, this]
      refine TA.isT 58 rfl (decide_eq_true (by omega)) ?_
      refine TA.done (by kernel_rfl) ?_
      rw [hv]
      refine m_run ?_
      (apply TK.retS1; exact rfl; exact rfl; (exact m_val))
      · exact ⟨_, rfl, rfl, rfl⟩
      · (repeat (first | exact List.Sublist.refl _ | apply List.Sublist.cons_cons | apply List.Sublist.cons))
    refine TA.isF 58 rfl (decide_eq_false (by omega)) ?_
    refine TA.done (by kernel_rfl) ?_
    refine m_run ?_
    refine TK.drawS mixed rfl ?_
    refine m_take (At.mk : At 0) ?_; refine m_take (At.mk : At 1) ?_; refine m_take (At.mk : At 2) ?_; refine m_take (At.mk : At 3) ?_; refine m_take (At.mk : At 4) ?_; refine m_take (At.mk : At 5) ?_; refine m_take (At.mk : At 6) ?_; refine m_take (At.mk : At 7) ?_; refine m_take (At.mk : At 8) ?_; refine m_take (At.mk : At 9) ?_; refine m_take (At.mk : At 10) ?_
    by_cases hgt : y < x
    · have hv : cmpLs l m = 1 := by
        rw [hc]
        have : cmpI (x : Int) (y : Int) = 1 := by unfold cmpI; rw [if_neg (by omega), if_pos (by omega)]
        simp [cmpLs, this]
      refine TA.isT 69 rfl (decide_eq_true (by omega)) ?_
      refine TA.done (by kernel_rfl) ?_
      rw [hv]
      refine m_run ?_
      (apply TK.retS1; exact rfl; exact rfl; (exact m_val))
      · exact ⟨_, rfl, rfl, rfl⟩
      · (repeat (first | exact List.Sublist.refl _ | apply List.Sublist.cons_cons | apply List.Sublist.cons))
    refine TA.isF 69 rfl (decide_eq_false (by omega)) ?_
    refine TA.done (by kernel_rfl) ?_
    have hv : cmpLs l m = cmpLs (l.drop (i + 1)) (m.drop (i + 1)) := by
      rw [hc]
      have : cmpI (x : Int) (y : Int) = 0 := cmpI_zero.2 (by omega)
      simp [cmpLs, this]
    refine m_run ?_
    exact IH (j - 1) _ _ (by omega) ⟨i + 1, by omega, hv, rfl, rfl, congrArg (Value.int .i64) (i64_succ i (by omega)), rfl⟩
  have hv : cmpLs l m = 0 := by
    rw [hc, List.drop_of_length_le (by omega), List.drop_of_length_le (by omega)]
    rfl
  rw [hv]
  refine m_run ?_
  (apply TK.retS1; exact rfl; exact rfl; (exact m_val))
  · exact ⟨_, rfl, rfl, rfl⟩
  · (repeat (first | exact List.Sublist.refl _ | apply List.Sublist.cons_cons | apply List.Sublist.cons))
theorem cmpI_anti (x y : Int) : cmpI y x = - cmpI x y := by unfold cmpI; split <;> split <;> omega
def Goes (a b e : Int) : Prop := (a ≤ 0 → b ≤ 0 → e ≤ 0 ∧ (e = 0 → a = 0 ∧ b = 0))
theorem cmpI_goes (x y z : Int) : Goes (cmpI x y) (cmpI y z) (cmpI x z) := by
  unfold Goes cmpI
  intro h1 h2
  split at h1 <;> split at h2 <;> (try split at h1) <;> (try split at h2) <;> split <;> (try split) <;> omega
theorem cmpLs_anti : ∀ l m : List Nat, cmpLs m l = - cmpLs l m
  | [], [] => rfl
  | [], _ :: _ => rfl
  | _ :: _, [] => rfl
  | x :: l, y :: m => by
    have h := cmpI_anti (x : Int) (y : Int)
    simp only [cmpLs]
    rw [h, cmpLs_anti l m]
    by_cases h0 : cmpI (x : Int) (y : Int) = 0
    · rw [h0]; rfl
    · rw [if_pos h0, if_pos (by omega)]
theorem lex_goes {a b c u v w : Int} (h1 : Goes a b c) (hz : a = 0 → b = 0 → c = 0) (h2 : Goes u v w) : Goes (if a ≠ 0 then a else u) (if b ≠ 0 then b else v) (if c ≠ 0 then c else w) := by
  unfold Goes at *
  intro g1 g2
  have k1 : a ≤ 0 := by split at g1 <;> omega
  have k2 : b ≤ 0 := by split at g2 <;> omega
  have k3 := h1 k1 k2
  by_cases hc : c = 0
  · have k4 := k3.2 hc
    rw [if_neg (by omega)] at g1 g2 ⊢
    rw [if_neg (by omega), if_neg (by omega)]
    exact h2 g1 g2
  · rw [if_pos hc]
    exact ⟨k3.1, fun e => absurd e hc⟩
theorem cmpLs_goes : ∀ l m n : List Nat, Goes (cmpLs l m) (cmpLs m n) (cmpLs l n)
  | [], [], [] => by unfold Goes; simp [cmpLs]
  | [], [], _ :: _ => by unfold Goes; simp [cmpLs]
  | [], _ :: _, [] => by unfold Goes; simp [cmpLs]
  | [], _ :: _, _ :: _ => by unfold Goes; simp [cmpLs]
  | _ :: _, [], [] => by unfold Goes; simp [cmpLs]
  | _ :: _, [], _ :: _ => by unfold Goes; simp [cmpLs]
  | _ :: _, _ :: _, [] => by unfold Goes; simp [cmpLs]
  | x :: l, y :: m, z :: n => lex_goes (cmpI_goes (x : Int) (y : Int) (z : Int)) (fun a b => cmpI_zero.2 ((cmpI_zero.1 a).trans (cmpI_zero.1 b))) (cmpLs_goes l m n)
theorem orI_anti (a b c : Int) : orI (-a) (-b) (-c) = - orI a b c := by unfold orI; split <;> split <;> (try split) <;> (try split) <;> omega
theorem cmpF_anti (f g : Fct) : cmpF g f = - cmpF f g := by
  unfold cmpF
  rw [cmpI_anti f.p, cmpI_anti f.l.length, cmpLs_anti, orI_anti]
theorem cmpF_goes (f g h : Fct) : Goes (cmpF f g) (cmpF g h) (cmpF f h) :=
  lex_goes (cmpI_goes f.p g.p h.p) (fun a b => cmpI_zero.2 ((cmpI_zero.1 a).trans (cmpI_zero.1 b)))
    (lex_goes (cmpI_goes f.l.length g.l.length h.l.length) (fun a b => cmpI_zero.2 ((cmpI_zero.1 a).trans (cmpI_zero.1 b))) (cmpLs_goes f.l g.l h.l))
end Go.Proofs.Ythbcfamfaicneaa.E
