/- My own texts, one behind the other: Ne Mr Ss Mc Md Me Mf Mj Mg Mh Mk Skb Ml Sin Mm Mi. -/
import Derived.Test.YthbcfamfaicneaaGreatPf3
import Derived.Test.YthbcfamfaicneaaGreatPf4
import Derived.Test.YthbcfamfaicneaaGreatPf1
/- What credentials say: plainly. -/
namespace Go.Proofs.YthbcfamfaicneaaGreat.E
open Go Go.RowKit
theorem predS_some {p : Nat} {n : Nat} {d : Int} (h : (predS p n true d).2 = true) : ∃ k : Nat, d = (k : Int) ∧ k ≤ 3 ∧ p < 16777216 ∧ n ≤ 6 ∧ (predS p n true d).1 = 64 * p + 8 * n + 1 + k := by
  unfold predS at h ⊢
  split at h
  · cases h
  · rename_i h1
    rw [if_neg (by decide)] at h
    split at h
    · cases h
    · rename_i h2
      rw [if_neg h1, if_neg (by decide), if_neg h2]
      refine ⟨d.toNat, by omega, by omega, by omega, by omega, ?_⟩
      show 64 * p + 8 * ((n : Int)).toNat + 1 + d.toNat = _
      rw [Int.toNat_natCast]
theorem predS_is {p n k : Nat} (hp : p < 16777216) (hn : n ≤ 6) (hk : k ≤ 3) : predS p n true (k : Int) = (64 * p + 8 * n + 1 + k, true) := by
  unfold predS
  rw [if_neg (by omega), if_neg (by decide), if_neg (by omega)]
  simp
theorem credsC_mem {l : List Cr} {c : PC} : c ∈ credsC l ↔ ∃ x ∈ l, mayCr x = true ∧ ∃ k, k < 4 ∧ oneB x k = true ∧ c = oneC x k := by
  unfold credsC onesC
  rw [List.mem_flatMap]
  constructor
  · rintro ⟨x, hx, hc⟩
    split at hc
    · rename_i hm
      obtain ⟨k, hk, rfl⟩ := List.mem_map.1 hc
      obtain ⟨h1, h2⟩ := List.mem_filter.1 hk
      exact ⟨x, hx, hm, k, List.mem_range.1 h1, h2, rfl⟩
    · cases hc
  · rintro ⟨x, hx, hm, k, hk, hb, rfl⟩
    refine ⟨x, hx, ?_⟩
    rw [if_pos hm]
    exact List.mem_map.2 ⟨k, List.mem_filter.2 ⟨List.mem_range.2 hk, hb⟩, rfl⟩
theorem mayCr_kind {x : Cr} (h : mayCr x = true) : (x.kind = 1 ∧ ruleB x = true) ∨ (x.kind = 2 ∧ giveB x = true) := by
  unfold mayCr at h
  simp only [Bool.and_eq_true, Bool.or_eq_true, decide_eq_true_iff] at h
  exact h.2
theorem giveB_of {x : Cr} (h : giveB x = true) : 0 ≤ x.args ∧ x.args < 6 ∧ 0 ≤ x.dep ∧ x.dep ≤ 3 := by
  unfold giveB at h
  simp only [Bool.and_eq_true, decide_eq_true_iff] at h
  exact ⟨h.1.1.1.2, h.1.1.2, h.1.2, h.2⟩
theorem ruleB_of {x : Cr} (h : ruleB x = true) : (∀ y ∈ x.r.l, y.no = false ∧ y.y.s = true) ∧ mayP (ruleC x) = true ∧ heldP (ruleC x) = true := by
  unfold ruleB at h
  simp only [Bool.and_eq_true, decide_eq_true_iff] at h
  refine ⟨fun y hy => ?_, h.1.2, h.2⟩
  have := List.all_eq_true.1 h.1.1.2 y hy
  simpa using this
/-- A clause that a credential makes, as it looks. -/
inductive OneIs (x : Cr) (k : Nat) : PC → Prop
  | rule (hk : x.kind = 1) (hr : ruleB x = true) (hp : x.r.h.a.p < 16777216) (hn : x.r.h.a.l.length < 6) (h3 : k ≤ 3) (hb : ∀ y ∈ x.r.l, y.y.a.p < 16777216 ∧ y.y.a.l.length < 6) :
      OneIs x k (64 * x.r.h.a.p + 8 * x.r.h.a.l.length + 1 + k, ⟨false, x.iss⟩ :: x.r.h.a.l, x.r.l.map fun y => (false, 64 * y.y.a.p + 8 * y.y.a.l.length + 1 + k, y.y.w :: y.y.a.l))
  | give (n d : Nat) (hk : x.kind = 2) (hg : giveB x = true) (hn : x.args = (n : Int)) (h6 : n < 6) (hp : x.p < 16777216) (h1 : 1 ≤ k) (h3 : k ≤ 3) (hd : (d : Int) = min ((k : Int) - 1) x.dep) :
      OneIs x k (64 * x.p + 8 * n + 1 + k, ⟨false, x.iss⟩ :: varsT n, [(false, 64 * x.p + 8 * n + 1 + d, ⟨false, x.to⟩ :: varsT n)])
theorem varsT_len (n : Nat) : (varsT n).length = n := by simp [varsT]
theorem flatP_said {y : Sy} (h : y.s = true) (d : Int) : flatP y d = ((predS y.a.p y.a.l.length true d).1, y.w :: y.a.l) := by
  unfold flatP
  rw [h]; rfl
theorem flatB_said {y : Sy} (h : y.s = true) (d : Int) : flatB y d = saidB y.a.p y.a.l d := by
  unfold flatB saidB
  rw [h]; rfl
theorem saidB_of {p : Nat} {l : List Tm} {d : Int} (h : saidB p l d = true) : ∃ k : Nat, d = (k : Int) ∧ k ≤ 3 ∧ p < 16777216 ∧ l.length < 6 ∧ (predS p l.length true d).1 = 64 * p + 8 * l.length + 1 + k := by
  unfold saidB at h
  rw [Bool.and_eq_true, decide_eq_true_iff] at h
  obtain ⟨k, h1, h2, h3, _, h5⟩ := predS_some h.1
  exact ⟨k, h1, h2, h3, h.2, h5⟩
theorem saidB_is {p k : Nat} {l : List Tm} (hp : p < 16777216) (hl : l.length < 6) (hk : k ≤ 3) : saidB p l (k : Int) = true := by
  unfold saidB
  rw [predS_is hp (by omega) hk, decide_eq_true hl]; rfl
theorem one_is {x : Cr} {k : Nat} (hm : mayCr x = true) (hk : k < 4) : oneB x k = true ↔ OneIs x k (oneC x k) := by
  constructor
  · intro h
    rcases mayCr_kind hm with ⟨h1, h2⟩ | ⟨h1, h2⟩
    · have hne : ¬ x.kind = 2 := by rw [h1]; decide
      unfold oneB at h
      rw [if_neg hne, Bool.and_eq_true] at h
      obtain ⟨k', hk', _, hp, hl, he⟩ := saidB_of h.1
      have hkk : k' = k := by omega
      subst hkk
      have hb := (ruleB_of h2).1
      have hbody : ∀ y ∈ x.r.l, y.y.a.p < 16777216 ∧ y.y.a.l.length < 6 ∧ (false, (flatP y.y k').1, (flatP y.y k').2) = ((false, 64 * y.y.a.p + 8 * y.y.a.l.length + 1 + k', y.y.w :: y.y.a.l) : PL) := fun y hy => by
        have h3 := List.all_eq_true.1 h.2 y hy
        rw [flatB_said (hb y hy).2] at h3
        obtain ⟨k2, hk2, _, hp2, hl2, he2⟩ := saidB_of h3
        obtain rfl : k2 = k' := by omega
        rw [flatP_said (hb y hy).2, he2]
        exact ⟨hp2, hl2, rfl⟩
      have := OneIs.rule (x := x) (k := k') h1 h2 hp hl (by omega) (fun y hy => ⟨(hbody y hy).1, (hbody y hy).2.1⟩)
      unfold oneC
      rw [if_neg hne]
      unfold saidP
      rw [he, List.map_congr_left fun y hy => (hbody y hy).2.2]
      exact this
    · unfold oneB at h
      rw [if_pos h1, Bool.and_eq_true] at h
      obtain ⟨a0, a6, _, _⟩ := giveB_of h2
      obtain ⟨n, hn⟩ : ∃ n : Nat, x.args = (n : Int) := ⟨x.args.toNat, by omega⟩
      obtain ⟨k', hk', _, hp, hl, he⟩ := saidB_of h.1
      obtain rfl : k' = k := by omega
      obtain ⟨d, hd, _, _, _, he2⟩ := saidB_of h.2
      have hnn : x.args.toNat = n := by omega
      rw [hnn, varsT_len] at he he2
      have := OneIs.give (x := x) (k := k') n d h1 h2 hn (by omega) hp (by omega) (by omega) hd.symm
      unfold oneC
      rw [if_pos h1]
      unfold saidP
      rw [hnn, varsT_len, he, he2]
      exact this
  · intro h
    generalize hC : oneC x k = C at h
    cases h with
    | rule h1 h2 hp hn h3 hb =>
      have hne : ¬ x.kind = 2 := by rw [h1]; decide
      unfold oneB
      rw [if_neg hne, saidB_is hp hn h3, Bool.true_and, List.all_eq_true]
      intro y hy
      rw [flatB_said ((ruleB_of h2).1 y hy).2]
      exact saidB_is (hb y hy).1 (hb y hy).2 h3
    | give n d h1 h2 hn h6 hp hk1 h3 hd =>
      unfold oneB
      rw [if_pos h1, ← hd, Bool.and_eq_true]
      have hnn : x.args.toNat = n := by omega
      rw [hnn]
      exact ⟨saidB_is hp (by rw [varsT_len]; exact h6) h3, saidB_is hp (by rw [varsT_len]; exact h6) (by omega)⟩
theorem oneIs_eq {x : Cr} {k : Nat} {C : PC} (hm : mayCr x = true) (hk : k < 4) (h : OneIs x k C) : C = oneC x k ∧ oneB x k = true := by
  have hb : oneB x k = true := by
    cases h with
    | rule h1 h2 hp hn h3 hb =>
      have hne : ¬ x.kind = 2 := by rw [h1]; decide
      unfold oneB
      rw [if_neg hne, saidB_is hp hn h3, Bool.true_and, List.all_eq_true]
      intro y hy
      rw [flatB_said ((ruleB_of h2).1 y hy).2]
      exact saidB_is (hb y hy).1 (hb y hy).2 h3
    | give n d h1 h2 hn h6 hp hk1 h3 hd =>
      unfold oneB
      rw [if_pos h1, ← hd, Bool.and_eq_true]
      have hnn : x.args.toNat = n := by omega
      rw [hnn]
      exact ⟨saidB_is hp (by rw [varsT_len]; exact h6) h3, saidB_is hp (by rw [varsT_len]; exact h6) (by omega)⟩
  refine ⟨?_, hb⟩
  have h' := (one_is hm hk).1 hb
  generalize oneC x k = D at h'
  cases h with
  | rule h1 h2 hp hn h3 hb =>
    cases h' with
    | rule => rfl
    | give n d h1' => rw [h1] at h1'; cases h1'
  | give n d h1 h2 hn h6 hp hk1 h3 hd =>
    cases h' with
    | rule h1' => rw [h1] at h1'; cases h1'
    | give n' d' _ _ hn' _ _ _ _ hd' =>
      obtain rfl : n = n' := by omega
      obtain rfl : d = d' := by omega
      rfl
/-- The clauses of credentials. -/
theorem creds_iff {l : List Cr} {C : PC} : C ∈ credsC l ↔ ∃ x ∈ l, mayCr x = true ∧ ∃ k, k < 4 ∧ OneIs x k C := by
  rw [credsC_mem]
  constructor
  · rintro ⟨x, hx, hm, k, hk, hb, rfl⟩
    exact ⟨x, hx, hm, k, hk, (one_is hm hk).1 hb⟩
  · rintro ⟨x, hx, hm, k, hk, h⟩
    obtain ⟨rfl, hb⟩ := oneIs_eq hm hk h
    exact ⟨x, hx, hm, k, hk, hb, rfl⟩
end Go.Proofs.YthbcfamfaicneaaGreat.E

/- The document on which programs may be: atoms, lengths, Right, Arities (taken from the texts on programs). -/
namespace Go.Proofs.YthbcfamfaicneaaGreat.E
open Go Go.RowKit Go.Proofs
attribute [local irreducible] TK TL TQ TA Fn PV
/-! ### all atoms -/
def atomsOf (c : Cl) : List Atm := c.h :: c.l.map (·.a)
def allA (l : List Cl) : List Atm := l.flatMap atomsOf
abbrev atmsC (l : List Atm) : List Value := l.flatMap Atm.cells
theorem atmsC_len (l : List Atm) : (atmsC l).length = l.length * 2 := flat_len (f := Atm.cells) (sz := 2) (fun _ => rfl) l
theorem atmsC_one (l : List Atm) : ∀ u ∈ atmsC l, u.oneCell' = true := by
  intro u hu
  obtain ⟨p, _, hp⟩ := List.mem_flatMap.1 hu
  simp only [Atm.cells, List.mem_cons, List.not_mem_nil, or_false] at hp
  rcases hp with rfl | rfl <;> rfl
theorem allA_ats (l : List Cl) : (allA l).map (fun a => (a.p, a.l.length)) = atsL l := by
  induction l with
  | nil => rfl
  | cons c l ih =>
    simp only [allA, atsL, List.flatMap_cons, List.map_append] at ih ⊢
    rw [ih]
    congr 1
    simp [atomsOf, atsOf]
set_option maxRecDepth 100000 in
set_option maxHeartbeats 4000000 in
theorem atoms_t (c : Cl) (Γ : List HP) (h : c.ok Γ) (hn : c.small) : FnV Tryz.prog 99 [.agg c.cells.toArray] Γ fun r Γ' => ∃ B k, (atomsOf c).length ≤ k ∧ r = .slice B (atomsOf c).length k ∧ Γ' = own 30 2 (.slice B (atomsOf c).length k) (atomsOf c).length (atmsC (atomsOf c)) :: Γ := by
  refine Fn.enter Tryz.func99 rfl rfl rfl fun E => ?_
  have hL0 : has Γ (srcAt 3 c.A c.l.length (ltsC c.l)) := h.2.1
  have hn1 : c.l.length ≤ 1000000 := hn.1
  refine m_run ?_
  (apply TL.box; exact rfl; exact rfl; (exact m_lst))
  intro b1
  refine TL.imp (Δ := row b1 [.int .u32 (c.h.p : Int), .slice c.h.A c.h.l.length c.h.c, .slice c.A c.l.length c.c] 57 :: Γ) (fun _ h => h) ?_
  have hb1 : has (row b1 [.int .u32 (c.h.p : Int), .slice c.h.A c.h.l.length c.h.c, .slice c.A c.l.length c.c] 57 :: Γ) (fun m => cellsAt m b1 0 c.h.cells) := has_rows 0 rfl rfl
  refine m_run ?_
  (apply TL.buildSlice (l := c.h.cells); exact rfl; exact tb rfl; exact rfl; exact tb rfl; exact rfl; exact rfl; exact rfl; exact rfl; exact rfl)
  intro b7
  refine m_run ?_
  refine TK.imp (Δ := own 30 2 (.slice (some ⟨b7, 0, none⟩) 1 1) 1 (atmsC (c.h :: (c.l.take 0).map (·.a))) :: row b1 [.int .u32 (c.h.p : Int), .slice c.h.A c.h.l.length c.h.c, .slice c.A c.l.length c.c] 57 :: Γ) (fun m hm => sep_mono hm (fun _ h => own_row (by simp [atmsC, Atm.cells]) (by decide) (by simpa [atmsC] using h)) (fun _ h => h)) ?_
  apply TK.iter (fun j ρ' Γ' => ∃ (i : Nat) (B : Option Addr) (k : Nat), c.l.length = i + j ∧ i + 1 ≤ k ∧ lk ρ' 1 = .pointer (some ⟨b1, 0, none⟩) ∧ lk ρ' 3 = .slice B (i + 1) k ∧ lk ρ' 4 = .int .i64 (i : Int) ∧ Γ' = own 30 2 (.slice B (i + 1) k) (i + 1) (atmsC (c.h :: (c.l.take i).map (·.a))) :: row b1 [.int .u32 (c.h.p : Int), .slice c.h.A c.h.l.length c.h.c, .slice c.A c.l.length c.c] 57 :: Γ) c.l.length
  · exact ⟨0, some ⟨b7, 0, none⟩, 1, by omega, Nat.le_refl _, rfl, rfl, rfl, rfl⟩
  rintro j IH ρ' _ ⟨i, B, k, hj, hk, e1, e3, e4, rfl⟩
  refine TK.know3 e1 e3 e4 ?_
  by_cases hi : i < c.l.length
  · obtain ⟨x, hx⟩ : ∃ x, c.l[i]? = some x := ⟨c.l[i], List.getElem?_eq_getElem hi⟩
    refine TK.mem fun m0 hm0 => ?_
    obtain ⟨b, o, hA⟩ := src_some (has_tls (has_tls hL0) m0 hm0) (by rw [ltsC_len]; omega)
    clear hm0 m0
    have hL1 := hL0
    rw [hA] at hL1
    obtain ⟨_, _, hat⟩ := has_lit hL1 hx
    have hc2 : has (own 30 2 (.slice B (i + 1) k) (i + 1) (atmsC (c.h :: (c.l.take i).map (·.a))) :: row b1 [.int .u32 (c.h.p : Int), .slice c.h.A c.h.l.length c.h.c, .slice c.A c.l.length c.c] 57 :: Γ) (fun m => cellAt m b1 2 (.slice (some ⟨b, o, none⟩) c.l.length c.c)) := by rw [← hA]; exact has_row 1 rfl rfl
    refine m_run ?_
    (apply TL.buildSlice (l := x.a.cells); exact rfl; exact tb rfl; exact rfl; exact tb rfl; exact rfl; exact rfl; exact rfl; exact rfl; exact rfl)
    intro b22
    refine m_run ?_
    (apply TL.append 1; exact rfl; exact rfl; exact tb rfl; exact rfl; exact tb rfl; exact rfl; exact rfl; exact rfl)
    · exact fun _ h => h
    · exact rfl
    · exact has_src_row 0 rfl rfl
    · exact atmsC_one [x.a]
    · show (i + 1 + 1) * 32 ≤ _; omega
    · show i + 1 + 1 ≤ maxLen; unfold maxLen; omega
    · exact fun _ => (rfl : _ = _ :: _ :: _)
    intro B2 k2 hk2
    rw [show atmsC (c.h :: (c.l.take i).map (·.a)) ++ x.a.cells = atmsC (c.h :: (c.l.take (i + 1)).map (·.a)) by rw [List.take_add_one, hx]; simp [atmsC]]
    refine m_run ?_
    refine TK.drop ?_
    exact IH (j - 1) _ _ (by omega) ⟨i + 1, B2, k2, by omega, hk2, rfl, rfl, congrArg (Value.int .i64) (i64_succ i (by omega)), rfl⟩
  · obtain rfl : i = c.l.length := by omega
    have hlen : (atomsOf c).length = c.l.length + 1 := by simp [atomsOf]
    rw [List.take_length]
    rw [← hlen] at hk ⊢
    refine m_run ?_
    (apply TK.retS1; exact rfl; exact rfl; (exact m_val))
    exact ⟨_, rfl, B, k, hk, rfl, rfl⟩
    (repeat (first | exact List.Sublist.refl _ | apply List.Sublist.cons_cons | apply List.Sublist.cons))
abbrev clsC (l : List Cl) : List Value := l.flatMap Cl.cells
theorem clsC_len (l : List Cl) : (clsC l).length = l.length * 3 := flat_len (f := Cl.cells) (sz := 3) (fun _ => rfl) l
/-- Clauses that are handed in. -/
def clsOk (A : Option Addr) (l : List Cl) (Γ : List HP) : Prop := has Γ (srcAt 3 A l.length (clsC l)) ∧ ∀ c ∈ l, c.ok Γ ∧ c.small
theorem allA_snoc {l : List Cl} {i : Nat} {c : Cl} (h : l[i]? = some c) : allA (l.take (i + 1)) = allA (l.take i) ++ atomsOf c := by
  unfold allA
  rw [List.take_add_one, h, List.flatMap_append]
  simp
theorem allA_le {l : List Cl} (i : Nat) : (allA (l.take i)).length ≤ (allA l).length := by
  have : allA l = allA (l.take i) ++ allA (l.drop i) := by unfold allA; rw [← List.flatMap_append, List.take_append_drop]
  rw [this, List.length_append]; omega
def PairOk (M : List (Nat × Nat)) (i k : Nat) : Prop := ∀ (x y : Nat) (a b : Nat × Nat), (x < i ∧ y < x ∨ x = i ∧ y < k) → M[x]? = some a → M[y]? = some b → a.1 = b.1 → a.2 = b.2
theorem pair_cons {M : List (Nat × Nat)} (h : PairOk M M.length 0) : Cons M := by
  intro a ha b hb e
  obtain ⟨x, hx, hxa⟩ := List.mem_iff_getElem.1 ha
  obtain ⟨y, hy, hyb⟩ := List.mem_iff_getElem.1 hb
  have hx' : M[x]? = some a := by rw [List.getElem?_eq_getElem hx, hxa]
  have hy' : M[y]? = some b := by rw [List.getElem?_eq_getElem hy, hyb]
  rcases Nat.lt_trichotomy x y with hl | hl | hl
  · exact (h y x b a (.inl ⟨hy, hl⟩) hy' hx' e.symm).symm
  · subst hl
    rw [hx'] at hy'; injection hy' with hy'; rw [hy']
  · exact h x y a b (.inl ⟨hx, hl⟩) hx' hy' e
theorem pair_next {M : List (Nat × Nat)} {i : Nat} (h : PairOk M i i) : PairOk M (i + 1) 0 := fun x y a b hxy => h x y a b (by omega)
theorem pair_step {M : List (Nat × Nat)} {i k : Nat} {a b : Nat × Nat} (h : PairOk M i k) (ha : M[i]? = some a) (hb : M[k]? = some b) (hab : a.1 = b.1 → a.2 = b.2) : PairOk M i (k + 1) := by
  intro x y c d hxy hc hd e
  by_cases hy : x = i ∧ y = k
  · obtain ⟨rfl, rfl⟩ := hy
    rw [ha] at hc; rw [hb] at hd
    injection hc with hc; injection hd with hd
    subst hc; subst hd
    exact hab e
  · exact h x y c d (by omega) hc hd e
set_option maxRecDepth 100000 in
set_option maxHeartbeats 4000000 in
theorem rlengths_t (A : Option Addr) (cc : Nat) (l : List Cl) (Γ : List HP) (h : clsOk A l Γ) (hn : l.length ≤ 1000000) (hall : (allA l).length ≤ 1000000) : FnV Tryz.prog 93 [.slice A l.length cc] Γ fun r Γ' => r = .bool (consB (atsL l)) ∧ Γ' = Γ := by
  refine Fn.enter Tryz.func93 rfl rfl rfl fun E => ?_
  refine TK.free (H := own 30 2 (.slice none 0 0) 0 []) (fun m hm => own_nil _ _ hm) ?_
  refine m_run ?_
  apply TK.iter (fun j ρ' Γ' => ∃ (i : Nat) (B : Option Addr) (k : Nat), l.length = i + j ∧ lk ρ' 0 = .slice A l.length cc ∧ lk ρ' 3 = .slice B (allA (l.take i)).length k ∧ lk ρ' 4 = .int .i64 (i : Int) ∧ Γ' = own 30 2 (.slice B (allA (l.take i)).length k) (allA (l.take i)).length (atmsC (allA (l.take i))) :: Γ) l.length
  · exact ⟨0, none, 0, by omega, rfl, rfl, rfl, rfl⟩
  rintro j IH ρ' _ ⟨i, B, k, hj, e0, e3, e4, rfl⟩
  refine TK.know3 e0 e3 e4 ?_
  by_cases hi : i < l.length
  · obtain ⟨c, hc⟩ : ∃ c, l[i]? = some c := ⟨l[i], List.getElem?_eq_getElem hi⟩
    have hcm := List.mem_of_getElem? hc
    refine TK.mem fun m0 hm0 => ?_
    obtain ⟨b, o, rfl⟩ := src_some (has_tls h.1 m0 hm0) (by rw [clsC_len]; omega)
    clear hm0 m0
    have hel := has_el (sz := 3) (f := Cl.cells) (fun _ => rfl) (by decide) h.1 hc
    have hsn := allA_snoc hc
    have hle := allA_le (l := l) (i + 1)
    have hlen : (allA (l.take (i + 1))).length = (allA (l.take i)).length + (atomsOf c).length := by rw [hsn, List.length_append]
    refine m_run ?_
    (apply TL.callV; exact rfl; exact callB_of (by kernel_rfl); exact rfl; exact fun _ h => h)
    exact atoms_t c _ (Cl.ok_tl (h.2 c hcm).1) (h.2 c hcm).2
    rintro _ _ ⟨B2, k2, hk2, rfl, rfl⟩
    refine m_run ?_
    (apply TL.append 1; exact rfl; exact rfl; exact tb rfl; exact rfl; exact tb rfl; exact rfl; exact rfl; exact rfl)
    · exact fun _ h => h
    · exact rfl
    · exact has_at (up_src _ _ _ _) 0 rfl fun _ h => own_src h
    · exact atmsC_one _
    · show ((allA (l.take i)).length + (atomsOf c).length) * 32 ≤ _; omega
    · show (allA (l.take i)).length + (atomsOf c).length ≤ maxLen; unfold maxLen; omega
    · exact fun _ => (rfl : _ = _ :: _ :: _)
    intro B3 k3 hk3
    rw [show atmsC (allA (l.take i)) ++ atmsC (atomsOf c) = atmsC (allA (l.take (i + 1))) by rw [hsn]; simp [atmsC], ← hlen]
    refine m_run ?_
    refine TK.drop ?_
    exact IH (j - 1) _ _ (by omega) ⟨i + 1, B3, k3, by omega, rfl, rfl, congrArg (Value.int .i64) (i64_succ i (by omega)), rfl⟩
  rw [List.take_of_length_le (by omega)] at e3 ⊢
  clear IH
  have hM := allA_ats l
  generalize hML : atsL l = M at *
  generalize allA l = X at *
  have hXM : M.length = X.length := by rw [← hM, List.length_map]
  refine m_run ?_
  apply TK.iter (fun j ρ' Γ' => ∃ (i : Nat), X.length = i + j ∧ PairOk M i 0 ∧ lk ρ' 3 = .slice B X.length k ∧ lk ρ' 5 = .int .i64 (i : Int) ∧ Γ' = own 30 2 (.slice B X.length k) X.length (atmsC X) :: Γ) X.length
  · exact ⟨0, by omega, fun x y a b hxy => by omega, rfl, rfl, rfl⟩
  rintro j IH ρ2 _ ⟨i, hj, hP, e3, e5, rfl⟩
  refine TK.know2 e3 e5 ?_
  by_cases hi : i < X.length
  · obtain ⟨a, ha⟩ : ∃ a, X[i]? = some a := ⟨X[i], List.getElem?_eq_getElem hi⟩
    have ha' : M[i]? = some (a.p, a.l.length) := by rw [← hM, List.getElem?_map, ha]; rfl
    refine m_run ?_
    apply TK.iter (fun j ρ' Γ' => ∃ (q : Nat), i = q + j ∧ PairOk M i q ∧ lk ρ' 3 = .slice B X.length k ∧ lk ρ' 5 = .int .i64 (i : Int) ∧ lk ρ' 6 = .int .i64 (q : Int) ∧ Γ' = own 30 2 (.slice B X.length k) X.length (atmsC X) :: Γ) i
    · exact ⟨0, by omega, hP, rfl, rfl, rfl, rfl⟩
    rintro j2 IH2 ρ3 _ ⟨q, hq, hPq, f3, f5, f6, rfl⟩
    refine TK.know3 f3 f5 f6 ?_
    by_cases hqi : q < i
    · obtain ⟨d, hd⟩ : ∃ d, X[q]? = some d := ⟨X[q], List.getElem?_eq_getElem (by omega)⟩
      have hd' : M[q]? = some (d.p, d.l.length) := by rw [← hM, List.getElem?_map, hd]; rfl
      refine TK.mem fun m0 hm0 => ?_
      obtain ⟨g, rfl⟩ := own_addr hm0 (by omega)
      clear hm0 m0
      have hown : has (own 30 2 (.slice (some ⟨g, 0, none⟩) X.length k) X.length (atmsC X) :: Γ) (srcAt 2 (some ⟨g, 0, none⟩) X.length (atmsC X)) := has_at (up_src _ _ _ _) 0 rfl fun _ h => own_src h
      have hia := has_el (sz := 2) (f := Atm.cells) (fun _ => rfl) (by decide) hown ha
      have hqa := has_el (sz := 2) (f := Atm.cells) (fun _ => rfl) (by decide) hown hd
      rw [Nat.zero_add] at hia hqa
      have hi0 := has_cell hia 0 rfl
      have hi1 := has_cell hia 1 rfl
      have hq0 := has_cell hqa 0 rfl
      have hq1 := has_cell hqa 1 rfl
      by_cases hp : a.p = d.p
      · by_cases hl : a.l.length = d.l.length
        · refine m_run ?_
          refine m_quiet ?_
          refine m_run ?_
          exact IH2 (j2 - 1) _ _ (by omega) ⟨q + 1, by omega, pair_step hPq ha' hd' (fun _ => hl), rfl, rfl, congrArg (Value.int .i64) (i64_succ q (by omega)), rfl⟩
        · have hno : consB M = false := by
            rw [← Bool.not_eq_true, consB_iff]
            intro hC
            exact hl (hC _ (List.mem_of_getElem? ha') _ (List.mem_of_getElem? hd') hp)
          refine m_run ?_
          refine m_quiet ?_
          refine m_run ?_
          (apply TK.retS1; exact rfl; exact rfl; (exact m_val))
          exact ⟨_, rfl, congrArg Value.bool hno.symm, rfl⟩
          (repeat (first | exact List.Sublist.refl _ | apply List.Sublist.cons_cons | apply List.Sublist.cons))
      · refine m_run ?_
        refine m_quiet ?_
        refine m_run ?_
        exact IH2 (j2 - 1) _ _ (by omega) ⟨q + 1, by omega, pair_step hPq ha' hd' (fun e => absurd e hp), rfl, rfl, congrArg (Value.int .i64) (i64_succ q (by omega)), rfl⟩
    · obtain rfl : q = i := by omega
      refine m_run ?_
      exact IH (j - 1) _ _ (by omega) ⟨q + 1, by omega, pair_next hPq, rfl, congrArg (Value.int .i64) (i64_succ q (by omega)), rfl⟩
  · obtain rfl : i = X.length := by omega
    rw [← hXM] at hP
    have hyes : consB M = true := consB_iff.2 (pair_cons hP)
    refine m_run ?_
    (apply TK.retS1; exact rfl; exact rfl; (exact m_val))
    exact ⟨_, rfl, congrArg Value.bool hyes.symm, rfl⟩
    (repeat (first | exact List.Sublist.refl _ | apply List.Sublist.cons_cons | apply List.Sublist.cons))
/-- What Right answers. -/
def RightIs (l : List Cl) (v : Value) : Prop := ∃ (n : Nat) (e : Int), v = .tuple #[.int .i64 (n : Int), .int .i64 e] ∧ Res l n e
set_option maxRecDepth 100000 in
set_option maxHeartbeats 4000000 in
theorem rright_t (A : Option Addr) (cc : Nat) (l : List Cl) (Γ : List HP) (h : clsOk A l Γ) (hcc : l.length ≤ cc) (hn : l.length ≤ 1000000) (hall : l.length ≤ 400 → (allA l).length ≤ 1000000) : FnV Tryz.prog 42 [.slice A l.length cc] Γ fun v Γ' => RightIs l v ∧ Γ' = Γ := by
  refine Fn.enter Tryz.func42 rfl rfl rfl fun E => ?_
  by_cases h400 : 400 < l.length
  · refine m_run ?_
    (apply TK.ret2; exact rfl; exact rfl; (exact m_val); (exact m_val))
    exact ⟨_, rfl, ⟨0, 6, rfl, .inl ⟨h400, rfl, rfl⟩⟩, rfl⟩
  have h4 : l.length ≤ 400 := by omega
  replace hall := hall h4
  refine m_run ?_
  apply TK.iter (fun j ρ' Γ' => ∃ (i : Nat), l.length = i + j ∧ okTo l i ∧ lk ρ' 0 = .slice A l.length cc ∧ lk ρ' 4 = .int .i64 (i : Int) ∧ Γ' = Γ) l.length
  · exact ⟨0, by omega, fun k c hk => by omega, rfl, rfl, rfl⟩
  rintro j IH ρ' _ ⟨i, hj, hok, e0, e4, rfl⟩
  refine TK.know2 e0 e4 ?_
  by_cases hi : i < l.length
  · obtain ⟨c, hc⟩ : ∃ c, l[i]? = some c := ⟨l[i], List.getElem?_eq_getElem hi⟩
    have hcm := List.mem_of_getElem? hc
    obtain ⟨hco, hcs⟩ := h.2 c hcm
    refine TK.mem fun m0 hm0 => ?_
    obtain ⟨b, o, rfl⟩ := src_some (h.1 m0 hm0) (by rw [clsC_len]; omega)
    clear hm0 m0
    have hel := has_el (sz := 3) (f := Cl.cells) (fun _ => rfl) (by decide) h.1 hc
    have hwr : wrong1 (atsL (l.take i)) c = if mayC c then (if heldC c then (if consB (atsL (l.take i) ++ atsOf c) then 0 else 9) else 10) else 8 := rfl
    refine m_run ?_
    (apply TL.callV; exact rfl; exact callB_of (by kernel_rfl); exact rfl; exact fun _ h => h)
    exact rmay_t c _ hco hcs
    rintro _ Γ ⟨rfl, rfl⟩
    cases hmay : mayC c with
    | false =>
      rw [hmay] at hwr
      refine m_run ?_
      (apply TK.ret2; exact rfl; exact rfl; (exact m_val); (exact m_val))
      exact ⟨_, rfl, ⟨i, 8, rfl, .inr ⟨h4, .inl ⟨c, hc, hok, hwr.symm, by decide⟩⟩⟩, rfl⟩
    | true =>
    rw [hmay] at hwr
    refine m_run ?_
    (apply TL.callV; exact rfl; exact callB_of (by kernel_rfl); exact rfl; exact fun _ h => h)
    exact rsafe_t c _ hco hcs
    rintro _ Γ ⟨rfl, rfl⟩
    cases hheld : heldC c with
    | false =>
      rw [hheld] at hwr
      refine m_run ?_
      (apply TK.ret2; exact rfl; exact rfl; (exact m_val); (exact m_val))
      exact ⟨_, rfl, ⟨i, 10, rfl, .inr ⟨h4, .inl ⟨c, hc, hok, hwr.symm, by decide⟩⟩⟩, rfl⟩
    | true =>
    rw [hheld] at hwr
    refine m_run ?_
    refine TL.know (t := 30) (v := .int .i64 ((i + 1 : Nat) : Int)) (congrArg (Value.int .i64) (i64_succ i (by omega))) ?_
    (apply TL.sliceS (i := 0) (j := i + 1) (news := clsC l); exact rfl; exact rfl; exact tb rfl; exact rfl; exact tb rfl; exact .none; exact .some rfl; exact h.1; exact Nat.zero_le _; exact hi; exact hcc)
    intro A' hA'
    have htl : (l.take (i + 1)).length = i + 1 := by rw [List.length_take]; omega
    have hA2 : clsOk A' (l.take (i + 1)) Γ := by
      refine ⟨?_, fun c hc => h.2 c (List.mem_of_mem_take hc)⟩
      rw [htl, clsC, flat_take (f := Cl.cells) (sz := 3) (fun _ => rfl)]
      simpa using hA'
    have hl := rlengths_t A' (cc - 0) (l.take (i + 1)) Γ hA2 (by omega) (Nat.le_trans (allA_le (i + 1)) hall)
    rw [htl, atsL_snoc hc] at hl
    refine m_run ?_
    (apply TL.callV; exact rfl; exact callB_of (by kernel_rfl); exact rfl; exact fun _ h => h)
    exact hl
    rintro _ Γ ⟨rfl, rfl⟩
    cases hcon : consB (atsL (l.take i) ++ atsOf c) with
    | false =>
      rw [hcon] at hwr
      refine m_run ?_
      (apply TK.ret2; exact rfl; exact rfl; (exact m_val); (exact m_val))
      exact ⟨_, rfl, ⟨i, 9, rfl, .inr ⟨h4, .inl ⟨c, hc, hok, hwr.symm, by decide⟩⟩⟩, rfl⟩
    | true =>
      rw [hcon] at hwr
      refine m_run ?_
      exact IH (j - 1) _ _ (by omega) ⟨i + 1, by omega, okTo_snoc hok hc hwr, rfl, congrArg (Value.int .i64) (i64_succ i (by omega)), rfl⟩
  · obtain rfl : i = l.length := by omega
    refine m_run ?_
    (apply TK.ret2; exact rfl; exact rfl; (exact m_val); (exact m_val))
    exact ⟨_, rfl, ⟨0, 0, rfl, .inr ⟨h4, .inr ⟨hok, rfl, rfl⟩⟩⟩, rfl⟩
abbrev fcsC (l : List Fct) : List Value := l.flatMap Fct.cells
theorem fcsC_len (l : List Fct) : (fcsC l).length = l.length * 2 := flat_len (f := Fct.cells) (sz := 2) (fun _ => rfl) l
theorem src_block {A : Option Addr} {n c e sz : Nat} {cs : List Value} {m : Mem} (h : own e sz (.slice A n c) n cs m) (h0 : 0 < n) : ∃ g, A = some ⟨g, 0, none⟩ := by
  obtain ⟨_, ⟨_, h, _⟩ | ⟨g, cap, cur, hv, _⟩⟩ := h
  · omega
  · injection hv with hv _ _
    exact ⟨g, hv⟩
/-- What Arities answers. -/
def ArIs (L : List (Nat × Nat)) (fs : List Fct) (v : Value) : Prop := ∃ (n : Nat) (e : Int), v = .tuple #[.int .i64 (n : Int), .int .i64 e] ∧ ResA L fs n e
set_option maxRecDepth 100000 in
set_option maxHeartbeats 8000000 in
theorem rarities_t (A F : Option Addr) (cc fc : Nat) (l : List Cl) (fs : List Fct) (Γ : List HP) (h : clsOk A l Γ) (hf : has Γ (srcAt 2 F fs.length (fcsC fs))) (hn : l.length ≤ 1000000) (hfn : fs.length ≤ 1000000) (hall : (allA l).length ≤ 1000000) :
    FnV Tryz.prog 50 [.slice A l.length cc, .slice F fs.length fc] Γ fun v Γ' => ArIs (atsL l) fs v ∧ Γ' = Γ := by
  refine Fn.enter Tryz.func50 rfl rfl rfl fun E => ?_
  refine TK.free (H := own 30 2 (.slice none 0 0) 0 []) (fun m hm => own_nil _ _ hm) ?_
  refine m_run ?_
  apply TK.iter (fun j ρ' Γ' => ∃ (i : Nat) (B : Option Addr) (k : Nat), l.length = i + j ∧ lk ρ' 0 = .slice A l.length cc ∧ lk ρ' 1 = .slice F fs.length fc ∧ lk ρ' 6 = .slice B (allA (l.take i)).length k ∧ lk ρ' 7 = .int .i64 (i : Int) ∧ Γ' = own 30 2 (.slice B (allA (l.take i)).length k) (allA (l.take i)).length (atmsC (allA (l.take i))) :: Γ) l.length
  · exact ⟨0, none, 0, by omega, rfl, rfl, rfl, rfl, rfl⟩
  rintro j IH ρ' _ ⟨i, B, k, hj, e0, e1, e6, e7, rfl⟩
  refine TK.know4 e0 e1 e6 e7 ?_
  by_cases hi : i < l.length
  · obtain ⟨c, hc⟩ : ∃ c, l[i]? = some c := ⟨l[i], List.getElem?_eq_getElem hi⟩
    have hcm := List.mem_of_getElem? hc
    refine TK.mem fun m0 hm0 => ?_
    obtain ⟨b, o, rfl⟩ := src_some (has_tls h.1 m0 hm0) (by rw [clsC_len]; omega)
    clear hm0 m0
    have hel := has_el (sz := 3) (f := Cl.cells) (fun _ => rfl) (by decide) h.1 hc
    have hsn := allA_snoc hc
    have hle := allA_le (l := l) (i + 1)
    have hlen : (allA (l.take (i + 1))).length = (allA (l.take i)).length + (atomsOf c).length := by rw [hsn, List.length_append]
    refine m_run ?_
    (apply TL.callV; exact rfl; exact callB_of (by kernel_rfl); exact rfl; exact fun _ h => h)
    exact atoms_t c _ (Cl.ok_tl (h.2 c hcm).1) (h.2 c hcm).2
    rintro _ _ ⟨B2, k2, hk2, rfl, rfl⟩
    refine m_run ?_
    (apply TL.append 1; exact rfl; exact rfl; exact tb rfl; exact rfl; exact tb rfl; exact rfl; exact rfl; exact rfl)
    · exact fun _ h => h
    · exact rfl
    · exact has_at (up_src _ _ _ _) 0 rfl fun _ h => own_src h
    · exact atmsC_one _
    · show ((allA (l.take i)).length + (atomsOf c).length) * 32 ≤ _; omega
    · show (allA (l.take i)).length + (atomsOf c).length ≤ maxLen; unfold maxLen; omega
    · exact fun _ => (rfl : _ = _ :: _ :: _)
    intro B3 k3 hk3
    rw [show atmsC (allA (l.take i)) ++ atmsC (atomsOf c) = atmsC (allA (l.take (i + 1))) by rw [hsn]; simp [atmsC], ← hlen]
    refine m_run ?_
    refine TK.drop ?_
    exact IH (j - 1) _ _ (by omega) ⟨i + 1, B3, k3, by omega, rfl, rfl, rfl, congrArg (Value.int .i64) (i64_succ i (by omega)), rfl⟩
  rw [List.take_of_length_le (by omega)] at e6 ⊢
  clear IH
  have hM := allA_ats l
  generalize atsL l = L at *
  generalize allA l = X at *
  have hXM : L.length = X.length := by rw [← hM, List.length_map]
  refine m_run ?_
  apply TK.iter (fun j ρ' Γ' => ∃ (i : Nat), fs.length = i + j ∧ okF L fs i ∧ lk ρ' 1 = .slice F fs.length fc ∧ lk ρ' 6 = .slice B X.length k ∧ lk ρ' 8 = .int .i64 (i : Int) ∧ Γ' = own 30 2 (.slice B X.length k) X.length (atmsC X) :: Γ) fs.length
  · exact ⟨0, by omega, fun k f hk => by omega, rfl, rfl, rfl, rfl⟩
  rintro j IH ρ2 _ ⟨i, hj, hok, e1, e6, e8, rfl⟩
  refine TK.know3 e1 e6 e8 ?_
  by_cases hi : i < fs.length
  · obtain ⟨f, hfi⟩ : ∃ f, fs[i]? = some f := ⟨fs[i], List.getElem?_eq_getElem hi⟩
    refine TK.mem fun m0 hm0 => ?_
    obtain ⟨b, o, rfl⟩ := src_some (has_tls hf m0 hm0) (by rw [fcsC_len]; omega)
    clear hm0 m0
    have hel := has_el (sz := 2) (f := Fct.cells) (fun _ => rfl) (by decide) hf hfi
    refine m_run ?_
    (apply TL.alloc; exact rfl; exact tb rfl; exact (rfl : _ = [_, _]))
    intro b9
    by_cases h6 : 6 < f.l.length
    · refine m_run ?_
      (apply TK.retS2; exact rfl; exact rfl; (exact m_val); (exact m_val))
      exact ⟨_, rfl, ⟨i, 9, rfl, .inl ⟨f, hfi, hok, .inl h6, rfl⟩⟩, rfl⟩
      (repeat (first | exact List.Sublist.refl _ | apply List.Sublist.cons_cons | apply List.Sublist.cons))
    refine m_run ?_
    apply TK.iter (fun j ρ' Γ' => ∃ (q : Nat), X.length = q + j ∧ (∀ x a, x < q → L[x]? = some a → a.1 = f.p → a.2 = f.l.length) ∧ lk ρ' 1 = .slice (some ⟨b, o, none⟩) fs.length fc ∧ lk ρ' 6 = .slice B X.length k ∧ lk ρ' 8 = .int .i64 (i : Int) ∧ lk ρ' 9 = .pointer (some ⟨b9, 0, none⟩) ∧ lk ρ' 10 = .int .i64 (q : Int) ∧ Γ' = row b9 [.int .u32 (f.p : Int), .slice f.A f.l.length f.c] 40 :: own 30 2 (.slice B X.length k) X.length (atmsC X) :: Γ) X.length
    · exact ⟨0, by omega, fun x a hx => by omega, rfl, rfl, rfl, rfl, rfl, rfl⟩
    rintro j2 IH2 ρ3 _ ⟨q, hq, hPq, f1, f6, f8, f9, f10, rfl⟩
    refine TK.know5 f1 f6 f8 f9 f10 ?_
    by_cases hqi : q < X.length
    · obtain ⟨d, hd⟩ : ∃ d, X[q]? = some d := ⟨X[q], List.getElem?_eq_getElem (by omega)⟩
      have hd' : L[q]? = some (d.p, d.l.length) := by rw [← hM, List.getElem?_map, hd]; rfl
      refine TK.fact (all_at 1 rfl fun m h => src_block h (by omega)) ?_
      rintro ⟨g, rfl⟩
      have hown : has (row b9 [.int .u32 (f.p : Int), .slice f.A f.l.length f.c] 40 :: own 30 2 (.slice (some ⟨g, 0, none⟩) X.length k) X.length (atmsC X) :: Γ) (srcAt 2 (some ⟨g, 0, none⟩) X.length (atmsC X)) := has_at (up_src _ _ _ _) 1 rfl fun _ h => own_src h
      have hqa := has_el (sz := 2) (f := Atm.cells) (fun _ => rfl) (by decide) hown hd
      rw [Nat.zero_add] at hqa
      have hq0 := has_cell hqa 0 rfl
      have hq1 := has_cell hqa 1 rfl
      have hnext : (d.p = f.p → d.l.length = f.l.length) → ∀ x a, x < q + 1 → L[x]? = some a → a.1 = f.p → a.2 = f.l.length := fun hd2 x a hx ha => by
        rcases Nat.lt_or_ge x q with hxq | hxq
        · exact hPq x a hxq ha
        · obtain rfl : x = q := by omega
          rw [hd'] at ha; injection ha with ha; subst ha
          exact hd2
      by_cases hp : d.p = f.p
      · by_cases hl : d.l.length = f.l.length
        · refine m_run ?_
          refine m_quiet ?_
          refine m_run ?_
          exact IH2 (j2 - 1) _ _ (by omega) ⟨q + 1, by omega, hnext (fun _ => hl), rfl, rfl, rfl, rfl, congrArg (Value.int .i64) (i64_succ q (by omega)), rfl⟩
        · refine m_run ?_
          refine m_quiet ?_
          refine m_run ?_
          (apply TK.retS2; exact rfl; exact rfl; (exact m_val); (exact m_val))
          exact ⟨_, rfl, ⟨i, 9, rfl, .inl ⟨f, hfi, hok, .inr ⟨_, List.mem_append_left _ (List.mem_of_getElem? hd'), hp, hl⟩, rfl⟩⟩, rfl⟩
          (repeat (first | exact List.Sublist.refl _ | apply List.Sublist.cons_cons | apply List.Sublist.cons))
      · refine m_run ?_
        refine m_quiet ?_
        refine m_run ?_
        exact IH2 (j2 - 1) _ _ (by omega) ⟨q + 1, by omega, hnext (fun e => absurd e hp), rfl, rfl, rfl, rfl, congrArg (Value.int .i64) (i64_succ q (by omega)), rfl⟩
    clear IH2
    have hLall : ∀ a ∈ L, a.1 = f.p → a.2 = f.l.length := fun a ha => by
      obtain ⟨x, hx, hxa⟩ := List.mem_iff_getElem.1 ha
      exact hPq x a (by omega) (by rw [List.getElem?_eq_getElem hx, hxa])
    refine m_run ?_
    apply TK.iter (fun j ρ' Γ' => ∃ (q : Nat), i = q + j ∧ (∀ x g, x < q → fs[x]? = some g → g.p = f.p → g.l.length = f.l.length) ∧ lk ρ' 1 = .slice (some ⟨b, o, none⟩) fs.length fc ∧ lk ρ' 6 = .slice B X.length k ∧ lk ρ' 8 = .int .i64 (i : Int) ∧ lk ρ' 9 = .pointer (some ⟨b9, 0, none⟩) ∧ lk ρ' 11 = .int .i64 (q : Int) ∧ Γ' = row b9 [.int .u32 (f.p : Int), .slice f.A f.l.length f.c] 40 :: own 30 2 (.slice B X.length k) X.length (atmsC X) :: Γ) i
    · exact ⟨0, by omega, fun x a hx => by omega, rfl, rfl, rfl, rfl, rfl, rfl⟩
    rintro j2 IH2 ρ3 _ ⟨q, hq, hFq, f1, f6, f8, f9, f11, rfl⟩
    refine TK.know5 f1 f6 f8 f9 f11 ?_
    by_cases hqi : q < i
    · obtain ⟨d, hd⟩ : ∃ d, fs[q]? = some d := ⟨fs[q], List.getElem?_eq_getElem (by omega)⟩
      have hqa := has_el (sz := 2) (f := Fct.cells) (fun _ => rfl) (by decide) hf hd
      have hq0 := has_cell hqa 0 rfl
      have hq1 := has_cell hqa 1 rfl
      have hnext : (d.p = f.p → d.l.length = f.l.length) → ∀ x g, x < q + 1 → fs[x]? = some g → g.p = f.p → g.l.length = f.l.length := fun hd2 x a hx ha => by
        rcases Nat.lt_or_ge x q with hxq | hxq
        · exact hFq x a hxq ha
        · obtain rfl : x = q := by omega
          rw [hd] at ha; injection ha with ha; subst ha
          exact hd2
      by_cases hp : d.p = f.p
      · by_cases hl : d.l.length = f.l.length
        · refine m_run ?_
          refine m_quiet ?_
          refine m_run ?_
          exact IH2 (j2 - 1) _ _ (by omega) ⟨q + 1, by omega, hnext (fun _ => hl), rfl, rfl, rfl, rfl, congrArg (Value.int .i64) (i64_succ q (by omega)), rfl⟩
        · refine m_run ?_
          refine m_quiet ?_
          refine m_run ?_
          (apply TK.retS2; exact rfl; exact rfl; (exact m_val); (exact m_val))
          refine ⟨_, rfl, ⟨i, 9, rfl, .inl ⟨f, hfi, hok, .inr ⟨(d.p, d.l.length), List.mem_append_right _ (List.mem_map.2 ⟨d, ?_, rfl⟩), hp, hl⟩, rfl⟩⟩, rfl⟩
          · exact List.mem_take_iff_getElem.2 ⟨q, by omega, (List.getElem?_eq_some_iff.1 hd).2⟩
          (repeat (first | exact List.Sublist.refl _ | apply List.Sublist.cons_cons | apply List.Sublist.cons))
      · refine m_run ?_
        refine m_quiet ?_
        refine m_run ?_
        exact IH2 (j2 - 1) _ _ (by omega) ⟨q + 1, by omega, hnext (fun e => absurd e hp), rfl, rfl, rfl, rfl, congrArg (Value.int .i64) (i64_succ q (by omega)), rfl⟩
    · obtain rfl : q = i := by omega
      refine m_run ?_
      refine TK.drop ?_
      refine IH (j - 1) _ _ (by omega) ⟨q + 1, by omega, okF_snoc hok hfi ?_, rfl, rfl, congrArg (Value.int .i64) (i64_succ q (by omega)), rfl⟩
      rintro (h | ⟨a, ha, hap, hne⟩)
      · exact h6 h
      · rcases List.mem_append.1 ha with ha | ha
        · exact hne (hLall a ha hap)
        · obtain ⟨g, hg, rfl⟩ := List.mem_map.1 ha
          obtain ⟨x, hx, hxg⟩ := List.mem_take_iff_getElem.1 hg
          exact hne (hFq x g (by omega) (by rw [List.getElem?_eq_getElem (by omega), hxg]) hap)
  · obtain rfl : i = fs.length := by omega
    refine m_run ?_
    (apply TK.retS2; exact rfl; exact rfl; (exact m_val); (exact m_val))
    exact ⟨_, rfl, ⟨0, 0, rfl, .inr ⟨hok, rfl, rfl⟩⟩, rfl⟩
    (repeat (first | exact List.Sublist.refl _ | apply List.Sublist.cons_cons | apply List.Sublist.cons))
end Go.Proofs.YthbcfamfaicneaaGreat.E

/- MY OWN LAYER: append onto a slice that is only read and has no room; x[:n:n]; existential assertions. P is a variable. -/
namespace Go.Proofs.YthbcfamfaicneaaGreat.E
open Go Go.RowKit
theorem Fn.ex {α : Type} {P : Program} {f : FuncId} {args : List Value} {Γ : List HP} {H : α → HP} {R : Ending → List HP → Prop} (h : ∀ x, Fn P f args (H x :: Γ) R) : Fn P f args ((fun m => ∃ x, H x m) :: Γ) R := by
  intro E w hE
  obtain ⟨h1, h2, m1, ⟨a1, b1, hd, rfl, ⟨y, hy⟩, hb⟩, h3⟩ := hE
  exact h y E w ⟨h1, h2, _, ⟨a1, b1, hd, rfl, hy, hb⟩, h3⟩
theorem TK.ex {α : Type} {cx : Cx} {k : List Item} {ρ : Env} {ds : List Deferred} {Γ : List HP} {H : α → HP} (h : ∀ x, TK cx k ρ ds (H x :: Γ)) : TK cx k ρ ds ((fun m => ∃ x, H x m) :: Γ) := by
  intro a w hr hE
  obtain ⟨h1, h2, m1, ⟨a1, b1, hd, rfl, ⟨y, hy⟩, hb⟩, h3⟩ := hE
  exact h y a w hr ⟨h1, h2, _, ⟨a1, b1, hd, rfl, hy, hb⟩, h3⟩
theorem has_sublist {Γ Δ : List HP} {p : Mem → Prop} (hp : Up p) (hs : Γ.Sublist Δ) (h : has Γ p) : has Δ p := fun m hm => by
  obtain ⟨m', h1, h2⟩ := all_sub hs hm
  exact hp m' m h1 (h m' h2)
section
variable {cx : Cx} {ops : Array Oper} {k : Act → World → Prop} {rest : List Oper} {ρ : Env} {ds : List Deferred} {Γ : List HP} {d : Nat} {ty : TypeId} {pos : String} {after : Array Edge}
/-- append onto x[:n:n], with something behind. -/
theorem TL.appendF {t e : TypeId} {x y : Operand} {A B : Option Addr} {n m c z s : Nat} {cs news : List Value} {r r' : TR} (hd : Nat.blt d cx.n = true) (ht : TabOk cx.P t r) (hq : r.und = .slice e) (ht' : TabOk cx.P e r') (hz0 : r'.size = z) (hsz : Nat.blt 0 r'.size = true)
    (hzs : (r'.zero.cells.size == r'.size) = true) (ea : ev ρ x = .slice B n n) (hx : has Γ (srcAt z B n cs)) (eb : ev ρ y = .slice A m c) (hs : has Γ (srcAt z A m news)) (h1 : ∀ u ∈ news, u.oneCell' = true) (hm0 : 0 < m) (hb : (n + m) * r'.bytes ≤ 140737488355328) (h63 : n + m ≤ maxLen) (hnm : n + m = s)
    (h : ∀ A' c', s ≤ c' → TL cx ops k rest ((d, .slice A' s c') :: ρ) ds (own e z (.slice A' s c') s (cs ++ news) :: Γ)) : TL cx ops k (⟨some d, .call ⟨.builtin .append, #[x, y], #[t, t]⟩, ty, pos, after, none⟩ :: rest) ρ ds Γ := by
  subst hz0; subst hnm
  refine .act (X := Option Addr × Nat) (φ := fun p => n + m ≤ p.2) (v := fun p => .slice p.1 (n + m) p.2) (Δ := fun p => own e r'.size (.slice p.1 (n + m) p.2) (n + m) (cs ++ news) :: Γ) hd (fun w hS => ?_) (fun p hp => h p.1 p.2 hp)
  have hu : cx.P.underlying t = some (.slice e) := by rw [← hq]; exact ht.1
  obtain ⟨_, inf, hinf, h2, h3, hz⟩ := id ht'
  have hzs' : r'.zero.cells.size = r'.size := by simpa using hzs
  have hsrc := src_of hS (tx := t) (e' := e) (c := c) hu (by simpa using hsz) hs h1
  have hnl := hsrc.newsLen
  have h63' : ((n + m : Nat) : Int) ≤ 9223372036854775807 := by unfold maxLen at h63; omega
  have hold : (Builtin.firstCells inf.size n (.slice B n n)).run cx.P w.drew = .ok cs.toArray w.drew ∧ cs.length = n * r'.size := by
    obtain ⟨m0, hm0', hw0⟩ := hS.mem
    obtain ⟨hl, hcase⟩ := hx m0 hm0'
    refine ⟨?_, hl⟩
    rcases hcase with rfl | ⟨b, o, rfl, hat⟩
    · have hn0 : n = 0 := by
        have : n * r'.size = 0 := by simpa using hl.symm
        rcases Nat.mul_eq_zero.1 this with h | h
        · exact h
        · have : 0 < r'.size := by simpa using hsz
          omega
      subst hn0
      cases B with
      | none => exact run_firstCells_none w.drew inf.size 0 0 0
      | some a => exact run_firstCells_some w.drew inf.size 0 a 0 0 [] (by simp) (by simp)
    · refine run_firstCells_some w.drew inf.size n _ n n cs (by rw [h2]; exact hl) fun j u hj => ?_
      rw [add_at, World.cell?_drew]
      exact hS.cell (has_imp hx fun m1 hm1 => by
        rcases hm1.2 with h | ⟨b', o', e', h⟩
        · rw [h] at hj; simp at hj
        · injection e' with e'; injection e' with e1 e2 _
          subst e1; subst e2
          exact h j u hj)
  have hcl := hold.2
  have hrun := run_append_grow_src (P := cx.P) w t t ty e inf r'.zero hu hinf hz B n n cs hold.1 (.slice A m c) m news (by rw [h2]; exact hsrc) (by omega) h63' (growslice_fits (by omega) (by rw [h3]; exact hb))
  refine ⟨(some ⟨w.heap.size, 0, none⟩, grownCap w (n + m) n e), _, grownCap_ge w (n + m) n e, ?_, by
    simp only [execOp, resolve, invoke, builtin, List.map_toArray, List.map_cons, List.map_nil, ea, eb, Sem.run_bind, Sem.run_pure, Result.andThen_ok]
    rw [hrun]
    rfl⟩
  refine (hS.drew.alloc _).imp fun m' hm' => ?_
  refine sep_mono hm' (fun q hq => ?_) (fun _ => id)
  refine ⟨by simp [hcl, hnl, Nat.add_mul], .inr ⟨_, _, (cs ++ news) ++ (Builtin.zeroCells r'.zero.cells (grownCap w (n + m) n e - (n + m))).toList, rfl, grownCap_ge w (n + m) n e, grownCap_le_maxLen w _ _ e h63, ?_, ?_, ?_⟩⟩
  · rw [List.length_append, List.length_append, size_zeroCells', hcl, hnl, hzs', ← Nat.add_mul, ← Nat.add_mul]
    congr 1
    have := grownCap_ge w (n + m) n e
    omega
  · have : (n + m) * r'.size = (cs ++ news).length := by simp [hcl, hnl, Nat.add_mul]
    rw [this, List.take_left']
    rfl
  · have e1 : ((cs ++ news) ++ (Builtin.zeroCells r'.zero.cells (grownCap w (n + m) n e - (n + m))).toList).toArray = (cs ++ news).toArray ++ Builtin.zeroCells r'.zero.cells (grownCap w (n + m) n e - (n + m)) := by simp
    show pt _ _ q
    rw [e1]
    exact hq
/-- x[:n:n]. -/
theorem PV.sliceC {P : Program} {S : World → Prop} {t e : TypeId} {x y y' : Operand} {A : Option Addr} {n c : Nat} {q q' : IntKind} {r r' : TR} (ea : ev ρ x = .slice A n c) (ht : TabOk P t r) (hq : r.und = .slice e) (ht' : TabOk P e r') (e1 : ev ρ y = .int q (n : Int)) (e2 : ev ρ y' = .int q' (n : Int)) (hc : n ≤ c) :
    PV P ρ S ⟨some d, .slice t x none (some y) (some y'), ty, pos, after, none⟩ (.slice A n n) := fun w _ => by
  have h3 : (0 : Int) ≤ (n : Int) := by omega
  cases A <;> simp [execOp, Instr.sliceAt, Instr.slice, Instr.sliceBounds, Instr.sliceBound, asIntOf, ea, e1, e2, ht.run_und, hq, ht'.run_size, h3, hc]
  rename_i a
  intro _
  cases a
  simp [Addr.add]
end
end Go.Proofs.YthbcfamfaicneaaGreat.E

/- The document on facts in order: Has, With, Sorted, walked. -/
namespace Go.Proofs.YthbcfamfaicneaaGreat.E
open Go Go.RowKit Go.Proofs
attribute [local irreducible] TK TL TQ TA TB Fn PV
theorem fcsC_one (l : List Fct) : ∀ u ∈ fcsC l, u.oneCell' = true := by
  intro u hu
  obtain ⟨f, _, hf⟩ := List.mem_flatMap.1 hu
  simp only [Fct.cells, List.mem_cons, List.not_mem_nil, or_false] at hf
  rcases hf with rfl | rfl <;> rfl
/-- Facts that lie in memory, to be read. -/
structure Fcs (A : Option Addr) (L : List Fct) (Γ : List HP) : Prop where
  src : has Γ (srcAt 2 A L.length (fcsC L))
  ok : ∀ f ∈ L, f.ok Γ
  few : ∀ f ∈ L, f.l.length ≤ 1000000
theorem Fct.ok_sub {f : Fct} {Γ Δ : List HP} (hs : Γ.Sublist Δ) (h : f.ok Γ) : f.ok Δ := ⟨has_sublist (up_src _ _ _ _) hs h.1, h.2⟩
theorem Fcs.sub {A : Option Addr} {L : List Fct} {Γ Δ : List HP} (hs : Γ.Sublist Δ) (h : Fcs A L Γ) : Fcs A L Δ := ⟨has_sublist (up_src _ _ _ _) hs h.src, fun f hf => Fct.ok_sub hs (h.ok f hf), h.few⟩
theorem Fcs.nil (Γ : List HP) : Fcs none [] Γ := ⟨has_srcnil _ _, fun f hf => (List.not_mem_nil hf).elim, fun f hf => (List.not_mem_nil hf).elim⟩
theorem fct_el {Γ : List HP} {g u n i : Nat} {L : List Fct} {f : Fct} (h : has Γ (srcAt 2 (some ⟨g, u, none⟩) n (fcsC L))) (hi : L[i]? = some f) : has Γ (fun m => cellsAt m g (u + i * 2) f.cells) := has_el (sz := 2) (f := Fct.cells) (fun _ => rfl) (by decide) h hi
set_option maxRecDepth 100000 in
theorem has13_t (A : Option Addr) (c : Nat) (L : List Fct) (f : Fct) (Γ : List HP) (h : Fcs A L Γ) (hf : f.ok Γ) (hn : L.length ≤ 1000000000000) :
    FnV Tryz.prog 14 [.slice A L.length c, .agg f.cells.toArray] Γ fun r Γ' => r = .bool (decide (pf f ∈ L.map pf)) ∧ Γ' = Γ := by
  refine Fn.enter Tryz.func14 rfl rfl rfl fun E => ?_
  refine m_run ?_
  (apply TL.box; exact rfl; exact rfl; exact (rfl : _ = [_, _]))
  intro b3
  refine TL.imp (Δ := row b3 [.int .u32 (f.p : Int), .slice f.A f.l.length f.c] 40 :: Γ) (fun _ h => h) ?_
  refine m_run ?_
  apply TK.iter (fun j ρ' Γ' => ∃ i : Nat, i + j = L.length ∧ pf f ∉ (L.take i).map pf ∧ lk ρ' 0 = .slice A L.length c ∧ lk ρ' 3 = .pointer (some ⟨b3, 0, none⟩) ∧ lk ρ' 5 = .int .i64 (i : Int) ∧ Γ' = row b3 [.int .u32 (f.p : Int), .slice f.A f.l.length f.c] 40 :: Γ) L.length
  · exact ⟨0, Nat.zero_add _, by simp, rfl, rfl, rfl, rfl⟩
  rintro j IH ρ' _ ⟨i, hij, hno, e0, e3, e5, rfl⟩
  refine TK.know3 e0 e3 e5 ?_
  by_cases hi : i < L.length
  · obtain ⟨x, hx⟩ : ∃ x, L[i]? = some x := ⟨L[i], List.getElem?_eq_getElem hi⟩
    have hxm := List.mem_of_getElem? hx
    have hs := h.src
    refine TK.mem fun m0 hm0 => ?_
    obtain ⟨g, u, rfl⟩ := src_some ((has_tls hs : has (_ :: Γ) _) m0 hm0) (by rw [fcsC_len]; omega)
    clear hm0 m0
    have hcx : has Γ (fun m => cellsAt m g (u + i * 2) [.int .u32 (x.p : Int), .slice x.A x.l.length x.c]) := fct_el hs hx
    have hb3 : has (row b3 [.int .u32 (f.p : Int), .slice f.A f.l.length f.c] 40 :: Γ) (fun m => cellsAt m b3 0 [.int .u32 (f.p : Int), .slice f.A f.l.length f.c]) := has_rows 0 rfl rfl
    refine m_run ?_
    refine TK.drawS mixed rfl ?_
    refine m_take (At.mk : At 0) ?_; refine m_take (At.mk : At 1) ?_; refine m_take (At.mk : At 2) ?_; refine m_take (At.mk : At 3) ?_; refine m_take (At.mk : At 4) ?_
    (apply TA.one 5; kernel_rfl; exact rfl)
    (apply TL.callV; exact rfl; exact callB_of (by kernel_rfl); exact rfl; exact fun _ h => h)
    exact rcompare_t x f _ (Fct.ok_tl (h.ok x hxm)) (Fct.ok_tl hf) (h.few x hxm)
    rintro _ _ ⟨rfl, rfl⟩
    refine TL.back (by (focus ((repeat (first | assumption | exact Ent.refl _ | apply Ent.tail)); done))) ?_
    refine m_take (At.mk : At 6) ?_
    refine TA.done (by kernel_rfl) ?_
    have htk : (L.take (i + 1)).map pf = (L.take i).map pf ++ [pf x] := by rw [List.take_add_one, hx]; simp
    have hz : cmpF x f = 0 ↔ pf x = pf f := by rw [cmp_pf]; exact cmpP_zero
    by_cases hc : cmpF x f = 0
    · refine m_run ?_
      (apply TK.retS1; exact rfl; exact rfl; (exact m_val))
      · exact ⟨_, rfl, congrArg Value.bool (decide_eq_true (by rw [← hz.1 hc]; exact List.mem_map_of_mem hxm)).symm, rfl⟩
      · (repeat (first | exact List.Sublist.refl _ | apply List.Sublist.cons_cons | apply List.Sublist.cons))
    · refine m_run ?_
      refine IH (j - 1) _ _ (by omega) ⟨i + 1, by omega, ?_, rfl, rfl, congrArg (Value.int .i64) (i64_succ i (by omega)), rfl⟩
      rw [htk]
      intro hm
      rcases List.mem_append.1 hm with h1 | h1
      · exact hno h1
      · exact hc (hz.2 (List.mem_singleton.1 h1).symm)
  obtain rfl : i = L.length := by omega
  rw [List.take_length] at hno
  refine m_run ?_
  (apply TK.retS1; exact rfl; exact rfl; (exact m_val))
  · exact ⟨_, rfl, congrArg Value.bool (decide_eq_false hno).symm, rfl⟩
  · (repeat (first | exact List.Sublist.refl _ | apply List.Sublist.cons_cons | apply List.Sublist.cons))
theorem flat_put {α : Type} {f : α → List Value} {sz : Nat} (hf : ∀ a, (f a).length = sz) (y : α) : ∀ (l : List α) (j : Nat), j < l.length → (l.flatMap f).take (j * sz) ++ f y ++ (l.flatMap f).drop (j * sz + sz) = (l.set j y).flatMap f
  | [], j, h => by simp at h
  | a :: l, 0, _ => by
    simp only [List.flatMap_cons, Nat.zero_mul, List.take_zero, List.nil_append, Nat.zero_add, List.set_cons_zero]
    rw [List.drop_append, List.drop_of_length_le (by rw [hf]; exact Nat.le_refl _), hf, Nat.sub_self, List.drop_zero, List.nil_append]
  | a :: l, j + 1, h => by
    simp only [List.length_cons] at h
    simp only [List.flatMap_cons, List.set_cons_succ]
    rw [← flat_put hf y l j (by omega), List.take_append, List.drop_append, hf, List.take_of_length_le (by rw [hf, Nat.succ_mul]; omega), List.drop_of_length_le (by rw [hf, Nat.succ_mul]; omega), show (j + 1) * sz - sz = j * sz by rw [Nat.succ_mul]; omega, show (j + 1) * sz + sz - sz = j * sz + sz by rw [Nat.succ_mul]; omega, List.nil_append, List.append_assoc, List.append_assoc, List.append_assoc]
theorem perm_in3 {α : Type} (a b c : α) (X Γ : List α) : (a :: b :: c :: (X ++ Γ)).Perm (X ++ (a :: b :: c :: Γ)) := by
  have := List.perm_append_comm_assoc [a, b, c] X Γ
  simpa using this
/-- What With gives. -/
def WithIs (Γ : List HP) (P : List PF) (n : Nat) (v : Value) (Γ' : List HP) : Prop := ∃ (R : List Fct) (A : Option Addr) (c : Nat), v = .slice A R.length c ∧ Fcs A R Γ' ∧ Γ.Sublist Γ' ∧ Srt (R.map pf) ∧ (∀ x, x ∈ R.map pf ↔ x ∈ P) ∧ R.length ≤ n
set_option maxRecDepth 100000 in
set_option maxHeartbeats 4000000 in
theorem with13_t (X : List HP) (A : Option Addr) (c : Nat) (L : List Fct) (f : Fct) (Γ : List HP) (hL0 : Fcs A L Γ) (hf0 : f.ok Γ) (hfl : f.l.length ≤ 1000000) (hn : L.length ≤ 500000000000) (hS : Srt (L.map pf)) :
    FnV Tryz.prog 100 [.slice A L.length c, .agg f.cells.toArray] (X ++ Γ) fun v Γ' => ∃ Γ2, Γ' = X ++ Γ2 ∧ WithIs Γ (L.map pf ++ [pf f]) (L.length + 1) v Γ2 := by
  refine Fn.enter Tryz.func100 rfl rfl rfl fun E => ?_
  have h : Fcs A L (X ++ Γ) := hL0.sub (List.sublist_append_right _ _)
  have hf : f.ok (X ++ Γ) := Fct.ok_sub (List.sublist_append_right _ _) hf0
  refine m_run ?_
  (apply TL.box; exact rfl; exact rfl; exact (rfl : _ = [_, _]))
  intro b3
  refine TL.imp (Δ := row b3 [.int .u32 (f.p : Int), .slice f.A f.l.length f.c] 40 :: (X ++ Γ)) (fun _ h => h) ?_
  have hb3 : has (row b3 [.int .u32 (f.p : Int), .slice f.A f.l.length f.c] 40 :: (X ++ Γ)) (fun m => cellsAt m b3 0 [.int .u32 (f.p : Int), .slice f.A f.l.length f.c]) := has_rows 0 rfl rfl
  have h1 : Fcs A L (row b3 [.int .u32 (f.p : Int), .slice f.A f.l.length f.c] 40 :: (X ++ Γ)) := h.sub (.cons _ (.refl _))
  have hf1 : f.ok (row b3 [.int .u32 (f.p : Int), .slice f.A f.l.length f.c] 40 :: (X ++ Γ)) := Fct.ok_tl hf
  generalize hG : row b3 [.int .u32 (f.p : Int), .slice f.A f.l.length f.c] 40 :: (X ++ Γ) = Γ1 at *
  clear h hf
  refine m_run ?_
  (apply TL.callV; exact rfl; exact callB_of (by kernel_rfl); exact rfl; exact fun _ h => h)
  exact has13_t A c L f _ h1 hf1 (by omega)
  rintro _ Γ1 ⟨rfl, rfl⟩
  by_cases hin : pf f ∈ L.map pf
  · refine m_run ?_
    refine TK.sub (Δ := X ++ Γ) (by rw [← hG]; exact .cons _ (.refl _)) ?_
    (apply TK.ret1; exact rfl; exact rfl; (exact m_val))
    refine ⟨_, rfl, Γ, rfl, L, A, c, rfl, hL0, .refl _, hS, fun x => ?_, Nat.le_succ _⟩
    rw [List.mem_append]
    exact ⟨.inl, fun h => h.elim id fun h => by rw [List.mem_singleton.1 h]; exact hin⟩
  refine m_run ?_
  refine TK.free (H := own 40 2 (.slice none 0 0) 0 []) (fun m hm => own_nil _ _ hm) ?_
  refine TK.drawE mixed rfl Γ1 ?_
  refine m_take (At.mk : At 0) ?_; refine m_take (At.mk : At 1) ?_; refine m_take (At.mk : At 3) ?_
  refine TA.twoJ 2 4 (fun ρ' Γ' => ∃ (B : Option Addr) (k b17 : Nat), L.length ≤ k ∧ lk ρ' 3 = .pointer (some ⟨b3, 0, none⟩) ∧ lk ρ' 5 = .int .i64 (L.length : Int) ∧ lk ρ' 15 = .slice B L.length k ∧ lk ρ' 17 = .slice (some ⟨b17, 0, none⟩) 1 1 ∧ Γ' = own 40 2 (.slice B L.length k) L.length (fcsC L) :: row b17 (fcsC [f]) 40 :: Γ1) (by kernel_rfl) rfl rfl rfl ?_ ?_ ?_
  · intro tail
    (apply TL.append 0 (n := 0) (m := L.length) (cs := []) (news := fcsC L); exact rfl; exact rfl; exact tb rfl; exact rfl; exact tb rfl; exact rfl; exact rfl; exact rfl)
    · exact fun _ h => h
    · exact rfl
    · exact has_tls h1.src
    · exact fcsC_one _
    · show (0 + L.length) * 32 ≤ _; omega
    · show 0 + L.length ≤ maxLen; unfold maxLen; omega
    · exact fun _ => (rfl : _ = _ :: _)
    intro B15 k15 hk15
    simp only [Nat.zero_add, List.nil_append] at hk15 ⊢
    refine TL.back (by (focus ((repeat (first | assumption | exact Ent.refl _ | apply Ent.tail)); done))) ?_
    (apply TA.one 4; kernel_rfl; exact rfl)
    (apply TL.buildSlice (l := fcsC [f]); exact rfl; exact tb rfl; exact rfl; exact tb rfl; exact rfl; exact rfl; exact rfl; exact rfl; exact rfl)
    intro b17
    refine TL.back (by (focus ((repeat (first | assumption | exact Ent.refl _ | apply Ent.tail)); done))) ?_
    refine TA.perm (.swap _ _ _) ?_
    refine TA.eqL ?_ (tail _ _ ⟨B15, k15, b17, hk15, rfl, rfl, rfl, rfl, rfl⟩)
    kernel_rfl
  · intro tail
    (apply TL.buildSlice (l := fcsC [f]); exact rfl; exact tb rfl; exact rfl; exact tb rfl; exact rfl; exact rfl; exact rfl; exact rfl; exact rfl)
    intro b17
    refine TL.back (by (focus ((repeat (first | assumption | exact Ent.refl _ | apply Ent.tail)); done))) ?_
    (apply TA.one 2; kernel_rfl; exact rfl)
    (apply TL.append 1 (n := 0) (m := L.length) (cs := []) (news := fcsC L); exact rfl; exact rfl; exact tb rfl; exact rfl; exact tb rfl; exact rfl; exact rfl; exact rfl)
    · exact fun _ h => h
    · exact rfl
    · exact has_tls (has_tls h1.src)
    · exact fcsC_one _
    · show (0 + L.length) * 32 ≤ _; omega
    · show 0 + L.length ≤ maxLen; unfold maxLen; omega
    · exact fun _ => (rfl : _ = _ :: _ :: _)
    intro B15 k15 hk15
    simp only [Nat.zero_add, List.nil_append] at hk15 ⊢
    refine TL.back (by (focus ((repeat (first | assumption | exact Ent.refl _ | apply Ent.tail)); done))) ?_
    refine TA.perm (.swap _ _ _) ?_
    refine TA.eqL ?_ (tail _ _ ⟨B15, k15, b17, hk15, rfl, rfl, rfl, rfl, rfl⟩)
    kernel_rfl
  rintro ρ3 _ ⟨B15, k15, b17, hk15, q3, q5, q15, q17, rfl⟩
  refine TA.know (t := 3) (v := .pointer (some ⟨b3, 0, none⟩)) q3 ?_
  refine TA.know (t := 5) (v := .int .i64 (L.length : Int)) q5 ?_
  refine TA.know (t := 15) (v := .slice B15 L.length k15) q15 ?_
  refine TA.know (t := 17) (v := .slice (some ⟨b17, 0, none⟩) 1 1) q17 ?_
  (apply TA.one 5; kernel_rfl; exact rfl)
  (apply TL.append 0 (n := L.length) (m := 1) (cs := fcsC L) (news := fcsC [f]); exact rfl; exact rfl; exact tb rfl; exact rfl; exact tb rfl; exact rfl; exact rfl; exact rfl)
  · exact fun _ h => h
  · exact rfl
  · exact has_src_row 1 rfl rfl
  · exact fcsC_one _
  · show (L.length + 1) * 32 ≤ _; omega
  · show L.length + 1 ≤ maxLen; unfold maxLen; omega
  · exact fun _ => (rfl : _ = _ :: _)
  intro B6 k6 hk6
  rw [show fcsC L ++ fcsC [f] = fcsC (L ++ [f]) by simp]
  refine TL.back (by (focus ((repeat (first | assumption | exact Ent.refl _ | apply Ent.tail)); done))) ?_
  refine m_take (At.mk : At 6) ?_
  refine TA.done (by kernel_rfl) ?_
  refine TK.mem fun m0 hm0 => ?_
  obtain ⟨g, rfl⟩ := own_addr hm0 (by omega)
  clear hm0 m0
  have hlt : ∀ x ∈ L, pf x ≠ pf f := fun x hx e => hin (by rw [← e]; exact List.mem_map_of_mem hx)
  refine m_run ?_
  apply TK.iter (fun j ρ' Γ' => ∃ M : List Fct, j ≤ L.length ∧ M.length = L.length + 1 ∧ M.take j = L.take j ∧ M.drop (j + 1) = L.drop j ∧ (∀ x ∈ L.drop j, ltP (pf f) (pf x)) ∧ lk ρ' 3 = .pointer (some ⟨b3, 0, none⟩) ∧ lk ρ' 5 = .int .i64 (j : Int) ∧ lk ρ' 6 = .slice (some ⟨g, 0, none⟩) (L.length + 1) k6 ∧ Γ' = own 40 2 (.slice (some ⟨g, 0, none⟩) (L.length + 1) k6) (L.length + 1) (fcsC M) :: row b17 (fcsC [f]) 40 :: Γ1) L.length
  · exact ⟨L ++ [f], Nat.le_refl _, by simp, by simp, by simp, by simp, rfl, rfl, rfl, rfl⟩
  rintro at_ IH ρ' _ ⟨M, hat, hMl, htk, hdr, hgt, e3, e5, e6, rfl⟩
  refine TK.know3 e3 e5 e6 ?_
  have hfin : (∀ x, (L.take at_).getLast? = some x → ltP (pf x) (pf f)) → ∃ R : List Fct, R = L.take at_ ++ f :: L.drop at_ ∧ M.set at_ f = R ∧ Srt (R.map pf) ∧ (∀ x, x ∈ R.map pf ↔ x ∈ L.map pf ++ [pf f]) ∧ R.length = L.length + 1 ∧ ∀ x ∈ R, x ∈ L ∨ x = f := by
    intro hlast
    refine ⟨_, rfl, ?_, ?_, fun x => ?_, ?_, fun x hx => ?_⟩
    · rw [List.set_eq_take_append_cons_drop, if_pos (by omega), htk, hdr]
    · rw [List.map_append, List.map_cons]
      refine Srt.put (by rw [← List.map_append, List.take_append_drop]; exact hS) (fun x hx => ?_) (fun x hx => ?_)
      · rw [List.getLast?_map] at hx
        obtain ⟨y, hy, rfl⟩ := Option.map_eq_some_iff.1 hx
        exact hlast y hy
      · obtain ⟨y, hy, rfl⟩ := List.mem_map.1 hx
        exact hgt y hy
    · have hh : ∀ y, y ∈ L ↔ y ∈ L.take at_ ∨ y ∈ L.drop at_ := fun y => by rw [← List.mem_append, List.take_append_drop]
      simp only [List.mem_map, List.mem_append, List.mem_cons, List.not_mem_nil, or_false, hh]
      constructor
      · rintro ⟨a, h | rfl | h, rfl⟩
        · exact .inl ⟨a, .inl h, rfl⟩
        · exact .inr rfl
        · exact .inl ⟨a, .inr h, rfl⟩
      · rintro (⟨a, h | h, rfl⟩ | rfl)
        · exact ⟨a, .inl h, rfl⟩
        · exact ⟨a, .inr (.inr h), rfl⟩
        · exact ⟨f, .inr (.inl rfl), rfl⟩
    · rw [List.length_append, List.length_cons, List.length_take, List.length_drop]; omega
    · rcases List.mem_append.1 hx with h | h
      · exact .inl (List.mem_of_mem_take h)
      · rcases List.mem_cons.1 h with h | h
        · exact .inr h
        · exact .inl (List.mem_of_mem_drop h)
  by_cases h0 : 0 < at_
  · obtain ⟨x, hx⟩ : ∃ x, L[at_ - 1]? = some x := ⟨L[at_ - 1]'(by omega), List.getElem?_eq_getElem _⟩
    have hMx : M[at_ - 1]? = some x := by
      have := congrArg (fun l => l[at_ - 1]?) htk
      simp only [List.getElem?_take, if_pos (show at_ - 1 < at_ by omega)] at this
      rw [this, hx]
    have hxm := List.mem_of_getElem? hx
    have hcx : has (own 40 2 (.slice (some ⟨g, 0, none⟩) (L.length + 1) k6) (L.length + 1) (fcsC M) :: row b17 (fcsC [f]) 40 :: Γ1) (fun m => cellsAt m g ((at_ - 1) * 2) [.int .u32 (x.p : Int), .slice x.A x.l.length x.c]) := by
      have := fct_el (has_at (Γ := own 40 2 (.slice (some ⟨g, 0, none⟩) (L.length + 1) k6) (L.length + 1) (fcsC M) :: row b17 (fcsC [f]) 40 :: Γ1) (up_src _ _ _ _) 0 rfl fun _ h => own_src h) hMx
      rw [Nat.zero_add] at this
      exact this
    refine m_run ?_
    refine TK.drawS mixed rfl ?_
    refine m_take (At.mk : At 0) ?_; refine m_take (At.mk : At 1) ?_; refine m_take (At.mk : At 2) ?_
    refine TA.isT 21 rfl (decide_eq_true (by omega)) ?_
    refine m_take (At.mk : At 3) ?_; refine m_take (At.mk : At 4) ?_; refine m_take (At.mk : At 5) ?_
    refine TA.know (t := 24) (v := .int .i64 ((at_ - 1 : Nat) : Int)) (congrArg (Value.int .i64) (by rw [i64_in (by omega) (by omega)]; omega)) ?_
    refine m_take (At.mk : At 6) ?_; refine m_take (At.mk : At 7) ?_; refine m_take (At.mk : At 8) ?_
    (apply TA.one 9; kernel_rfl; exact rfl)
    refine m_rrun ?_
    (apply TL.callV; exact rfl; exact callB_of (by kernel_rfl); exact rfl; exact fun _ h => h)
    exact rcompare_t x f _ (Fct.ok_tl (Fct.ok_tl (h1.ok x hxm))) (Fct.ok_tl (Fct.ok_tl hf1)) (h1.few x hxm)
    rintro _ _ ⟨rfl, rfl⟩
    refine TL.back (by (focus ((repeat (first | assumption | exact Ent.refl _ | apply Ent.tail)); done))) ?_
    refine m_take (At.mk : At 10) ?_
    have hz : cmpF x f = 0 ↔ pf x = pf f := by rw [cmp_pf]; exact cmpP_zero
    by_cases hc : 0 < cmpF x f
    · refine m_take (At.mk : At 11) ?_
      refine TA.done (by kernel_rfl) ?_
      refine m_run ?_
      refine TL.know (t := 35) (v := .int .i64 ((at_ - 1 : Nat) : Int)) (congrArg (Value.int .i64) (by rw [i64_in (by omega) (by omega)]; omega)) ?_
      refine m_run ?_
      (apply TL.storeOwnA 0 at_ (vs := x.cells) (cs' := fcsC (M.set at_ x)); exact rfl; exact rfl; exact rfl; exact rfl; exact tb rfl; exact rfl; exact rfl; exact rfl; exact (by omega); exact flat_put (f := Fct.cells) (fun _ => rfl) x M at_ (by omega); exact rfl)
      refine m_run ?_
      have hdr1 : L.drop (at_ - 1) = x :: L.drop at_ := by
        obtain ⟨h2, h3⟩ := List.getElem?_eq_some_iff.1 hx
        rw [List.drop_eq_getElem_cons h2, h3, show at_ - 1 + 1 = at_ by omega]
      refine IH (at_ - 1) _ _ (by omega) ⟨M.set at_ x, by omega, by simp [hMl], ?_, ?_, ?_, rfl, congrArg (Value.int .i64) (by rw [i64_in (by omega) (by omega)]; omega), rfl, rfl⟩
      · rw [List.take_set_of_le (by omega)]
        have := congrArg (List.take (at_ - 1)) htk
        rwa [List.take_take, List.take_take, Nat.min_eq_left (by omega)] at this
      · rw [show at_ - 1 + 1 = at_ by omega, hdr1, List.drop_set, if_neg (by omega), Nat.sub_self, List.drop_eq_getElem_cons (by omega), List.set_cons_zero, hdr]
      · rw [hdr1]
        intro y hy
        rcases List.mem_cons.1 hy with rfl | hy
        · have := cmpP_anti (pf y) (pf f)
          rw [cmp_pf] at hc
          unfold ltP
          omega
        · exact hgt y hy
    · obtain ⟨R, hR, hMR, hSR, hmR, hRl, hRm⟩ := hfin (fun y hy => by
        have h2 : (L.take at_).getLast? = some x := by
          rw [List.getLast?_eq_getElem?, List.length_take, Nat.min_eq_left (by omega), List.getElem?_take, if_pos (by omega), hx]
        rw [h2] at hy; injection hy with hy; subst hy
        have h3 : cmpF x f ≠ 0 := fun e => hlt x hxm (hz.1 e)
        rw [cmp_pf] at hc h3
        unfold ltP; omega)
      refine m_take (At.mk : At 11) ?_
      refine TA.done (by kernel_rfl) ?_
      refine m_run ?_
      (apply TL.storeOwnA 0 at_ (vs := f.cells) (cs' := fcsC R); exact rfl; exact rfl; exact rfl; exact rfl; exact tb rfl; exact rfl; exact rfl; exact rfl; exact (by omega); exact (by rw [← hMR]; exact flat_put (f := Fct.cells) (fun _ => rfl) f M at_ (by omega)); exact rfl)
      refine m_run ?_
      refine TK.perm (Δ := X ++ (own 40 2 (.slice (some ⟨g, 0, none⟩) (L.length + 1) k6) (L.length + 1) (fcsC R) :: row b17 (fcsC [f]) 40 :: row b3 [.int .u32 (f.p : Int), .slice f.A f.l.length f.c] 40 :: Γ)) (by rw [← hG]; exact perm_in3 _ _ _ _ _) ?_
      (apply TK.ret1; exact rfl; exact rfl; (exact m_val))
      refine ⟨_, rfl, _, rfl, R, some ⟨g, 0, none⟩, k6, by rw [hRl], ⟨by rw [hRl]; exact has_at (up_src _ _ _ _) 0 rfl fun _ h => own_src h, fun y hy => ?_, fun y hy => ?_⟩, .cons _ (.cons _ (.cons _ (.refl _))), hSR, hmR, by rw [hRl]; exact Nat.le_refl _⟩
      · rcases hRm y hy with h | rfl
        · exact Fct.ok_tl (Fct.ok_tl (Fct.ok_tl (hL0.ok y h)))
        · exact Fct.ok_tl (Fct.ok_tl (Fct.ok_tl hf0))
      · rcases hRm y hy with h | rfl
        · exact hL0.few y h
        · exact hfl
  · obtain rfl : at_ = 0 := by omega
    obtain ⟨R, hR, hMR, hSR, hmR, hRl, hRm⟩ := hfin (fun y hy => by simp at hy)
    · refine m_run ?_
      refine TK.drawS mixed rfl ?_
      refine m_take (At.mk : At 0) ?_; refine m_take (At.mk : At 1) ?_; refine m_take (At.mk : At 2) ?_; refine m_take (At.mk : At 3) ?_; refine m_take (At.mk : At 4) ?_; refine m_take (At.mk : At 5) ?_; refine m_take (At.mk : At 6) ?_; refine m_take (At.mk : At 7) ?_; refine m_take (At.mk : At 8) ?_; refine m_take (At.mk : At 9) ?_; refine m_take (At.mk : At 10) ?_; refine m_take (At.mk : At 11) ?_
      refine TA.done (by kernel_rfl) ?_
      refine m_run ?_
      (apply TL.storeOwnA 0 0 (vs := f.cells) (cs' := fcsC R); exact rfl; exact rfl; exact rfl; exact rfl; exact tb rfl; exact rfl; exact rfl; exact rfl; exact (by omega); exact (by rw [← hMR]; exact flat_put (f := Fct.cells) (fun _ => rfl) f M 0 (by omega)); exact rfl)
      refine m_run ?_
      refine TK.perm (Δ := X ++ (own 40 2 (.slice (some ⟨g, 0, none⟩) (L.length + 1) k6) (L.length + 1) (fcsC R) :: row b17 (fcsC [f]) 40 :: row b3 [.int .u32 (f.p : Int), .slice f.A f.l.length f.c] 40 :: Γ)) (by rw [← hG]; exact perm_in3 _ _ _ _ _) ?_
      (apply TK.ret1; exact rfl; exact rfl; (exact m_val))
      refine ⟨_, rfl, _, rfl, R, some ⟨g, 0, none⟩, k6, by rw [hRl], ⟨by rw [hRl]; exact has_at (up_src _ _ _ _) 0 rfl fun _ h => own_src h, fun y hy => ?_, fun y hy => ?_⟩, .cons _ (.cons _ (.cons _ (.refl _))), hSR, hmR, by rw [hRl]; exact Nat.le_refl _⟩
      · rcases hRm y hy with h | rfl
        · exact Fct.ok_tl (Fct.ok_tl (Fct.ok_tl (hL0.ok y h)))
        · exact Fct.ok_tl (Fct.ok_tl (Fct.ok_tl hf0))
      · rcases hRm y hy with h | rfl
        · exact hL0.few y h
        · exact hfl
end Go.Proofs.YthbcfamfaicneaaGreat.E

/- The document on facts in order and on choices: Sorted, meet, Fact, walked. -/
namespace Go.Proofs.YthbcfamfaicneaaGreat.E
open Go Go.RowKit Go.Proofs
attribute [local irreducible] TK TL TQ TA TB Fn PV
set_option maxRecDepth 100000 in
set_option maxHeartbeats 4000000 in
theorem sorted13_t (A : Option Addr) (c : Nat) (F : List Fct) (Γ : List HP) (h : Fcs A F Γ) (hn : F.length ≤ 100000000000) :
    FnV Tryz.prog 51 [.slice A F.length c] Γ fun v Γ' => WithIs Γ (F.map pf) F.length v Γ' := by
  refine Fn.enter Tryz.func51 rfl rfl rfl fun E => ?_
  refine m_run ?_
  apply TK.iter (fun j ρ' Γ' => ∃ (i : Nat) (R : List Fct) (B : Option Addr) (k : Nat), i + j = F.length ∧ Fcs B R Γ' ∧ Γ.Sublist Γ' ∧ Srt (R.map pf) ∧ (∀ x, x ∈ R.map pf ↔ x ∈ (F.take i).map pf) ∧ R.length ≤ i ∧ lk ρ' 0 = .slice A F.length c ∧ lk ρ' 3 = .slice B R.length k ∧ lk ρ' 4 = .int .i64 (i : Int)) F.length
  · exact ⟨0, [], none, 0, Nat.zero_add _, Fcs.nil _, .refl _, List.Pairwise.nil, fun x => Iff.rfl, Nat.le_refl _, rfl, rfl, rfl⟩
  rintro j IH ρ' Γ1 ⟨i, R, B, k, hij, hR, hsub, hS, hm, hl, e0, e3, e4⟩
  refine TK.know3 e0 e3 e4 ?_
  by_cases hi : i < F.length
  · obtain ⟨x, hx⟩ : ∃ x, F[i]? = some x := ⟨F[i], List.getElem?_eq_getElem hi⟩
    have hxm := List.mem_of_getElem? hx
    have h1 := h.sub hsub
    have hs1 := h1.src
    refine TK.mem fun m0 hm0 => ?_
    obtain ⟨g, u, rfl⟩ := src_some (hs1 m0 hm0) (by rw [fcsC_len]; omega)
    clear hm0 m0
    have hcx : has Γ1 (fun m => cellsAt m g (u + i * 2) [.int .u32 (x.p : Int), .slice x.A x.l.length x.c]) := fct_el hs1 hx
    refine m_run ?_
    (apply TL.callV; exact rfl; exact callB_of (by kernel_rfl); exact rfl; exact fun _ h => h)
    exact with13_t [] B k R x _ hR (h1.ok x hxm) (h.few x hxm) (by omega) hS
    rintro v _ ⟨Γ2, rfl, R2, B2, k2, rfl, hR2, hsub2, hS2, hm2, hl2⟩
    refine m_run ?_
    refine IH (j - 1) _ _ (by omega) ⟨i + 1, R2, B2, k2, by omega, hR2, hsub.trans hsub2, hS2, fun y => ?_, by omega, rfl, rfl, congrArg (Value.int .i64) (i64_succ i (by omega))⟩
    rw [hm2, List.take_add_one, hx, List.mem_append, hm]
    simp
  obtain rfl : i = F.length := by omega
  rw [List.take_length] at hm
  refine m_run ?_
  (apply TK.ret1; exact rfl; exact rfl; (exact m_val))
  exact ⟨_, rfl, R, B, k, rfl, hR, hsub, hS, hm, hl⟩
/-! ### choices -/
def chC (c : Ch) : List Value := u32s c.1 ++ c.2.map Value.bool
theorem chC_len {c : Ch} (h : chOk c) : (chC c).length = 32 := by simp [chC, u32s_len, h.1, h.2]
theorem chC_n {c : Ch} (h : chOk c) {v : Nat} (hv : v < 16) : (chC c)[v]? = some (.int .u32 (c.1.getD v 0 : Nat)) := by
  unfold chC
  rw [List.getElem?_append_left (by rw [u32s_len, h.1]; exact hv), u32s, List.getElem?_map, List.getElem?_eq_getElem (by rw [h.1]; exact hv), List.getD_eq_getElem?_getD, List.getElem?_eq_getElem (by rw [h.1]; exact hv)]
  rfl
theorem chC_i {c : Ch} (h : chOk c) {v : Nat} (hv : v < 16) : (chC c)[16 + v]? = some (.bool (c.2.getD v false)) := by
  unfold chC
  rw [List.getElem?_append_right (by rw [u32s_len, h.1]; omega), u32s_len, h.1, Nat.add_sub_cancel_left, List.getElem?_map, List.getElem?_eq_getElem (by rw [h.2]; exact hv), List.getD_eq_getElem?_getD, List.getElem?_eq_getElem (by rw [h.2]; exact hv)]
  rfl
theorem chC_set {c : Ch} (h : chOk c) {v n : Nat} (hv : v < 16) : ((chC c).set (16 + v) (.bool true)).set v (.int .u32 (n : Int)) = chC (c.1.set v n, c.2.set v true) := by
  unfold chC
  rw [List.set_append_right _ _ (by rw [u32s_len, h.1]; omega), u32s_len, h.1, Nat.add_sub_cancel_left, List.set_append_left _ _ (by rw [u32s_len, h.1]; exact hv), ← List.map_set]
  congr 1
  simp [u32s, List.map_set]
set_option maxRecDepth 100000 in
set_option maxHeartbeats 4000000 in
theorem fact13_t (c : Ch) (a : Atm) (Γ : List HP) (hc : chOk c) (ha : a.ok Γ) (hn : a.l.length ≤ 1000000) (hs : ∀ t ∈ a.l, t.v = true → t.n < 16) :
    FnV Tryz.prog 170 [.agg (chC c).toArray, .agg a.cells.toArray] Γ fun v Γ' => ∃ (f : Fct) (Γ1 : List HP), v = .agg f.cells.toArray ∧ Γ' = own 23 1 (.slice f.A f.l.length f.c) f.l.length (u32s f.l) :: Γ1 ∧ f.l.length ≤ f.c ∧ Γ.Sublist Γ1 ∧ pf f = instF c (a.p, a.l) := by
  refine Fn.enter Tryz.func170 rfl rfl rfl fun E => ?_
  refine m_run ?_
  (apply TL.box (l := chC c); exact rfl; exact rfl; exact rfl)
  intro b2
  refine m_run ?_
  (apply TL.box; exact rfl; exact rfl; exact (rfl : _ = [_, _]))
  intro b3
  refine m_run ?_
  (apply TL.alloc; exact rfl; exact tb rfl; (exact m_lst))
  intro b4
  refine m_run ?_
  (apply TL.pv; exact rfl; (apply PV.build tabs; exact rfl; exact rfl; exact rfl; exact rfl; exact rfl; exact (rfl : _ = ([.int .u32 (a.p : Int), .slice none 0 0] : List Value))))
  (apply TL.alloc; exact rfl; exact tb rfl; (exact m_lst))
  intro b5
  refine m_run ?_
  refine TK.free (H := own 23 1 (.slice none 0 0) 0 []) (fun m hm => own_nil _ _ hm) ?_
  obtain ⟨ap, aA, ac, al⟩ := a
  apply TK.iter (fun j ρ' Γ' => ∃ (i : Nat) (B : Option Addr) (k : Nat) (Γ1 : List HP), i + j = al.length ∧ i ≤ k ∧ Γ.Sublist Γ1 ∧ lk ρ' 2 = .pointer (some ⟨b2, 0, none⟩) ∧ lk ρ' 3 = .pointer (some ⟨b3, 0, none⟩) ∧ lk ρ' 4 = .pointer (some ⟨b4, 0, none⟩) ∧ lk ρ' 5 = .pointer (some ⟨b5, 0, none⟩) ∧ lk ρ' 6 = .int .i64 (i : Int) ∧ Γ' = own 23 1 (.slice B i k) i (u32s ((al.take i).map (tmS (chS c)))) :: row b5 [.int .u32 (ap : Int), .slice B i k] 40 :: row b4 [.int .u32 0, .slice none 0 0] 40 :: row b3 [.int .u32 (ap : Int), .slice aA al.length ac] 30 :: row b2 (chC c) 181 :: Γ1) al.length
  · exact ⟨0, none, 0, Γ, Nat.zero_add _, Nat.le_refl _, .refl _, rfl, rfl, rfl, rfl, rfl, rfl⟩
  have ha1 : has Γ (srcAt 2 aA al.length (tmsC al)) := ha.1
  replace hn : al.length ≤ 1000000 := hn
  replace hs : ∀ t ∈ al, t.v = true → t.n < 16 := hs
  clear ha
  rintro j IH ρ' _ ⟨i, B, k, Γ1, hij, hk, hsub, e2, e3, e4, e5, e6, rfl⟩
  refine TK.know5 e2 e3 e4 e5 e6 ?_
  by_cases hi : i < al.length
  · obtain ⟨⟨tv, tn⟩, ht⟩ : ∃ t, al[i]? = some t := ⟨al[i], List.getElem?_eq_getElem hi⟩
    have htm := List.mem_of_getElem? ht
    have hA := has_sublist (up_src _ _ _ _) hsub ha1
    refine TK.mem fun m0 hm0 => ?_
    obtain ⟨g, u, rfl⟩ := src_some ((has_tls (has_tls (has_tls (has_tls (has_tls hA)))) : has (_ :: _ :: _ :: _ :: _ :: Γ1) _) m0 hm0) (by rw [tmsC_len]; omega)
    clear hm0 m0
    have hel := has_el (sz := 2) (f := tmC) (fun _ => rfl) (by decide) hA ht
    have hc0 : has Γ1 (fun m => cellAt m g (u + i * 2) (.bool tv)) := has_cell hel 0 rfl
    have hc1 : has Γ1 (fun m => cellAt m g (u + i * 2 + 1) (.int .u32 (tn : Int))) := has_cell hel 1 rfl
    have hsn : u32s ((al.take i).map (tmS (chS c))) ++ u32s [tmS (chS c) ⟨tv, tn⟩] = u32s ((al.take (i + 1)).map (tmS (chS c))) := by rw [List.take_add_one, ht]; simp [u32s]
    cases tv with
    | false =>
      rw [show tmS (chS c) ⟨false, tn⟩ = tn from rfl] at hsn
      refine m_run ?_
      (apply TL.buildSlice (l := u32s [tn]); exact rfl; exact tb rfl; exact rfl; exact tb rfl; exact rfl; exact rfl; exact rfl; exact rfl; exact rfl)
      intro b37
      refine m_run ?_
      (apply TL.append 1; exact rfl; exact rfl; exact tb rfl; exact rfl; exact tb rfl; exact rfl; exact rfl; exact rfl)
      · exact fun _ h => h
      · exact rfl
      · exact has_src_row 0 rfl rfl
      · exact u32s_one _
      · show (i + 1) * 4 ≤ _; omega
      · show i + 1 ≤ maxLen; unfold maxLen; omega
      · exact fun _ => (rfl : _ = _ :: _ :: _)
      intro B2 k2 hk2
      refine m_run ?_
      refine TK.perm (Δ := own 23 1 (.slice B2 (i + 1) k2) (i + 1) (u32s ((al.take i).map (tmS (chS c))) ++ u32s [tn]) :: row b5 [.int .u32 (ap : Int), .slice B2 (i + 1) k2] 40 :: row b4 [.int .u32 0, .slice none 0 0] 40 :: row b3 [.int .u32 (ap : Int), .slice (some ⟨g, u, none⟩) al.length ac] 30 :: row b2 (chC c) 181 :: row b37 (u32s [tn]) 23 :: Γ1) (List.perm_middle (a := row b37 (u32s [tn]) 23) (l₁ := [own 23 1 (.slice B2 (i + 1) k2) (i + 1) (u32s ((al.take i).map (tmS (chS c))) ++ u32s [tn]), row b5 [.int .u32 (ap : Int), .slice B2 (i + 1) k2] 40, row b4 [.int .u32 0, .slice none 0 0] 40, row b3 [.int .u32 (ap : Int), .slice (some ⟨g, u, none⟩) al.length ac] 30, row b2 (chC c) 181]) (l₂ := Γ1)).symm ?_
      exact IH (j - 1) _ _ (by omega) ⟨i + 1, B2, k2, _, by omega, hk2, .cons _ hsub, rfl, rfl, rfl, rfl, congrArg (Value.int .i64) (i64_succ i (by omega)), by rw [hsn]⟩
    | true =>
      have h16 : tn < 16 := hs _ htm rfl
      have hcw := chC_n hc h16
      rw [show tmS (chS c) ⟨true, tn⟩ = c.1.getD tn 0 from rfl] at hsn
      generalize c.1.getD tn 0 = w at hcw hsn
      refine m_run ?_
      (apply TL.pv; exact rfl; (apply PV.load; exact rfl; exact tb rfl; exact rfl; exact has_row 4 rfl hcw))
      refine m_run ?_
      (apply TL.buildSlice (l := u32s [w]); exact rfl; exact tb rfl; exact rfl; exact tb rfl; exact rfl; exact rfl; exact rfl; exact rfl; exact rfl)
      intro b37
      refine m_run ?_
      (apply TL.append 1; exact rfl; exact rfl; exact tb rfl; exact rfl; exact tb rfl; exact rfl; exact rfl; exact rfl)
      · exact fun _ h => h
      · exact rfl
      · exact has_src_row 0 rfl rfl
      · exact u32s_one _
      · show (i + 1) * 4 ≤ _; omega
      · show i + 1 ≤ maxLen; unfold maxLen; omega
      · exact fun _ => (rfl : _ = _ :: _ :: _)
      intro B2 k2 hk2
      refine m_run ?_
      refine TK.perm (Δ := own 23 1 (.slice B2 (i + 1) k2) (i + 1) (u32s ((al.take i).map (tmS (chS c))) ++ u32s [w]) :: row b5 [.int .u32 (ap : Int), .slice B2 (i + 1) k2] 40 :: row b4 [.int .u32 0, .slice none 0 0] 40 :: row b3 [.int .u32 (ap : Int), .slice (some ⟨g, u, none⟩) al.length ac] 30 :: row b2 (chC c) 181 :: row b37 (u32s [w]) 23 :: Γ1) (List.perm_middle (a := row b37 (u32s [w]) 23) (l₁ := [own 23 1 (.slice B2 (i + 1) k2) (i + 1) (u32s ((al.take i).map (tmS (chS c))) ++ u32s [w]), row b5 [.int .u32 (ap : Int), .slice B2 (i + 1) k2] 40, row b4 [.int .u32 0, .slice none 0 0] 40, row b3 [.int .u32 (ap : Int), .slice (some ⟨g, u, none⟩) al.length ac] 30, row b2 (chC c) 181]) (l₂ := Γ1)).symm ?_
      exact IH (j - 1) _ _ (by omega) ⟨i + 1, B2, k2, _, by omega, hk2, .cons _ hsub, rfl, rfl, rfl, rfl, congrArg (Value.int .i64) (i64_succ i (by omega)), by rw [hsn]⟩
  obtain rfl : i = al.length := by omega
  rw [List.take_length]
  refine m_run ?_
  (apply TK.retRow (i := 2) (Δ := own 23 1 (.slice B al.length k) al.length (u32s (al.map (tmS (chS c)))) :: Γ1); exact rfl; exact rfl; exact rfl; exact rfl; exact tb rfl; exact rfl; (exact m_lst); exact rfl)
  · refine ⟨_, rfl, ⟨ap, B, k, al.map (tmS (chS c))⟩, Γ1, ?_, ?_, by simpa using hk, hsub, rfl⟩
    · simp [Fct.cells]
    · simp
  · (repeat (first | exact List.Sublist.refl _ | apply List.Sublist.cons_cons | apply List.Sublist.cons))
theorem Fct.ok_own {f : Fct} (h : f.l.length ≤ f.c) (Γ : List HP) : f.ok (own 23 1 (.slice f.A f.l.length f.c) f.l.length (u32s f.l) :: Γ) := ⟨has_at (up_src _ _ _ _) 0 rfl fun _ h => own_src h, h⟩
end Go.Proofs.YthbcfamfaicneaaGreat.E

/- The document on choices: meet, walked. -/
namespace Go.Proofs.YthbcfamfaicneaaGreat.E
open Go Go.RowKit Go.Proofs
attribute [local irreducible] TK TL TQ TA TB Fn PV
theorem chC_one (c : Ch) : ∀ u ∈ chC c, u.oneCell' = true := by
  intro u hu
  rcases List.mem_append.1 hu with h | h
  · exact u32s_one _ u h
  · obtain ⟨b, _, rfl⟩ := List.mem_map.1 h; rfl
theorem chC_allOne (c : Ch) : allOne (chC c) = true := by unfold allOne; exact List.all_eq_true.2 (chC_one c)
theorem ch_cells {Γ : List HP} {b : Nat} {c : Ch} {e : TypeId} (i : Nat) (hi : Γ[i]? = some (row b (chC c) e)) : has Γ (fun m => cellsAt m b 0 (chC c)) := has_rows i hi (by simp)
set_option maxRecDepth 100000 in
set_option maxHeartbeats 8000000 in
theorem meet_t (c : Ch) (a : Atm) (f : Fct) (Γ : List HP) (hc : chOk c) (ha : a.ok Γ) (hf : f.ok Γ) (hn : a.l.length ≤ 1000000) (hs : ∀ t ∈ a.l, t.v = true → t.n < 16) :
    FnV Tryz.prog 171 [.agg (chC c).toArray, .agg a.cells.toArray, .agg f.cells.toArray] Γ fun v Γ' => (∃ c', v = .tuple #[.agg (chC c').toArray, .bool (meetP c (a.p, a.l) (pf f)).isSome] ∧ chOk c' ∧ ∀ d, meetP c (a.p, a.l) (pf f) = some d → c' = d) ∧ Γ' = Γ := by
  refine Fn.enter Tryz.func171 rfl rfl rfl fun E => ?_
  obtain ⟨ap, aA, ac, al⟩ := a
  obtain ⟨fp, fA, fc, fl⟩ := f
  have ha1 : has Γ (srcAt 2 aA al.length (tmsC al)) := ha.1
  have hf1 : has Γ (srcAt 1 fA fl.length (u32s fl)) := hf.1
  replace hn : al.length ≤ 1000000 := hn
  replace hs : ∀ t ∈ al, t.v = true → t.n < 16 := hs
  clear ha hf
  refine m_run ?_
  (apply TL.box (l := chC c); exact rfl; exact rfl; exact rfl)
  intro b3
  refine m_run ?_
  (apply TL.box; exact rfl; exact rfl; exact (rfl : _ = [_, _]))
  intro b4
  refine m_run ?_
  (apply TL.box; exact rfl; exact rfl; exact (rfl : _ = [_, _]))
  intro b5
  refine m_run ?_
  (apply TL.alloc; exact rfl; exact tb rfl; exact (rfl : _ = chC ch0))
  intro b6
  refine TL.imp (Δ := row b6 (chC ch0) 181 :: row b5 [.int .u32 (fp : Int), .slice fA fl.length fc] 40 :: row b4 [.int .u32 (ap : Int), .slice aA al.length ac] 30 :: row b3 (chC c) 181 :: Γ) (fun _ h => h) ?_
  have hmp : meetP c (ap, al) (pf ⟨fp, fA, fc, fl⟩) = if ap = fp ∧ al.length = fl.length then meetL c (al.zip fl) else none := rfl
  rw [hmp]
  have hlc := chC_len hc
  have hl0 := chC_len ch0_ok
  by_cases h1 : ap = fp ∧ al.length = fl.length
  rotate_left
  · rw [if_neg h1]
    by_cases hp : ap = fp
    · have hll : al.length ≠ fl.length := fun e => h1 ⟨hp, e⟩
      refine m_run ?_
      (apply TL.pv; exact rfl; (apply PV.loadAggH (vs := chC c); exact rfl; exact tb rfl; exact rfl; exact ch_cells 3 rfl; exact chC_len hc))
      (apply TL.storeAggR 0 (vs := chC c) (l' := chC c); exact rfl; exact rfl; exact rfl; exact chC_allOne _; exact tb rfl; exact (by rw [chC_len hc]; rfl); exact (by rw [chC_len hc, hl0]; rfl); exact (by rw [chC_len hc, List.take_zero, List.nil_append, List.drop_of_length_le (by rw [hl0]; decide), List.append_nil]); exact rfl)
      refine m_run ?_
      exact TK.retSub (Δ := Γ) (fun R' hR' => TK.rets rfl rfl (.cons (.agg rfl (tb rfl) rfl (chC_len hc) (ch_cells 0 rfl)) (.cons (.tmp rfl) .nil)) (hR' _ (by (repeat (first | exact List.Sublist.refl _ | apply List.Sublist.cons_cons | apply List.Sublist.cons))))) ⟨_, rfl, ⟨c, rfl, hc, fun d hd => by cases hd⟩, rfl⟩
    · refine m_run ?_
      (apply TL.pv; exact rfl; (apply PV.loadAggH (vs := chC c); exact rfl; exact tb rfl; exact rfl; exact ch_cells 3 rfl; exact chC_len hc))
      (apply TL.storeAggR 0 (vs := chC c) (l' := chC c); exact rfl; exact rfl; exact rfl; exact chC_allOne _; exact tb rfl; exact (by rw [chC_len hc]; rfl); exact (by rw [chC_len hc, hl0]; rfl); exact (by rw [chC_len hc, List.take_zero, List.nil_append, List.drop_of_length_le (by rw [hl0]; decide), List.append_nil]); exact rfl)
      refine m_run ?_
      exact TK.retSub (Δ := Γ) (fun R' hR' => TK.rets rfl rfl (.cons (.agg rfl (tb rfl) rfl (chC_len hc) (ch_cells 0 rfl)) (.cons (.tmp rfl) .nil)) (hR' _ (by (repeat (first | exact List.Sublist.refl _ | apply List.Sublist.cons_cons | apply List.Sublist.cons))))) ⟨_, rfl, ⟨c, rfl, hc, fun d hd => by cases hd⟩, rfl⟩
  rw [if_pos h1]
  obtain ⟨hp, hll⟩ := h1
  have hzl : (al.zip fl).length = al.length := by rw [List.length_zip, hll, Nat.min_self]
  refine m_run ?_
  apply TK.iter (fun j ρ' Γ' => ∃ (i : Nat) (c1 : Ch), i + j = al.length ∧ chOk c1 ∧ meetL c (al.zip fl) = meetL c1 ((al.zip fl).drop i) ∧ lk ρ' 3 = .pointer (some ⟨b3, 0, none⟩) ∧ lk ρ' 4 = .pointer (some ⟨b4, 0, none⟩) ∧ lk ρ' 5 = .pointer (some ⟨b5, 0, none⟩) ∧ lk ρ' 6 = .pointer (some ⟨b6, 0, none⟩) ∧ lk ρ' 8 = .int .i64 (i : Int) ∧ Γ' = row b6 (chC ch0) 181 :: row b5 [.int .u32 (fp : Int), .slice fA fl.length fc] 40 :: row b4 [.int .u32 (ap : Int), .slice aA al.length ac] 30 :: row b3 (chC c1) 181 :: Γ) al.length
  · exact ⟨0, c, Nat.zero_add _, hc, rfl, rfl, rfl, rfl, rfl, rfl, rfl⟩
  rintro j IH ρ' _ ⟨i, c1, hij, hc1, hm, e3, e4, e5, e6, e8, rfl⟩
  refine TK.know5 e3 e4 e5 e6 e8 ?_
  by_cases hi : i < al.length
  · obtain ⟨⟨tv, tn⟩, ht⟩ : ∃ t, al[i]? = some t := ⟨al[i], List.getElem?_eq_getElem hi⟩
    obtain ⟨n, hfn⟩ : ∃ n, fl[i]? = some n := ⟨fl[i]'(by omega), List.getElem?_eq_getElem _⟩
    have htm := List.mem_of_getElem? ht
    have hdr : (al.zip fl).drop i = (⟨tv, tn⟩, n) :: (al.zip fl).drop (i + 1) := by
      rw [List.drop_eq_getElem_cons (by omega), List.getElem_zip]
      congr 2
      · exact (List.getElem?_eq_some_iff.1 ht).2
      · exact (List.getElem?_eq_some_iff.1 hfn).2
    rw [hdr] at hm
    refine TK.mem fun m0 hm0 => ?_
    obtain ⟨g, u, rfl⟩ := src_some ((has_tls (has_tls (has_tls (has_tls ha1))) : has (_ :: _ :: _ :: _ :: Γ) _) m0 hm0) (by rw [tmsC_len]; omega)
    obtain ⟨g2, u2, rfl⟩ := src_some ((has_tls (has_tls (has_tls (has_tls hf1))) : has (_ :: _ :: _ :: _ :: Γ) _) m0 hm0) (by rw [u32s_len]; omega)
    clear hm0 m0
    have hel : has Γ (fun m => cellsAt m g (u + i * 2) [.bool tv, .int .u32 (tn : Int)]) := has_el (sz := 2) (f := tmC) (fun _ => rfl) (by decide) ha1 ht
    have hfl := has_u32 hf1 hfn
    refine m_run ?_
    (apply TL.alloc; exact rfl; exact tb rfl; (exact m_lst))
    intro b9
    refine m_run ?_
    refine TK.imp (Δ := row b9 [.bool tv, .int .u32 (tn : Int)] 27 :: row b6 (chC ch0) 181 :: row b5 [.int .u32 (fp : Int), .slice (some ⟨g2, u2, none⟩) fl.length fc] 40 :: row b4 [.int .u32 (ap : Int), .slice (some ⟨g, u, none⟩) al.length ac] 30 :: row b3 (chC c1) 181 :: Γ) (fun _ h => h) ?_
    cases tv with
    | false =>
      rw [show meetL c1 ((⟨false, tn⟩, n) :: (al.zip fl).drop (i + 1)) = if tn = n then meetL c1 ((al.zip fl).drop (i + 1)) else none from rfl] at hm
      refine m_run ?_
      refine TK.drawS mixed rfl ?_
      refine m_take (At.mk : At 0) ?_; refine m_take (At.mk : At 1) ?_; refine m_take (At.mk : At 2) ?_; refine m_take (At.mk : At 3) ?_; refine m_take (At.mk : At 4) ?_; refine m_take (At.mk : At 5) ?_; refine m_take (At.mk : At 6) ?_; refine m_take (At.mk : At 7) ?_
      refine TA.done (by kernel_rfl) ?_
      by_cases hne : tn = n
      · rw [if_pos hne] at hm
        refine m_run ?_
        refine TK.drop ?_
        exact IH (j - 1) _ _ (by omega) ⟨i + 1, c1, by omega, hc1, hm, rfl, rfl, rfl, rfl, congrArg (Value.int .i64) (i64_succ i (by omega)), rfl⟩
      · rw [if_neg hne] at hm
        rw [hm]
        refine m_run ?_
        (apply TL.pv; exact rfl; (apply PV.loadAggH (vs := chC c1); exact rfl; exact tb rfl; exact rfl; exact ch_cells 4 rfl; exact chC_len hc1))
        (apply TL.storeAggR 1 (vs := chC c1) (l' := chC c1); exact rfl; exact rfl; exact rfl; exact chC_allOne _; exact tb rfl; exact (by rw [chC_len hc1]; rfl); exact (by rw [chC_len hc1, hl0]; rfl); exact (by rw [chC_len hc1, List.take_zero, List.nil_append, List.drop_of_length_le (by rw [hl0]; decide), List.append_nil]); exact rfl)
        refine m_run ?_
        exact TK.retSub (Δ := Γ) (fun R' hR' => TK.rets rfl rfl (.cons (.agg rfl (tb rfl) rfl (chC_len hc1) (ch_cells 1 rfl)) (.cons (.tmp rfl) .nil)) (hR' _ (by (repeat (first | exact List.Sublist.refl _ | apply List.Sublist.cons_cons | apply List.Sublist.cons))))) ⟨_, rfl, ⟨c1, rfl, hc1, fun d hd => by cases hd⟩, rfl⟩
    | true =>
      have h16 : tn < 16 := hs _ htm rfl
      rw [show meetL c1 ((⟨true, tn⟩, n) :: (al.zip fl).drop (i + 1)) = if c1.2.getD tn false = true ∧ c1.1.getD tn 0 ≠ n then none else meetL (c1.1.set tn n, c1.2.set tn true) ((al.zip fl).drop (i + 1)) from rfl] at hm
      have hcn := chC_n hc1 h16
      have hci := chC_i hc1 h16
      have hkn : has (row b9 [.bool true, .int .u32 (tn : Int)] 27 :: row b6 (chC ch0) 181 :: row b5 [.int .u32 (fp : Int), .slice (some ⟨g2, u2, none⟩) fl.length fc] 40 :: row b4 [.int .u32 (ap : Int), .slice (some ⟨g, u, none⟩) al.length ac] 30 :: row b3 (chC c1) 181 :: Γ) (fun m => cellAt m b3 tn (.int .u32 (c1.1.getD tn 0 : Nat))) := has_row 4 rfl hcn
      have hki : has (row b9 [.bool true, .int .u32 (tn : Int)] 27 :: row b6 (chC ch0) 181 :: row b5 [.int .u32 (fp : Int), .slice (some ⟨g2, u2, none⟩) fl.length fc] 40 :: row b4 [.int .u32 (ap : Int), .slice (some ⟨g, u, none⟩) al.length ac] 30 :: row b3 (chC c1) 181 :: Γ) (fun m => cellAt m b3 (16 + tn) (.bool (c1.2.getD tn false))) := has_row 4 rfl hci
      have hset := chC_set hc1 h16 (n := n)
      have hc2 : chOk (c1.1.set tn n, c1.2.set tn true) := by simpa [chOk] using hc1
      refine m_run ?_
      refine TK.cut (I := fun ρ' Γ' => lk ρ' 3 = .pointer (some ⟨b3, 0, none⟩) ∧ lk ρ' 4 = .pointer (some ⟨b4, 0, none⟩) ∧ lk ρ' 5 = .pointer (some ⟨b5, 0, none⟩) ∧ lk ρ' 6 = .pointer (some ⟨b6, 0, none⟩) ∧ lk ρ' 8 = .int .i64 (i : Int) ∧ lk ρ' 9 = .pointer (some ⟨b9, 0, none⟩) ∧ lk ρ' 66 = .bool (c1.2.getD tn false && decide (c1.1.getD tn 0 ≠ n)) ∧ Γ' = row b9 [.bool true, .int .u32 (tn : Int)] 27 :: row b6 (chC ch0) 181 :: row b5 [.int .u32 (fp : Int), .slice (some ⟨g2, u2, none⟩) fl.length fc] 40 :: row b4 [.int .u32 (ap : Int), .slice (some ⟨g, u, none⟩) al.length ac] 30 :: row b3 (chC c1) 181 :: Γ) ?_ ?_
      · intro k' hk'
        generalize c1.2.getD tn false = cb at *
        generalize c1.1.getD tn 0 = cn at *
        refine TK.drawS mixed rfl ?_
        cases cb with
        | false =>
          refine m_take (At.mk : At 0) ?_; refine m_take (At.mk : At 1) ?_; refine m_take (At.mk : At 2) ?_; refine m_take (At.mk : At 3) ?_; refine m_take (At.mk : At 4) ?_; refine m_take (At.mk : At 5) ?_; refine m_take (At.mk : At 6) ?_; refine m_take (At.mk : At 7) ?_; refine m_take (At.mk : At 8) ?_; refine m_take (At.mk : At 9) ?_; refine m_take (At.mk : At 10) ?_; refine m_take (At.mk : At 11) ?_; refine m_take (At.mk : At 12) ?_; refine m_take (At.mk : At 13) ?_; refine m_take (At.mk : At 14) ?_; refine m_take (At.mk : At 15) ?_; refine m_take (At.mk : At 16) ?_; refine m_take (At.mk : At 17) ?_
          refine TA.done (by kernel_rfl) ?_
          exact hk' _ _ ⟨rfl, rfl, rfl, rfl, rfl, rfl, rfl, rfl⟩
        | true =>
          refine m_take (At.mk : At 0) ?_; refine m_take (At.mk : At 1) ?_; refine m_take (At.mk : At 2) ?_; refine m_take (At.mk : At 3) ?_; refine m_take (At.mk : At 4) ?_; refine m_take (At.mk : At 5) ?_; refine m_take (At.mk : At 6) ?_; refine m_take (At.mk : At 7) ?_; refine m_take (At.mk : At 8) ?_; refine m_take (At.mk : At 9) ?_; refine m_take (At.mk : At 10) ?_; refine m_take (At.mk : At 11) ?_; refine m_take (At.mk : At 12) ?_; refine m_take (At.mk : At 13) ?_; refine m_take (At.mk : At 14) ?_; refine m_take (At.mk : At 15) ?_; refine m_take (At.mk : At 16) ?_
          refine TA.know (t := 65) (v := .bool (decide (cn ≠ n))) (congrArg Value.bool (by rw [Bool.eq_iff_iff, bne_iff_ne, decide_eq_true_iff]; omega)) ?_
          refine m_take (At.mk : At 17) ?_
          refine TA.done (by kernel_rfl) ?_
          exact hk' _ _ ⟨rfl, rfl, rfl, rfl, rfl, rfl, rfl, rfl⟩
      rintro ρ2 _ ⟨e3, e4, e5, e6, e8, e9, e66, rfl⟩
      refine TK.know7 e3 e4 e5 e6 e8 e9 e66 ?_
      by_cases hbad : c1.2.getD tn false = true ∧ c1.1.getD tn 0 ≠ n
      · rw [if_pos hbad] at hm
        rw [hm]
        refine TK.know (t := 66) (v := .bool true) (congrArg Value.bool (by rw [hbad.1, decide_eq_true hbad.2]; rfl)) ?_
        refine m_run ?_
        (apply TL.pv; exact rfl; (apply PV.loadAggH (vs := chC c1); exact rfl; exact tb rfl; exact rfl; exact ch_cells 4 rfl; exact chC_len hc1))
        (apply TL.storeAggR 1 (vs := chC c1) (l' := chC c1); exact rfl; exact rfl; exact rfl; exact chC_allOne _; exact tb rfl; exact (by rw [chC_len hc1]; rfl); exact (by rw [chC_len hc1, hl0]; rfl); exact (by rw [chC_len hc1, List.take_zero, List.nil_append, List.drop_of_length_le (by rw [hl0]; decide), List.append_nil]); exact rfl)
        refine m_run ?_
        exact TK.retSub (Δ := Γ) (fun R' hR' => TK.rets rfl rfl (.cons (.agg rfl (tb rfl) rfl (chC_len hc1) (ch_cells 1 rfl)) (.cons (.tmp rfl) .nil)) (hR' _ (by (repeat (first | exact List.Sublist.refl _ | apply List.Sublist.cons_cons | apply List.Sublist.cons))))) ⟨_, rfl, ⟨c1, rfl, hc1, fun d hd => by cases hd⟩, rfl⟩
      · rw [if_neg hbad] at hm
        refine TK.know (t := 66) (v := .bool false) (congrArg Value.bool (by rw [Bool.eq_false_iff]; intro h; rw [Bool.and_eq_true] at h; exact hbad ⟨h.1, of_decide_eq_true h.2⟩)) ?_
        refine m_run ?_
        (apply TL.store 4; exact rfl; exact rfl; exact rfl; exact rfl; exact tb rfl; exact rfl; exact (by rw [chC_len hc1]; omega))
        refine TL.imp (Δ := row b3 ((chC c1).set (16 + tn) (.bool true)) 181 :: row b9 [.bool true, .int .u32 (tn : Int)] 27 :: row b6 (chC ch0) 181 :: row b5 [.int .u32 (fp : Int), .slice (some ⟨g2, u2, none⟩) fl.length fc] 40 :: row b4 [.int .u32 (ap : Int), .slice (some ⟨g, u, none⟩) al.length ac] 30 :: Γ) (fun m hm => all_perm (List.perm_middle (a := row b3 ((chC c1).set (16 + tn) (.bool true)) 181) (l₁ := [row b9 [.bool true, .int .u32 (tn : Int)] 27, row b6 (chC ch0) 181, row b5 [.int .u32 (fp : Int), .slice (some ⟨g2, u2, none⟩) fl.length fc] 40, row b4 [.int .u32 (ap : Int), .slice (some ⟨g, u, none⟩) al.length ac] 30]) (l₂ := Γ)) hm) ?_
        refine m_run ?_
        refine TK.drawE mixed rfl (row b9 [.bool true, .int .u32 (tn : Int)] 27 :: row b6 (chC ch0) 181 :: row b5 [.int .u32 (fp : Int), .slice (some ⟨g2, u2, none⟩) fl.length fc] 40 :: row b4 [.int .u32 (ap : Int), .slice (some ⟨g, u, none⟩) al.length ac] 30 :: Γ) ?_
        refine m_take (At.mk : At 0) ?_; refine m_take (At.mk : At 1) ?_; refine m_take (At.mk : At 2) ?_; refine m_take (At.mk : At 3) ?_; refine m_take (At.mk : At 4) ?_; refine m_take (At.mk : At 5) ?_; refine m_take (At.mk : At 6) ?_; refine m_take (At.mk : At 7) ?_; refine m_take (At.mk : At 8) ?_
        (apply TA.one 9; kernel_rfl; exact rfl)
        (apply TL.store 0; exact rfl; exact rfl; exact rfl; exact rfl; exact tb rfl; exact rfl; exact (by rw [List.length_set, chC_len hc1]; omega))
        refine TL.imp (Δ := row b3 (chC (c1.1.set tn n, c1.2.set tn true)) 181 :: row b9 [.bool true, .int .u32 (tn : Int)] 27 :: row b6 (chC ch0) 181 :: row b5 [.int .u32 (fp : Int), .slice (some ⟨g2, u2, none⟩) fl.length fc] 40 :: row b4 [.int .u32 (ap : Int), .slice (some ⟨g, u, none⟩) al.length ac] 30 :: Γ) (fun m hm => by rw [← hset]; exact hm) ?_
        refine TL.back (by (focus ((repeat (first | assumption | exact Ent.refl _ | apply Ent.tail)); done))) ?_
        refine TA.done (by kernel_rfl) ?_
        refine m_run ?_
        refine TK.perm (Δ := row b9 [.bool true, .int .u32 (tn : Int)] 27 :: row b6 (chC ch0) 181 :: row b5 [.int .u32 (fp : Int), .slice (some ⟨g2, u2, none⟩) fl.length fc] 40 :: row b4 [.int .u32 (ap : Int), .slice (some ⟨g, u, none⟩) al.length ac] 30 :: row b3 (chC (c1.1.set tn n, c1.2.set tn true)) 181 :: Γ) (List.perm_middle (a := row b3 (chC (c1.1.set tn n, c1.2.set tn true)) 181) (l₁ := [row b9 [.bool true, .int .u32 (tn : Int)] 27, row b6 (chC ch0) 181, row b5 [.int .u32 (fp : Int), .slice (some ⟨g2, u2, none⟩) fl.length fc] 40, row b4 [.int .u32 (ap : Int), .slice (some ⟨g, u, none⟩) al.length ac] 30]) (l₂ := Γ)).symm ?_
        refine TK.drop ?_
        exact IH (j - 1) _ _ (by omega) ⟨i + 1, _, by omega, hc2, hm, rfl, rfl, rfl, rfl, congrArg (Value.int .i64) (i64_succ i (by omega)), rfl⟩
  obtain rfl : i = al.length := by omega
  rw [List.drop_of_length_le (by omega)] at hm
  rw [hm]
  refine m_run ?_
  (apply TL.pv; exact rfl; (apply PV.loadAggH (vs := chC c1); exact rfl; exact tb rfl; exact rfl; exact ch_cells 3 rfl; exact chC_len hc1))
  (apply TL.storeAggR 0 (vs := chC c1) (l' := chC c1); exact rfl; exact rfl; exact rfl; exact chC_allOne _; exact tb rfl; exact (by rw [chC_len hc1]; rfl); exact (by rw [chC_len hc1, hl0]; rfl); exact (by rw [chC_len hc1, List.take_zero, List.nil_append, List.drop_of_length_le (by rw [hl0]; decide), List.append_nil]); exact rfl)
  refine m_run ?_
  exact TK.retSub (Δ := Γ) (fun R' hR' => TK.rets rfl rfl (.cons (.agg rfl (tb rfl) rfl (chC_len hc1) (ch_cells 0 rfl)) (.cons (.tmp rfl) .nil)) (hR' _ (by (repeat (first | exact List.Sublist.refl _ | apply List.Sublist.cons_cons | apply List.Sublist.cons))))) ⟨_, rfl, ⟨c1, rfl, hc1, fun d hd => by injection hd⟩, rfl⟩
end Go.Proofs.YthbcfamfaicneaaGreat.E

/- The document on choices: all beyond one that is made, walked. -/
namespace Go.Proofs.YthbcfamfaicneaaGreat.E
open Go Go.RowKit Go.Proofs
attribute [local irreducible] TK TL TQ TA TB Fn PV
theorem sub_perm13 {α : Type} {l m : List α} (h : l.Sublist m) : ∃ r, m.Perm (l ++ r) := by
  induction h with
  | slnil => exact ⟨[], .refl _⟩
  | cons a _ ih => obtain ⟨r, hr⟩ := ih; exact ⟨a :: r, (List.Perm.cons a hr).trans List.perm_middle.symm⟩
  | cons_cons a _ ih => obtain ⟨r, hr⟩ := ih; exact ⟨r, List.Perm.cons a hr⟩
theorem perm_rot2 {α : Type} (a b c : α) (Γ : List α) : (a :: b :: c :: Γ).Perm (b :: c :: a :: Γ) := (List.Perm.swap _ _ _).trans (.cons _ (.swap _ _ _))
theorem Atm.ok_sub13 {a : Atm} {Γ Δ : List HP} (hs : Γ.Sublist Δ) (h : a.ok Γ) : a.ok Δ := ⟨has_sublist (up_src _ _ _ _) hs h.1, h.2⟩
theorem Cl.ok_sub {c : Cl} {Γ Δ : List HP} (hs : Γ.Sublist Δ) (h : c.ok Γ) : c.ok Δ := ⟨Atm.ok_sub13 hs h.1, has_sublist (up_src _ _ _ _) hs h.2.1, h.2.2.1, fun x hx => Atm.ok_sub13 hs (h.2.2.2 x hx)⟩
abbrev fRow (bx : Nat) (c : Cl) (FA : Option Addr) (Fn Fc : Nat) (NA : Option Addr) (Nn Nc : Nat) (OA : Option Addr) (On Ok : Nat) : HP := row bx [.int .u32 (c.h.p : Int), .slice c.h.A c.h.l.length c.h.c, .slice c.A c.l.length c.c, .slice FA Fn Fc, .slice none 0 0, .slice NA Nn Nc, .slice OA On Ok] 176
/-- What is made beyond a choice. -/
def HX (b0 : List PL) (h : Nat × List Tm) (F N : List PF) (b : List PL) (ch : Ch) (x : PF) : Prop := ∃ d, RunP F b ch d ∧ (∀ y ∈ b0, y.1 = true → instF d y.2 ∉ N) ∧ x = instF d h
theorem HX_neg {b0 : List PL} {h : Nat × List Tm} {F N : List PF} {b : List PL} {ch : Ch} {x : PF} {y : PL} (hy : y.1 = true) : HX b0 h F N (y :: b) ch x ↔ HX b0 h F N b ch x := by
  unfold HX
  simp only [RunP, if_pos hy]
theorem HX_pos {b0 : List PL} {h : Nat × List Tm} {F N : List PF} {b : List PL} {ch : Ch} {x : PF} {y : PL} (hy : y.1 = false) : HX b0 h F N (y :: b) ch x ↔ ∃ f ∈ F, ∃ e, meetP ch y.2 f = some e ∧ HX b0 h F N b e x := by
  unfold HX
  have hy' : ¬ y.1 = true := by rw [hy]; decide
  simp only [RunP, if_neg hy']
  constructor
  · rintro ⟨d, ⟨f, hf, e, he, hr⟩, h2, h3⟩; exact ⟨f, hf, e, he, d, hr, h2, h3⟩
  · rintro ⟨f, hf, e, he, d, hr, h2, h3⟩; exact ⟨d, ⟨f, hf, e, he, hr⟩, h2, h3⟩
theorem HX_nil {b0 : List PL} {h : Nat × List Tm} {F N : List PF} {ch : Ch} {x : PF} : HX b0 h F N [] ch x ↔ (∀ y ∈ b0, y.1 = true → instF ch y.2 ∉ N) ∧ x = instF ch h := by
  unfold HX
  constructor
  · rintro ⟨d, rfl, h2, h3⟩; exact ⟨h2, h3⟩
  · rintro ⟨h2, h3⟩; exact ⟨ch, rfl, h2, h3⟩
theorem has_sub13 {Γ : List HP} {g o : Nat} {vs : List Value} (h : has Γ (fun m => cellsAt m g o vs)) (i n : Nat) {ws : List Value} (hw : (vs.drop i).take n = ws) {o' : Nat} (ho : o + i = o') : has Γ (fun m => cellsAt m g o' ws) := fun m hm j v hj => by
  subst hw; subst ho
  rw [List.getElem?_take] at hj
  split at hj
  · rw [List.getElem?_drop] at hj
    have := h m hm (i + j) v hj
    rwa [← Nat.add_assoc] at this
  · cases hj
theorem mayA_vars {l : List Tm} (h : mayA l = true) : l.length ≤ 6 ∧ ∀ t ∈ l, t.v = true → t.n < 16 := by
  unfold mayA at h
  rw [Bool.and_eq_true] at h
  refine ⟨of_decide_eq_true h.1, fun t ht hv => ?_⟩
  have h2 : l.any badT = false := by simpa using h.2
  have := List.any_eq_false.1 h2 t ht
  unfold badT at this
  rw [hv] at this
  simpa using this
theorem mayC_vars {c : Cl} (h : mayC c = true) : c.l.length ≤ 8 ∧ mayA c.h.l = true ∧ ∀ x ∈ c.l, mayA x.a.l = true := by
  unfold mayC at h
  rw [Bool.and_eq_true, Bool.and_eq_true] at h
  refine ⟨of_decide_eq_true h.1.1, h.1.2, fun x hx => ?_⟩
  have h2 : (c.l.any fun x => !mayA x.a.l) = false := by simpa using h.2
  have := List.any_eq_false.1 h2 x hx
  simpa using this
theorem mayC_small {c : Cl} (h : mayC c = true) : c.small := by
  obtain ⟨h1, h2, h3⟩ := mayC_vars h
  exact ⟨by omega, by have := (mayA_vars h2).1; omega, fun x hx => by have := (mayA_vars (h3 x hx)).1; omega⟩
set_option maxRecDepth 100000 in
set_option maxHeartbeats 16000000 in
theorem fromM_t (bx : Nat) (c : Cl) (FA NA : Option Addr) (Fc Nc : Nat) (F N : List Fct) (Γ : List HP) (hco : c.ok Γ) (hmay : mayC c = true) (hF : Fcs FA F Γ) (hN : Fcs NA N Γ) (hFl : F.length ≤ 1000000) (hNl : N.length ≤ 1000000) :
    ∀ (k i : Nat) (ch : Ch) (OA : Option Addr) (Ok : Nat) (O : List Fct) (Γ2 : List HP), i + k = c.l.length → chOk ch → Γ.Sublist Γ2 → Fcs OA O Γ2 → Srt (O.map pf) → O.length + (F.length + 1) ^ k ≤ 100000000000 →
    FnV Tryz.prog 133 [.pointer (some ⟨bx, 0, none⟩), .int .i64 (i : Int), .agg (chC ch).toArray, .bool true] (fRow bx c FA F.length Fc NA N.length Nc OA O.length Ok :: Γ2) fun r Γ' => r = .tuple #[] ∧ ∃ (OA' : Option Addr) (Ok' : Nat) (O' : List Fct) (Γ3 : List HP), Γ' = fRow bx c FA F.length Fc NA N.length Nc OA' O'.length Ok' :: Γ3 ∧ Γ2.Sublist Γ3 ∧ Fcs OA' O' Γ3 ∧ Srt (O'.map pf) ∧ O'.length ≤ O.length + (F.length + 1) ^ k ∧ ∀ x, x ∈ O'.map pf ↔ x ∈ O.map pf ∨ HX (c.l.map pureL) (c.h.p, c.h.l) (F.map pf) (N.map pf) ((c.l.drop i).map pureL) ch x := by
  intro k
  induction k with
  | zero =>
    intro i ch OA Ok O Γ2 hik hch hsub hO hS hb
    refine Fn.enter Tryz.func133 rfl rfl rfl fun E => ?_
    refine m_run ?_
    (apply TL.box (l := chC ch); exact rfl; exact rfl; exact rfl)
    intro b6
    refine TL.imp (Δ := row b6 (chC ch) 181 :: fRow bx c FA F.length Fc NA N.length Nc OA O.length Ok :: Γ2) (fun _ h => h) ?_
    obtain rfl : i = c.l.length := by omega
    have hcs := mayC_small hmay
    have hco2 : c.ok Γ2 := Cl.ok_sub hsub hco
    have hN2 := hN.sub hsub
    have hsm := mayC_vars hmay
    refine m_run ?_
    apply TK.iter (fun j ρ' Γ' => ∃ (i : Nat) (Γ3 : List HP), i + j = c.l.length ∧ Γ2.Sublist Γ3 ∧ (∀ y ∈ (c.l.take i).map pureL, y.1 = true → instF ch y.2 ∉ N.map pf) ∧ lk ρ' 0 = .pointer (some ⟨bx, 0, none⟩) ∧ lk ρ' 3 = .bool true ∧ lk ρ' 6 = .pointer (some ⟨b6, 0, none⟩) ∧ lk ρ' 8 = .int .i64 (i : Int) ∧ Γ' = row b6 (chC ch) 181 :: fRow bx c FA F.length Fc NA N.length Nc OA O.length Ok :: Γ3) c.l.length
    · exact ⟨0, Γ2, Nat.zero_add _, .refl _, by simp, rfl, rfl, rfl, rfl, rfl⟩
    rintro j IH ρ' _ ⟨i, Γ3, hij, hs3, hno, e0, e3, e6, e8, rfl⟩
    refine TK.know4 e0 e3 e6 e8 ?_
    have hN3 := hN2.sub hs3
    have hO3 := hO.sub hs3
    have hco3 := Cl.ok_sub hs3 hco2
    by_cases hi : i < c.l.length
    · obtain ⟨x, hx⟩ : ∃ x, c.l[i]? = some x := ⟨c.l[i], List.getElem?_eq_getElem hi⟩
      have hxm := List.mem_of_getElem? hx
      have hA := hco3.2.1
      refine TK.mem fun m0 hm0 => ?_
      obtain ⟨g, u, hg⟩ := src_some ((has_tls (has_tls hA) : has (_ :: _ :: Γ3) _) m0 hm0) (by rw [ltsC_len]; omega)
      clear hm0 m0
      rw [hg] at hA
      have hel : has Γ3 (fun m => cellsAt m g (u + i * 3) [.bool x.no, .int .u32 (x.a.p : Int), .slice x.a.A x.a.l.length x.a.c]) := has_el (sz := 3) (f := Lt.cells) (fun _ => rfl) (by decide) hA hx
      have hc0 : has Γ3 (fun m => cellAt m g (u + i * 3) (.bool x.no)) := has_cell hel 0 rfl
      have hca : has Γ3 (fun m => cellsAt m g (u + i * 3 + 1) [.int .u32 (x.a.p : Int), .slice x.a.A x.a.l.length x.a.c]) := has_sub13 hel 1 2 rfl rfl
      have hce : has (row b6 (chC ch) 181 :: fRow bx c FA F.length Fc NA N.length Nc OA O.length Ok :: Γ3) (fun m => cellsAt m b6 0 (chC ch)) := ch_cells 0 rfl
      have hct : (c.l.take (i + 1)).map pureL = (c.l.take i).map pureL ++ [pureL x] := by rw [List.take_add_one, hx]; simp
      have hlc := chC_len hch
      have hax : x.a.ok Γ3 := hco3.2.2.2 x hxm
      have hxv := mayA_vars (hsm.2.2 x hxm)
      refine m_run ?_
      refine TK.drawS mixed rfl ?_
      refine m_take (At.mk : At 0) ?_; refine m_take (At.mk : At 1) ?_; refine m_take (At.mk : At 2) ?_; refine m_take (At.mk : At 3) ?_; refine m_take (At.mk : At 4) ?_
      refine TA.know (t := 34) (v := .slice (some ⟨g, u, none⟩) c.l.length c.c) (congrArg (fun a => Value.slice a c.l.length c.c) hg) ?_
      refine m_take (At.mk : At 5) ?_; refine m_take (At.mk : At 6) ?_; refine m_take (At.mk : At 7) ?_; refine m_take (At.mk : At 8) ?_; refine m_take (At.mk : At 9) ?_
      cases hxn : x.no with
      | false =>
        refine m_take (At.mk : At 10) ?_; refine m_take (At.mk : At 11) ?_; refine m_take (At.mk : At 12) ?_; refine m_take (At.mk : At 13) ?_; refine m_take (At.mk : At 14) ?_; refine m_take (At.mk : At 15) ?_; refine m_take (At.mk : At 16) ?_; refine m_take (At.mk : At 17) ?_; refine m_take (At.mk : At 18) ?_; refine m_take (At.mk : At 19) ?_; refine m_take (At.mk : At 20) ?_; refine m_take (At.mk : At 21) ?_; refine m_take (At.mk : At 22) ?_; refine m_take (At.mk : At 23) ?_; refine m_take (At.mk : At 24) ?_; refine m_take (At.mk : At 25) ?_; refine m_take (At.mk : At 26) ?_
        refine TA.done (by kernel_rfl) ?_
        refine m_run ?_
        refine IH (j - 1) _ _ (by omega) ⟨i + 1, Γ3, by omega, hs3, fun y hy hyn => ?_, rfl, rfl, rfl, congrArg (Value.int .i64) (i64_succ i (by omega)), rfl⟩
        rw [hct] at hy
        rcases List.mem_append.1 hy with h | h
        · exact hno y h hyn
        · rw [List.mem_singleton.1 h] at hyn
          have : x.no = true := hyn
          rw [hxn] at this; cases this
      | true =>
        refine m_take (At.mk : At 10) ?_; refine m_take (At.mk : At 11) ?_; refine m_take (At.mk : At 12) ?_; refine m_take (At.mk : At 13) ?_
        (apply TA.takeY (At.mk : At 14); exact rfl; exact rfl; exact rfl; exact rfl; exact rfl; kernel_rfl; ((focus ((repeat (first | assumption | exact Ent.refl _ | apply Ent.tail)); done))); (apply PV.loadAggH (vs := chC ch); exact rfl; exact tb rfl; exact rfl; exact hce; exact hlc))
        refine m_take (At.mk : At 15) ?_; refine m_take (At.mk : At 16) ?_; refine m_take (At.mk : At 17) ?_; refine m_take (At.mk : At 18) ?_; refine m_take (At.mk : At 19) ?_
        refine TA.know (t := 49) (v := .slice (some ⟨g, u, none⟩) c.l.length c.c) (congrArg (fun a => Value.slice a c.l.length c.c) hg) ?_
        refine m_take (At.mk : At 20) ?_; refine m_take (At.mk : At 21) ?_; refine m_take (At.mk : At 22) ?_; refine m_take (At.mk : At 23) ?_
        (apply TA.one 24; kernel_rfl; exact rfl)
        refine m_rrun ?_
        (apply TL.callV; exact rfl; exact callB_of (by kernel_rfl); exact rfl; exact fun _ h => h)
        exact fact13_t ch x.a _ hch (Atm.ok_tl (Atm.ok_tl hax)) (by omega) hxv.2
        rintro _ _ ⟨f, Γ', rfl, rfl, hfc, hfs, hfp⟩
        obtain ⟨R, hR⟩ := sub_perm13 hfs
        have hfo := Fct.ok_own hfc (Γ3 ++ R)
        refine TL.imp (Δ := row b6 (chC ch) 181 :: fRow bx c FA F.length Fc NA N.length Nc OA O.length Ok :: (own 23 1 (.slice f.A f.l.length f.c) f.l.length (u32s f.l) :: (Γ3 ++ R))) (fun m hm => all_perm ((hR.cons _).trans (perm_rot2 _ _ _ _)) hm) ?_
        have hs4 : Γ3.Sublist (own 23 1 (.slice f.A f.l.length f.c) f.l.length (u32s f.l) :: (Γ3 ++ R)) := .cons _ (List.sublist_append_left _ _)
        generalize own 23 1 (.slice f.A f.l.length f.c) f.l.length (u32s f.l) :: (Γ3 ++ R) = Γ4 at *
        have hE : Ent (row b6 (chC ch) 181 :: fRow bx c FA F.length Fc NA N.length Nc OA O.length Ok :: Γ4) (row b6 (chC ch) 181 :: fRow bx c FA F.length Fc NA N.length Nc OA O.length Ok :: Γ3) := fun m hm => all_sub (.cons_cons _ (.cons_cons _ hs4)) hm
        refine TL.back hE ?_
        (apply TA.one 25; kernel_rfl; exact rfl)
        refine m_rrun ?_
        (apply TL.callV; exact rfl; exact callB_of (by kernel_rfl); exact rfl; exact fun _ h => h)
        exact has13_t NA Nc N f _ (hN3.sub (.cons _ (.cons _ hs4))) (Fct.ok_tl (Fct.ok_tl hfo)) (by omega)
        rintro _ _ ⟨rfl, rfl⟩
        refine TL.back hE ?_
        refine m_take (At.mk : At 26) ?_
        refine TA.done (by kernel_rfl) ?_
        have hdec : (pf f ∈ N.map pf) ↔ instF ch (pureL x).2 ∈ N.map pf := by rw [hfp]; exact Iff.rfl
        by_cases hin : pf f ∈ N.map pf
        · refine m_run ?_
          refine TK.perm (.swap _ _ _) ?_
          refine TK.ret0 rfl rfl ⟨_, rfl, rfl, OA, Ok, O, _, rfl, .cons _ (hs3.trans hs4), hO3.sub (.cons _ hs4), hS, Nat.le_add_right _ _, fun z => ⟨.inl, fun h => h.elim id fun h => ?_⟩⟩
          rw [List.drop_length, List.map_nil, HX_nil] at h
          exact absurd (hdec.1 hin) (h.1 (pureL x) (List.mem_map_of_mem hxm) hxn)
        · refine m_run ?_
          refine IH (j - 1) _ _ (by omega) ⟨i + 1, _, by omega, hs3.trans hs4, fun y hy hyn => ?_, rfl, rfl, rfl, congrArg (Value.int .i64) (i64_succ i (by omega)), rfl⟩
          rw [hct] at hy
          rcases List.mem_append.1 hy with h | h
          · exact hno y h hyn
          · rw [List.mem_singleton.1 h]
            exact fun h => hin (hdec.2 h)
    obtain rfl : i = c.l.length := by omega
    rw [List.take_length] at hno
    have hlc := chC_len hch
    have hce : has (row b6 (chC ch) 181 :: fRow bx c FA F.length Fc NA N.length Nc OA O.length Ok :: Γ3) (fun m => cellsAt m b6 0 (chC ch)) := ch_cells 0 rfl
    have hhv := mayA_vars hsm.2.1
    refine m_run ?_
    refine TK.drawB mixed rfl 15 (row b6 (chC ch) 181 :: fRow bx c FA F.length Fc NA N.length Nc OA O.length Ok :: Γ3) Γ3 ?_
    refine m_bake (At.mk : At 0) ?_; refine m_bake (At.mk : At 1) ?_; refine m_bake (At.mk : At 2) ?_; refine m_bake (At.mk : At 3) ?_; refine m_bake (At.mk : At 4) ?_
    (apply TB.takeA (At.mk : At 5); exact rfl; exact rfl; kernel_rfl; exact rfl; ((focus ((repeat (first | assumption | exact Ent.refl _ | apply Ent.tail)); done))); (apply PV.loadAggH (vs := chC ch); exact rfl; exact tb rfl; exact rfl; exact hce; exact hlc))
    refine m_bake (At.mk : At 6) ?_; refine m_bake (At.mk : At 7) ?_; refine m_bake (At.mk : At 8) ?_; refine m_bake (At.mk : At 9) ?_; refine m_bake (At.mk : At 10) ?_
    (apply TB.one 11; kernel_rfl; exact rfl; exact rfl)
    (apply TL.callV; exact rfl; exact callB_of (by kernel_rfl); exact rfl; exact fun _ h => h)
    exact fact13_t ch c.h _ hch (Atm.ok_tl (Atm.ok_tl hco3.1)) (by omega) hhv.2
    rintro _ _ ⟨f, Γ', rfl, rfl, hfc, hfs, hfp⟩
    obtain ⟨R, hR⟩ := sub_perm13 hfs
    have hfo := Fct.ok_own hfc (Γ3 ++ R)
    refine TL.imp (Δ := row b6 (chC ch) 181 :: fRow bx c FA F.length Fc NA N.length Nc OA O.length Ok :: (own 23 1 (.slice f.A f.l.length f.c) f.l.length (u32s f.l) :: (Γ3 ++ R))) (fun m hm => all_perm ((hR.cons _).trans (perm_rot2 _ _ _ _)) hm) ?_
    have hs4 : Γ3.Sublist (own 23 1 (.slice f.A f.l.length f.c) f.l.length (u32s f.l) :: (Γ3 ++ R)) := .cons _ (List.sublist_append_left _ _)
    generalize own 23 1 (.slice f.A f.l.length f.c) f.l.length (u32s f.l) :: (Γ3 ++ R) = Γ4 at *
    have hE : Ent (row b6 (chC ch) 181 :: fRow bx c FA F.length Fc NA N.length Nc OA O.length Ok :: Γ4) (row b6 (chC ch) 181 :: fRow bx c FA F.length Fc NA N.length Nc OA O.length Ok :: Γ3) := fun m hm => all_sub (.cons_cons _ (.cons_cons _ hs4)) hm
    refine TL.backB hE ?_
    (apply TB.one 12; kernel_rfl; exact rfl; exact rfl)
    have hfl : f.l.length ≤ 1000000 := by
      have := congrArg (fun p : PF => p.2.length) hfp
      simp only [pf, instF, instS, List.length_map] at this
      omega
    (apply TL.callV; exact rfl; exact callB_of (by kernel_rfl); exact rfl; exact fun _ h => h)
    exact with13_t [row b6 (chC ch) 181, fRow bx c FA F.length Fc NA N.length Nc OA O.length Ok] OA Ok O f Γ4 (hO3.sub hs4) hfo hfl (by omega) hS
    rintro _ _ ⟨Γ5, rfl, O2, B2, k2, rfl, hO2, hs5, hS2, hm2, hl2⟩
    refine TL.imp (Δ := row b6 (chC ch) 181 :: fRow bx c FA F.length Fc NA N.length Nc OA O.length Ok :: Γ5) (fun _ h => h) ?_
    have hs6 := hs4.trans hs5
    have hE2 : Ent (row b6 (chC ch) 181 :: fRow bx c FA F.length Fc NA N.length Nc OA O.length Ok :: Γ5) (row b6 (chC ch) 181 :: fRow bx c FA F.length Fc NA N.length Nc OA O.length Ok :: Γ3) := fun m hm => all_sub (.cons_cons _ (.cons_cons _ hs6)) hm
    refine TL.backB hE2 ?_
    refine m_bake (At.mk : At 13) ?_; refine m_bake (At.mk : At 14) ?_
    (apply TB.last; kernel_rfl; exact rfl)
    refine m_rrun ?_
    refine TL.back (fun m hm => all_sub (.cons _ (.cons _ hs6)) hm) ?_
    refine TA.done (by kernel_rfl) ?_
    refine m_run ?_
    refine TK.perm (.swap _ _ _) ?_
    refine TK.ret0 rfl rfl ⟨_, rfl, rfl, B2, k2, O2, _, rfl, .cons _ (hs3.trans hs6), hO2.sub (.cons _ (.refl _)), hS2, by simpa using hl2, fun z => ?_⟩
    rw [hm2, List.mem_append, List.drop_length, List.map_nil, HX_nil, List.mem_singleton, hfp]
    exact or_congr_right ⟨fun h => ⟨hno, h⟩, fun h => h.2⟩
  | succ k ih =>
    intro i ch OA Ok O Γ2 hik hch hsub hO hS hb
    refine Fn.enter Tryz.func133 rfl rfl rfl fun E => ?_
    refine m_run ?_
    (apply TL.box (l := chC ch); exact rfl; exact rfl; exact rfl)
    intro b6
    refine TL.imp (Δ := fRow bx c FA F.length Fc NA N.length Nc OA O.length Ok :: row b6 (chC ch) 181 :: Γ2) (fun m hm => all_perm (.swap _ _ _) hm) ?_
    have hlc := chC_len hch
    have hsm := mayC_vars hmay
    have hi : i < c.l.length := by omega
    obtain ⟨x, hx⟩ : ∃ x, c.l[i]? = some x := ⟨c.l[i], List.getElem?_eq_getElem hi⟩
    have hxm := List.mem_of_getElem? hx
    have hxv := mayA_vars (hsm.2.2 x hxm)
    have hdr : (c.l.drop i).map pureL = pureL x :: (c.l.drop (i + 1)).map pureL := by
      obtain ⟨h1, h2⟩ := List.getElem?_eq_some_iff.1 hx
      rw [List.drop_eq_getElem_cons h1, h2, List.map_cons]
    have hpow : (F.length + 1) ^ (k + 1) = F.length * (F.length + 1) ^ k + (F.length + 1) ^ k := by rw [Nat.pow_succ, Nat.mul_add, Nat.mul_one, Nat.mul_comm]
    have hsubG : Γ.Sublist (row b6 (chC ch) 181 :: Γ2) := .cons _ hsub
    have hA0 := (Cl.ok_sub hsubG hco).2.1
    refine TL.mem fun m0 hm0 => ?_
    obtain ⟨g, u, hg⟩ := src_some ((has_tls hA0 : has (_ :: _ :: Γ2) _) m0 hm0) (by rw [ltsC_len]; omega)
    clear hm0 m0
    have hel0 := hco.2.1
    rw [hg] at hel0
    have hel : has Γ (fun m => cellsAt m g (u + i * 3) [.bool x.no, .int .u32 (x.a.p : Int), .slice x.a.A x.a.l.length x.a.c]) := has_el (sz := 3) (f := Lt.cells) (fun _ => rfl) (by decide) hel0 hx
    have hc0 : has Γ2 (fun m => cellAt m g (u + i * 3) (.bool x.no)) := has_sublist (up_cell _ _ _) hsub (has_cell hel 0 rfl)
    have hcG : has Γ (fun m => cellsAt m g (u + i * 3 + 1) [.int .u32 (x.a.p : Int), .slice x.a.A x.a.l.length x.a.c]) := has_sub13 hel 1 2 rfl rfl
    have hce0 : has (row b6 (chC ch) 181 :: Γ2) (fun m => cellsAt m b6 0 (chC ch)) := ch_cells 0 rfl
    refine m_run ?_
    refine TL.know (t := 77) (v := .slice (some ⟨g, u, none⟩) c.l.length c.c) (congrArg (fun a => Value.slice a c.l.length c.c) hg) ?_
    refine m_run ?_
    cases hxn : x.no with
    | true =>
      refine m_run ?_
      refine TL.know (t := 84) (v := .int .i64 ((i + 1 : Nat) : Int)) (congrArg (Value.int .i64) (i64_succ i (by omega))) ?_
      (apply TL.pv; exact rfl; (apply PV.loadAggH (vs := chC ch); exact rfl; exact tb rfl; exact rfl; exact has_tlg hce0; exact hlc))
      refine m_run ?_
      (apply TL.callV; exact rfl; exact callB_of (by kernel_rfl); exact rfl; exact fun _ h => h)
      exact ih (i + 1) ch OA Ok O (row b6 (chC ch) 181 :: Γ2) (by omega) hch hsubG (hO.sub (.cons _ (.refl _))) hS (by rw [hpow] at hb; omega)
      rintro _ _ ⟨rfl, OA', Ok', O', Γ3, rfl, hs3, hO', hS', hl', hm'⟩
      refine m_run ?_
      refine TK.ret0 rfl rfl ⟨_, rfl, rfl, OA', Ok', O', Γ3, rfl, (List.Sublist.cons _ (.refl _)).trans hs3, hO', hS', by rw [hpow]; omega, fun z => ?_⟩
      rw [hm', hdr, HX_neg (y := pureL x) hxn]
    | false =>
    refine m_run ?_
    apply TK.iter (fun j ρ' Γ' => ∃ (n : Nat) (OA1 : Option Addr) (Ok1 : Nat) (O1 : List Fct) (Γ3 : List HP), n + j = F.length ∧ (row b6 (chC ch) 181 :: Γ2).Sublist Γ3 ∧ Fcs OA1 O1 Γ3 ∧ Srt (O1.map pf) ∧ O1.length ≤ O.length + n * (F.length + 1) ^ k ∧ (∀ z, z ∈ O1.map pf ↔ z ∈ O.map pf ∨ ∃ f ∈ (F.take n).map pf, ∃ e, meetP ch (pureL x).2 f = some e ∧ HX (c.l.map pureL) (c.h.p, c.h.l) (F.map pf) (N.map pf) ((c.l.drop (i + 1)).map pureL) e z) ∧ lk ρ' 0 = .pointer (some ⟨bx, 0, none⟩) ∧ lk ρ' 1 = .int .i64 (i : Int) ∧ lk ρ' 3 = .bool true ∧ lk ρ' 6 = .pointer (some ⟨b6, 0, none⟩) ∧ lk ρ' 9 = .int .i64 (n : Int) ∧ Γ' = fRow bx c FA F.length Fc NA N.length Nc OA1 O1.length Ok1 :: Γ3) F.length
    · exact ⟨0, OA, Ok, O, _, Nat.zero_add _, .refl _, hO.sub (.cons _ (.refl _)), hS, by omega, by simp, rfl, rfl, rfl, rfl, rfl, rfl⟩
    rintro j IH ρ' _ ⟨n, OA1, Ok1, O1, Γ3, hnj, hs3, hO1, hS1, hl1, hm1, e0, e1, e3, e6, e9, rfl⟩
    refine TK.know5 e0 e1 e3 e6 e9 ?_
    have hs23 := (List.Sublist.cons (row b6 (chC ch) 181) (.refl Γ2)).trans hs3
    have hsG3 := hsub.trans hs23
    by_cases hn : n < F.length
    · obtain ⟨f, hf⟩ : ∃ f, F[n]? = some f := ⟨F[n], List.getElem?_eq_getElem hn⟩
      have hfm := List.mem_of_getElem? hf
      have hF3 := hF.sub hsG3
      have hFs := hF3.src
      have hce := has_sublist (up_cells _ _ _) hs3 hce0
      refine TK.mem fun m0 hm0 => ?_
      obtain ⟨g2, u2, hg2⟩ := src_some ((has_tls hFs : has (_ :: Γ3) _) m0 hm0) (by rw [fcsC_len]; omega)
      clear hm0 m0
      rw [hg2] at hFs
      have hcf : has Γ3 (fun m => cellsAt m g2 (u2 + n * 2) [.int .u32 (f.p : Int), .slice f.A f.l.length f.c]) := fct_el hFs hf
      have hca := has_sublist (up_cells _ _ _) hsG3 hcG
      have htk : (F.take (n + 1)).map pf = (F.take n).map pf ++ [pf f] := by rw [List.take_add_one, hf]; simp
      refine m_run ?_
      refine TK.drawS mixed rfl ?_
      (apply TA.takeA (At.mk : At 0); exact rfl; exact rfl; kernel_rfl; ((focus ((repeat (first | assumption | exact Ent.refl _ | apply Ent.tail)); done))); (apply PV.loadAggH (vs := chC ch); exact rfl; exact tb rfl; exact rfl; exact has_tlg hce; exact hlc))
      refine m_take (At.mk : At 1) ?_; refine m_take (At.mk : At 2) ?_; refine m_take (At.mk : At 3) ?_; refine m_take (At.mk : At 4) ?_; refine m_take (At.mk : At 5) ?_
      refine TA.know (t := 103) (v := .slice (some ⟨g, u, none⟩) c.l.length c.c) (congrArg (fun a => Value.slice a c.l.length c.c) hg) ?_
      refine m_take (At.mk : At 6) ?_; refine m_take (At.mk : At 7) ?_; refine m_take (At.mk : At 8) ?_; refine m_take (At.mk : At 9) ?_; refine m_take (At.mk : At 10) ?_; refine m_take (At.mk : At 11) ?_; refine m_take (At.mk : At 12) ?_; refine m_take (At.mk : At 13) ?_
      refine TA.know (t := 111) (v := .slice (some ⟨g2, u2, none⟩) F.length Fc) (congrArg (fun a => Value.slice a F.length Fc) hg2) ?_
      refine m_take (At.mk : At 14) ?_; refine m_take (At.mk : At 15) ?_; refine m_take (At.mk : At 16) ?_
      have hax : x.a.ok Γ3 := Atm.ok_sub13 hsG3 (hco.2.2.2 x hxm)
      have hfx : f.ok Γ3 := hF3.ok f hfm
      refine TA.cutJ [17, 21, 18, 19, 20] (fun ρ' Γ' => ∃ (c' : Ch) (b10 : Nat), chOk c' ∧ (∀ d, meetP ch (pureL x).2 (pf f) = some d → c' = d) ∧ lk ρ' 0 = .pointer (some ⟨bx, 0, none⟩) ∧ lk ρ' 1 = .int .i64 (i : Int) ∧ lk ρ' 3 = .bool true ∧ lk ρ' 6 = .pointer (some ⟨b6, 0, none⟩) ∧ lk ρ' 9 = .int .i64 (n : Int) ∧ lk ρ' 97 = .tuple #[.agg (chC c').toArray, .bool (meetP ch (pureL x).2 (pf f)).isSome] ∧ lk ρ' 116 = .agg (chC c').toArray ∧ lk ρ' 117 = .bool (meetP ch (pureL x).2 (pf f)).isSome ∧ lk ρ' 10 = .pointer (some ⟨b10, 0, none⟩) ∧ Γ' = row b10 (chC ch0) 181 :: fRow bx c FA F.length Fc NA N.length Nc OA1 O1.length Ok1 :: Γ3) rfl ?_ ?_
      · intro tail
        refine TA.two 17 21 (by kernel_rfl) rfl rfl ?_ ?_
        · (apply TL.callV; exact rfl; exact callB_of (by kernel_rfl); exact rfl; exact fun _ h => h)
          exact meet_t ch x.a f _ hch (Atm.ok_tl hax) (Fct.ok_tl hfx) (by omega) hxv.2
          rintro _ _ ⟨⟨c', rfl, hc', hcd⟩, rfl⟩
          refine TL.back (by (focus ((repeat (first | assumption | exact Ent.refl _ | apply Ent.tail)); done))) ?_
          refine m_take (At.mk : At 18) ?_; refine m_take (At.mk : At 19) ?_; refine m_take (At.mk : At 20) ?_
          (apply TA.one 21; kernel_rfl; exact rfl)
          (apply TL.alloc; exact rfl; exact tb rfl; exact (rfl : _ = chC ch0))
          intro b10
          refine TL.back (by (focus ((repeat (first | assumption | exact Ent.refl _ | apply Ent.tail)); done))) ?_
          refine TA.eqL ?_ (tail _ _ ⟨c', b10, hc', hcd, rfl, rfl, rfl, rfl, rfl, rfl, rfl, rfl, rfl, rfl⟩)
          kernel_rfl
        · (apply TL.alloc; exact rfl; exact tb rfl; exact (rfl : _ = chC ch0))
          intro b10
          refine TL.back (by (focus ((repeat (first | assumption | exact Ent.refl _ | apply Ent.tail)); done))) ?_
          (apply TA.one 17; kernel_rfl; exact rfl)
          (apply TL.callV; exact rfl; exact callB_of (by kernel_rfl); exact rfl; exact fun _ h => h)
          exact meet_t ch x.a f _ hch (Atm.ok_tl (Atm.ok_tl hax)) (Fct.ok_tl (Fct.ok_tl hfx)) (by omega) hxv.2
          rintro _ _ ⟨⟨c', rfl, hc', hcd⟩, rfl⟩
          refine TL.back (by (focus ((repeat (first | assumption | exact Ent.refl _ | apply Ent.tail)); done))) ?_
          refine m_take (At.mk : At 18) ?_; refine m_take (At.mk : At 19) ?_; refine m_take (At.mk : At 20) ?_
          refine TA.eqL ?_ (tail _ _ ⟨c', b10, hc', hcd, rfl, rfl, rfl, rfl, rfl, rfl, rfl, rfl, rfl, rfl⟩)
          kernel_rfl
      rintro ρ3 _ ⟨c', b10, hc', hcd, q0, q1, q3, q6, q9, q97, q116, q117, q10, rfl⟩
      refine TA.know (t := 0) (v := .pointer (some ⟨bx, 0, none⟩)) q0 ?_
      refine TA.know (t := 1) (v := .int .i64 (i : Int)) q1 ?_
      refine TA.know (t := 3) (v := .bool true) q3 ?_
      refine TA.know (t := 6) (v := .pointer (some ⟨b6, 0, none⟩)) q6 ?_
      refine TA.know (t := 9) (v := .int .i64 (n : Int)) q9 ?_
      refine TA.know (t := 97) (v := .tuple #[.agg (chC c').toArray, .bool (meetP ch (pureL x).2 (pf f)).isSome]) q97 ?_
      refine TA.know (t := 116) (v := .agg (chC c').toArray) q116 ?_
      refine TA.know (t := 117) (v := .bool (meetP ch (pureL x).2 (pf f)).isSome) q117 ?_
      refine TA.know (t := 10) (v := .pointer (some ⟨b10, 0, none⟩)) q10 ?_
      have hl0 := chC_len ch0_ok
      (apply TA.one 22; kernel_rfl; exact rfl)
      (apply TL.storeAggR 0 (vs := chC c') (l' := chC c'); exact rfl; exact rfl; exact rfl; exact chC_allOne _; exact tb rfl; exact (by rw [chC_len hc']; rfl); exact (by rw [chC_len hc', hl0]; rfl); exact (by rw [chC_len hc', List.take_zero, List.nil_append, List.drop_of_length_le (by rw [hl0]; decide), List.append_nil]); exact rfl)
      refine TL.back (by (focus ((repeat (first | assumption | exact Ent.refl _ | apply Ent.tail)); done))) ?_
      refine m_take (At.mk : At 23) ?_
      refine TA.done (by kernel_rfl) ?_
      have hmul : n * (F.length + 1) ^ k + (F.length + 1) ^ k ≤ F.length * (F.length + 1) ^ k := by
        have := Nat.mul_le_mul_right ((F.length + 1) ^ k) (Nat.succ_le_of_lt hn)
        rwa [Nat.succ_mul] at this
      have hsn : (n + 1) * (F.length + 1) ^ k = n * (F.length + 1) ^ k + (F.length + 1) ^ k := Nat.succ_mul _ _
      cases hmt : meetP ch (pureL x).2 (pf f) with
      | none =>
        refine m_run ?_
        refine TK.drop ?_
        refine IH (j - 1) _ _ (by omega) ⟨n + 1, OA1, Ok1, O1, Γ3, by omega, hs3, hO1, hS1, by omega, fun z => ?_, rfl, rfl, rfl, rfl, congrArg (Value.int .i64) (i64_succ n (by omega)), rfl⟩
        rw [hm1, htk]
        refine or_congr_right ⟨fun ⟨f', hf', e, he, h⟩ => ⟨f', List.mem_append_left _ hf', e, he, h⟩, fun ⟨f', hf', e, he, h⟩ => ?_⟩
        rcases List.mem_append.1 hf' with h1 | h1
        · exact ⟨f', h1, e, he, h⟩
        · rw [List.mem_singleton.1 h1, hmt] at he; cases he
      | some e =>
        obtain rfl := hcd e hmt
        refine TK.perm (.swap _ _ _) ?_
        have hc10 : has (row b10 (chC c') 181 :: Γ3) (fun m => cellsAt m b10 0 (chC c')) := ch_cells 0 rfl
        have hs310 : Γ3.Sublist (row b10 (chC c') 181 :: Γ3) := .cons _ (.refl _)
        generalize row b10 (chC c') 181 :: Γ3 = Γ4 at *
        refine m_run ?_
        refine TK.drawE mixed rfl Γ4 ?_
        refine m_take (At.mk : At 0) ?_; refine m_take (At.mk : At 1) ?_; refine m_take (At.mk : At 2) ?_
        refine TA.know (t := 121) (v := .int .i64 ((i + 1 : Nat) : Int)) (congrArg (Value.int .i64) (i64_succ i (by omega))) ?_
        (apply TA.takeA (At.mk : At 3); exact rfl; exact rfl; kernel_rfl; ((focus ((repeat (first | assumption | exact Ent.refl _ | apply Ent.tail)); done))); (apply PV.loadAggH (vs := chC c'); exact rfl; exact tb rfl; exact rfl; exact hc10; exact chC_len hc'))
        refine m_take (At.mk : At 4) ?_; refine m_take (At.mk : At 5) ?_; refine m_take (At.mk : At 6) ?_; refine m_take (At.mk : At 7) ?_; refine m_take (At.mk : At 8) ?_; refine m_take (At.mk : At 9) ?_; refine m_take (At.mk : At 10) ?_; refine m_take (At.mk : At 11) ?_; refine m_take (At.mk : At 12) ?_; refine m_take (At.mk : At 13) ?_; refine m_take (At.mk : At 14) ?_; refine m_take (At.mk : At 15) ?_; refine m_take (At.mk : At 16) ?_; refine m_take (At.mk : At 17) ?_; refine m_take (At.mk : At 18) ?_
        (apply TA.one 19; kernel_rfl; exact rfl)
        (apply TL.callV; exact rfl; exact callB_of (by kernel_rfl); exact rfl; exact fun _ h => h)
        exact ih (i + 1) c' OA1 Ok1 O1 Γ4 (by omega) hc' (hsG3.trans hs310) (hO1.sub hs310) hS1 (by rw [hpow] at hb; omega)
        rintro _ _ ⟨rfl, OA', Ok', O', Γ5, rfl, hs5, hO', hS', hl', hm'⟩
        refine TL.back (fun m hm => all_sub (.cons _ hs5) hm) ?_
        refine TA.done (by kernel_rfl) ?_
        refine m_run ?_
        refine IH (j - 1) _ _ (by omega) ⟨n + 1, OA', Ok', O', Γ5, by omega, (hs3.trans hs310).trans hs5, hO', hS', by omega, fun z => ?_, rfl, rfl, rfl, rfl, congrArg (Value.int .i64) (i64_succ n (by omega)), rfl⟩
        rw [hm', hm1, htk, or_assoc]
        refine or_congr_right ⟨fun h => ?_, fun ⟨f', hf', e, he, h⟩ => ?_⟩
        · rcases h with ⟨f', hf', e, he, h⟩ | h
          · exact ⟨f', List.mem_append_left _ hf', e, he, h⟩
          · exact ⟨pf f, List.mem_append_right _ (List.mem_singleton.2 rfl), c', hmt, h⟩
        · rcases List.mem_append.1 hf' with h1 | h1
          · exact .inl ⟨f', h1, e, he, h⟩
          · rw [List.mem_singleton.1 h1, hmt] at he
            injection he with he
            exact .inr (he ▸ h)
    obtain rfl : n = F.length := by omega
    rw [List.take_length] at hm1
    refine m_run ?_
    refine TK.over0 rfl rfl ⟨_, rfl, rfl, OA1, Ok1, O1, Γ3, rfl, hs23, hO1, hS1, by rw [hpow]; omega, fun z => ?_⟩
    rw [hm1, hdr, HX_pos (y := pureL x) hxn]
end Go.Proofs.YthbcfamfaicneaaGreat.E

/- The document on levels: Of, preds, walked. -/
namespace Go.Proofs.YthbcfamfaicneaaGreat.E
open Go Go.RowKit Go.Proofs
attribute [local irreducible] TK TL TQ TA TB Fn PV
abbrev Lv := Nat × Nat
def lvC (x : Lv) : List Value := [.int .u32 (x.1 : Int), .int .i64 (x.2 : Int)]
abbrev lvsC (l : List Lv) : List Value := l.flatMap lvC
theorem lvsC_len (l : List Lv) : (lvsC l).length = l.length * 2 := flat_len (f := lvC) (sz := 2) (fun _ => rfl) l
theorem lvsC_one (l : List Lv) : ∀ u ∈ lvsC l, u.oneCell' = true := by
  intro u hu
  obtain ⟨c, _, hc⟩ := List.mem_flatMap.1 hu
  simp only [lvC, List.mem_cons, List.not_mem_nil, or_false] at hc
  rcases hc with rfl | rfl <;> rfl
abbrev ownL (B : Option Addr) (k : Nat) (O : List Lv) : HP := own 138 2 (.slice B O.length k) O.length (lvsC O)
theorem lv_el {Γ : List HP} {g u n i : Nat} {L : List Lv} {x : Lv} (h : has Γ (srcAt 2 (some ⟨g, u, none⟩) n (lvsC L))) (hi : L[i]? = some x) : has Γ (fun m => cellsAt m g (u + i * 2) [.int .u32 (x.1 : Int), .int .i64 (x.2 : Int)]) := has_el (sz := 2) (f := lvC) (fun _ => rfl) (by decide) h hi
/-- A predicate's level among some; none: it has none. -/
def lvOf (O : List Lv) (p : Nat) : Option Nat := (O.find? fun x => decide (x.1 = p)).map (·.2)
def lvI : Option Nat → Int
  | none => -1
  | some v => v
set_option maxRecDepth 100000 in
theorem of12_t (A : Option Addr) (c : Nat) (O : List Lv) (p : Nat) (Γ : List HP) (h : has Γ (srcAt 2 A O.length (lvsC O))) (hn : O.length ≤ 1000000) :
    FnV Tryz.prog 95 [.slice A O.length c, .int .u32 (p : Int)] Γ fun r Γ' => r = .int .i64 (lvI (lvOf O p)) ∧ Γ' = Γ := by
  refine Fn.enter Tryz.func95 rfl rfl rfl fun E => ?_
  refine m_run ?_
  apply TK.iter (fun j ρ' Γ' => ∃ i : Nat, i + j = O.length ∧ (∀ x ∈ O.take i, x.1 ≠ p) ∧ lk ρ' 0 = .slice A O.length c ∧ lk ρ' 1 = .int .u32 (p : Int) ∧ lk ρ' 5 = .int .i64 (i : Int) ∧ Γ' = Γ) O.length
  · exact ⟨0, Nat.zero_add _, by simp, rfl, rfl, rfl, rfl⟩
  rintro j IH ρ' Γ ⟨i, hij, hno, e0, e1, e5, rfl⟩
  refine TK.know3 e0 e1 e5 ?_
  by_cases hi : i < O.length
  · obtain ⟨x, hx⟩ : ∃ x, O[i]? = some x := ⟨O[i], List.getElem?_eq_getElem hi⟩
    have htk : O.take (i + 1) = O.take i ++ [x] := by rw [List.take_add_one, hx]; simp
    refine TK.mem fun m0 hm0 => ?_
    obtain ⟨g, u, rfl⟩ := src_some (h m0 hm0) (by rw [lvsC_len]; omega)
    clear hm0 m0
    have hc0 : has Γ (fun m => cellAt m g (u + i * 2) (.int .u32 (x.1 : Int))) := has_cell (lv_el h hx) 0 rfl
    have hc1 : has Γ (fun m => cellAt m g (u + i * 2 + 1) (.int .i64 (x.2 : Int))) := has_cell (lv_el h hx) 1 rfl
    refine m_run ?_
    by_cases hxp : x.1 = p
    · refine m_run ?_
      (apply TK.ret1; exact rfl; exact rfl; (exact m_val))
      refine ⟨_, rfl, ?_, rfl⟩
      have : O.find? (fun x => decide (x.1 = p)) = some x := by
        rw [← List.take_append_drop (i + 1) O, htk, List.append_assoc, List.find?_append, List.find?_eq_none.2 fun y hy => by simpa using hno y hy]
        simp [hxp]
      unfold lvOf
      rw [this]; rfl
    · refine m_run ?_
      refine IH (j - 1) _ _ (by omega) ⟨i + 1, by omega, fun y hy => ?_, rfl, rfl, congrArg (Value.int .i64) (i64_succ i (by omega)), rfl⟩
      rw [htk] at hy
      rcases List.mem_append.1 hy with h1 | h1
      · exact hno y h1
      · rw [List.mem_singleton.1 h1]; exact hxp
  obtain rfl : i = O.length := by omega
  rw [List.take_length] at hno
  refine m_run ?_
  (apply TK.ret1; exact rfl; exact rfl; (exact m_val))
  refine ⟨_, rfl, ?_, rfl⟩
  unfold lvOf
  rw [List.find?_eq_none.2 fun y hy => by simpa using hno y hy]
  rfl
def UpL (O : List Lv) : Prop := (O.map (·.1)).Pairwise (· < ·)
theorem UpL.put {A B : List Lv} {x : Lv} (h : UpL (A ++ B)) (h1 : ∀ y, A.getLast? = some y → y.1 < x.1) (h2 : ∀ y ∈ B, x.1 < y.1) : UpL (A ++ x :: B) := by
  unfold UpL at *
  rw [List.map_append] at *
  obtain ⟨ha, hb, hab⟩ := List.pairwise_append.1 h
  have hA : ∀ y ∈ A, y.1 < x.1 := by
    intro y hy
    obtain ⟨A', z, rfl⟩ : ∃ A' z, A = A' ++ [z] := ⟨A.dropLast, A.getLast (List.ne_nil_of_mem hy), (List.dropLast_concat_getLast _).symm⟩
    have hz := h1 z (by simp)
    rcases List.mem_append.1 hy with h3 | h3
    · rw [List.map_append] at ha
      exact Nat.lt_trans ((List.pairwise_append.1 ha).2.2 y.1 (List.mem_map_of_mem h3) z.1 (by simp)) hz
    · rw [List.mem_singleton.1 h3]; exact hz
  rw [List.map_cons]
  refine List.pairwise_append.2 ⟨ha, List.pairwise_cons.2 ⟨fun b hb' => ?_, hb⟩, fun a haa b hbb => ?_⟩
  · obtain ⟨y, hy, rfl⟩ := List.mem_map.1 hb'
    exact h2 y hy
  · rcases List.mem_cons.1 hbb with rfl | h3
    · obtain ⟨y, hy, rfl⟩ := List.mem_map.1 haa
      exact hA y hy
    · exact hab a haa b h3
set_option maxRecDepth 100000 in
set_option maxHeartbeats 16000000 in
theorem preds_t (A : Option Addr) (cc : Nat) (l : List Cl) (Γ : List HP) (h : clsOk A l Γ) (hn : l.length ≤ 1000000) (hall : (allA l).length ≤ 1000000) :
    FnV Tryz.prog 94 [.slice A l.length cc] Γ fun v Γ' => ∃ (O : List Lv) (B : Option Addr) (k : Nat) (Γ2 : List HP), v = .slice B O.length k ∧ Γ' = ownL B k O :: Γ2 ∧ Γ.Sublist Γ2 ∧ UpL O ∧ (∀ p, p ∈ O.map (·.1) ↔ ∃ a ∈ allA l, a.p = p) ∧ (∀ x ∈ O, x.2 = 0) ∧ O.length ≤ (allA l).length := by
  refine Fn.enter Tryz.func94 rfl rfl rfl fun E => ?_
  refine m_run ?_
  refine TK.free (H := own 138 2 (.slice none 0 0) 0 []) (fun m hm => own_nil _ _ hm) ?_
  apply TK.iter (fun j ρ' Γ' => ∃ (i : Nat) (O : List Lv) (B : Option Addr) (k : Nat) (Γ2 : List HP), i + j = l.length ∧ Γ.Sublist Γ2 ∧ UpL O ∧ (∀ p, p ∈ O.map (·.1) ↔ ∃ a ∈ allA (l.take i), a.p = p) ∧ (∀ x ∈ O, x.2 = 0) ∧ O.length ≤ (allA (l.take i)).length ∧ lk ρ' 0 = .slice A l.length cc ∧ lk ρ' 3 = .slice B O.length k ∧ lk ρ' 4 = .int .i64 (i : Int) ∧ Γ' = ownL B k O :: Γ2) l.length
  · exact ⟨0, [], none, 0, Γ, Nat.zero_add _, .refl _, List.Pairwise.nil, by simp [allA], by simp, Nat.zero_le _, rfl, rfl, rfl, rfl⟩
  rintro j IH ρ' _ ⟨i, O, B, k, Γ2, hij, hs2, hU, hm, h0, hl, e0, e3, e4, rfl⟩
  refine TK.know3 e0 e3 e4 ?_
  by_cases hi : i < l.length
  · obtain ⟨C, hC⟩ : ∃ C, l[i]? = some C := ⟨l[i], List.getElem?_eq_getElem hi⟩
    have hCm := List.mem_of_getElem? hC
    obtain ⟨hCo, hCs⟩ := h.2 C hCm
    have hsn := allA_snoc hC
    have hle := allA_le (l := l) (i + 1)
    rw [hsn, List.length_append] at hle
    have hs := has_sublist (up_src _ _ _ _) hs2 h.1
    refine TK.mem fun m0 hm0 => ?_
    obtain ⟨g, u, rfl⟩ := src_some ((has_tls hs : has (_ :: Γ2) _) m0 hm0) (by rw [clsC_len]; omega)
    clear hm0 m0
    have hcl : has Γ2 (fun m => cellsAt m g (u + i * 3) [.int .u32 (C.h.p : Int), .slice C.h.A C.h.l.length C.h.c, .slice C.A C.l.length C.c]) := has_el (sz := 3) (f := Cl.cells) (fun _ => rfl) (by decide) hs hC
    refine m_run ?_
    (apply TL.callV; exact rfl; exact callB_of (by kernel_rfl); exact rfl; exact fun _ h => h)
    exact atoms_t C _ (Cl.ok_tl (Cl.ok_sub hs2 hCo)) hCs
    rintro _ _ ⟨B5, k5, hk5, rfl, rfl⟩
    refine TL.imp (Δ := ownL B k O :: own 30 2 (.slice B5 (atomsOf C).length k5) (atomsOf C).length (atmsC (atomsOf C)) :: Γ2) (fun m hm => all_perm (.swap _ _ _) hm) ?_
    have hat : has (own 30 2 (.slice B5 (atomsOf C).length k5) (atomsOf C).length (atmsC (atomsOf C)) :: Γ2) (srcAt 2 B5 (atomsOf C).length (atmsC (atomsOf C))) := has_at (up_src _ _ _ _) 0 rfl fun _ h => own_src h
    have hs3 : Γ2.Sublist (own 30 2 (.slice B5 (atomsOf C).length k5) (atomsOf C).length (atmsC (atomsOf C)) :: Γ2) := .cons _ (.refl _)
    generalize own 30 2 (.slice B5 (atomsOf C).length k5) (atomsOf C).length (atmsC (atomsOf C)) :: Γ2 = Γ3 at *
    have hanl : (atomsOf C).length ≤ 1000000 := by omega
    generalize atomsOf C = as_ at *
    refine m_run ?_
    apply TK.iter (fun j ρ' Γ' => ∃ (q : Nat) (O1 : List Lv) (B1 : Option Addr) (k1 : Nat) (Γ4 : List HP), q + j = as_.length ∧ Γ3.Sublist Γ4 ∧ UpL O1 ∧ (∀ p, p ∈ O1.map (·.1) ↔ p ∈ O.map (·.1) ∨ ∃ a ∈ as_.take q, a.p = p) ∧ (∀ x ∈ O1, x.2 = 0) ∧ O1.length ≤ O.length + q ∧ lk ρ' 0 = .slice (some ⟨g, u, none⟩) l.length cc ∧ lk ρ' 3 = .slice B1 O1.length k1 ∧ lk ρ' 4 = .int .i64 (i : Int) ∧ lk ρ' 5 = .slice B5 as_.length k5 ∧ lk ρ' 6 = .int .i64 (q : Int) ∧ Γ' = ownL B1 k1 O1 :: Γ4) as_.length
    · exact ⟨0, O, B, k, Γ3, Nat.zero_add _, .refl _, hU, by simp, h0, by omega, rfl, rfl, rfl, rfl, rfl, rfl⟩
    rintro j2 IH2 ρ2 _ ⟨q, O1, B1, k1, Γ4, hqj, hs4, hU1, hm1, h01, hl1, e0, e3, e4, e5, e6, rfl⟩
    refine TK.know5 e0 e3 e4 e5 e6 ?_
    by_cases hq : q < as_.length
    · obtain ⟨a, ha⟩ : ∃ a, as_[q]? = some a := ⟨as_[q], List.getElem?_eq_getElem hq⟩
      have htk : ∀ b, b ∈ as_.take (q + 1) ↔ b ∈ as_.take q ∨ b = a := fun b => by rw [List.take_add_one, ha]; simp
      have hat4 := has_sublist (up_src _ _ _ _) hs4 hat
      refine TK.mem fun m0 hm0 => ?_
      obtain ⟨g5, u5, rfl⟩ := src_some ((has_tls hat4 : has (_ :: Γ4) _) m0 hm0) (by rw [atmsC_len]; omega)
      clear hm0 m0
      have hca : has Γ4 (fun m => cellAt m g5 (u5 + q * 2) (.int .u32 (a.p : Int))) := has_cell (has_el (sz := 2) (f := Atm.cells) (fun _ => rfl) (by decide) hat4 ha) 0 rfl
      refine m_run ?_
      apply TK.iter (fun j ρ' Γ' => ∃ n : Nat, n + j = O1.length ∧ lk ρ' 0 = .slice (some ⟨g, u, none⟩) l.length cc ∧ lk ρ' 3 = .slice B1 O1.length k1 ∧ lk ρ' 4 = .int .i64 (i : Int) ∧ lk ρ' 5 = .slice (some ⟨g5, u5, none⟩) as_.length k5 ∧ lk ρ' 6 = .int .i64 (q : Int) ∧ lk ρ' 7 = .int .i64 (O1.length : Int) ∧ lk ρ' 8 = .bool (decide (a.p ∈ (O1.take n).map (·.1))) ∧ lk ρ' 9 = .int .i64 (n : Int) ∧ Γ' = ownL B1 k1 O1 :: Γ4) O1.length
      · exact ⟨0, Nat.zero_add _, rfl, rfl, rfl, rfl, rfl, rfl, rfl, rfl, rfl⟩
      rintro j3 IH3 ρ3 _ ⟨n, hnj, e0, e3, e4, e5, e6, e7, e8, e9, rfl⟩
      refine TK.know8 e0 e3 e4 e5 e6 e7 e8 e9 ?_
      by_cases hn1 : n < O1.length
      · obtain ⟨x, hx⟩ : ∃ x, O1[n]? = some x := ⟨O1[n], List.getElem?_eq_getElem hn1⟩
        have hdt : decide (a.p ∈ (O1.take (n + 1)).map (·.1)) = (decide (a.p ∈ (O1.take n).map (·.1)) || decide (x.1 = a.p)) := by
          rw [List.take_add_one, hx, Bool.eq_iff_iff]
          simp only [Option.toList_some, List.map_append, List.map_cons, List.map_nil, List.mem_append, List.mem_singleton, decide_eq_true_iff, Bool.or_eq_true]
          exact or_congr_right ⟨Eq.symm, Eq.symm⟩
        refine TK.mem fun m0 hm0 => ?_
        obtain ⟨g1, hg1⟩ := own_addr hm0 (by omega)
        clear hm0 m0
        subst hg1
        have hcx : has (ownL (some ⟨g1, 0, none⟩) k1 O1 :: Γ4) (fun m => cellAt m g1 (n * 2) (.int .u32 (x.1 : Int))) := by
          have := has_cell (lv_el (has_at (Γ := ownL (some ⟨g1, 0, none⟩) k1 O1 :: Γ4) (up_src _ _ _ _) 0 rfl fun _ h => own_src h) hx) 0 rfl
          rw [Nat.zero_add] at this
          exact this
        refine m_run ?_
        refine TK.drawS mixed rfl ?_
        generalize decide (a.p ∈ (O1.take n).map (·.1)) = is_ at *
        cases is_ with
        | true =>
          refine m_take (At.mk : At 0) ?_; refine m_take (At.mk : At 1) ?_; refine m_take (At.mk : At 2) ?_; refine m_take (At.mk : At 3) ?_; refine m_take (At.mk : At 4) ?_; refine m_take (At.mk : At 5) ?_; refine m_take (At.mk : At 6) ?_; refine m_take (At.mk : At 7) ?_; refine m_take (At.mk : At 8) ?_; refine m_take (At.mk : At 9) ?_; refine m_take (At.mk : At 10) ?_; refine m_take (At.mk : At 11) ?_; refine m_take (At.mk : At 12) ?_; refine m_take (At.mk : At 13) ?_; refine m_take (At.mk : At 14) ?_
          refine TA.done (by kernel_rfl) ?_
          refine m_run ?_
          exact IH3 (j3 - 1) _ _ (by omega) ⟨n + 1, by omega, rfl, rfl, rfl, rfl, rfl, rfl, by rw [hdt]; rfl, congrArg (Value.int .i64) (i64_succ n (by omega)), rfl⟩
        | false =>
          refine m_take (At.mk : At 0) ?_; refine m_take (At.mk : At 1) ?_; refine m_take (At.mk : At 2) ?_; refine m_take (At.mk : At 3) ?_; refine m_take (At.mk : At 4) ?_; refine m_take (At.mk : At 5) ?_; refine m_take (At.mk : At 6) ?_; refine m_take (At.mk : At 7) ?_; refine m_take (At.mk : At 8) ?_; refine m_take (At.mk : At 9) ?_; refine m_take (At.mk : At 10) ?_; refine m_take (At.mk : At 11) ?_; refine m_take (At.mk : At 12) ?_
          refine TA.know (t := 47) (v := .bool (decide (x.1 = a.p))) (congrArg Value.bool (by rw [Bool.eq_iff_iff, beq_iff_eq, decide_eq_true_iff]; omega)) ?_
          refine m_take (At.mk : At 13) ?_; refine m_take (At.mk : At 14) ?_
          refine TA.done (by kernel_rfl) ?_
          refine m_run ?_
          exact IH3 (j3 - 1) _ _ (by omega) ⟨n + 1, by omega, rfl, rfl, rfl, rfl, rfl, rfl, by rw [hdt]; rfl, congrArg (Value.int .i64) (i64_succ n (by omega)), rfl⟩
      obtain rfl : n = O1.length := by omega
      clear IH3
      by_cases hin : a.p ∈ O1.map (·.1)
      · refine TK.know (t := 8) (v := .bool true) (congrArg Value.bool (by rw [List.take_length]; exact decide_eq_true hin)) ?_
        refine m_run ?_
        refine IH2 (j2 - 1) _ _ (by omega) ⟨q + 1, O1, B1, k1, Γ4, by omega, hs4, hU1, fun p => ?_, h01, by omega, rfl, rfl, rfl, rfl, congrArg (Value.int .i64) (i64_succ q (by omega)), rfl⟩
        rw [hm1]
        constructor
        · rintro (h1 | ⟨b, hb, h1⟩)
          · exact .inl h1
          · exact .inr ⟨b, (htk b).2 (.inl hb), h1⟩
        · rintro (h1 | ⟨b, hb, h1⟩)
          · exact .inl h1
          · rcases (htk b).1 hb with h2 | rfl
            · exact .inr ⟨b, h2, h1⟩
            · rw [← h1]; exact (hm1 _).1 hin
      refine TK.know (t := 8) (v := .bool false) (congrArg Value.bool (by rw [List.take_length]; exact decide_eq_false hin)) ?_
      refine m_run ?_
      (apply TL.pv; exact rfl; (apply PV.build tabs; exact rfl; exact rfl; exact rfl; exact rfl; exact rfl; exact (rfl : _ = lvC (0, 0))))
      (apply TL.buildSlice (l := lvC (0, 0)); exact rfl; exact tb rfl; exact rfl; exact tb rfl; exact rfl; exact rfl; exact rfl; exact rfl; exact rfl)
      intro b52
      refine m_run ?_
      (apply TL.append 1 (n := O1.length) (m := 1) (cs := lvsC O1) (news := lvC (0, 0)); exact rfl; exact rfl; exact tb rfl; exact rfl; exact tb rfl; exact rfl; exact rfl; exact rfl)
      · exact fun _ h => h
      · exact rfl
      · exact has_src_row 0 rfl rfl
      · exact lvsC_one [(0, 0)]
      · show (O1.length + 1) * 16 ≤ _; omega
      · show O1.length + 1 ≤ maxLen; unfold maxLen; omega
      · exact fun _ => (rfl : _ = _ :: _ :: _)
      intro B3 k3 hk3
      rw [show lvsC O1 ++ lvC (0, 0) = lvsC (O1 ++ [(0, 0)]) by simp]
      refine TL.imp (Δ := own 138 2 (.slice B3 (O1.length + 1) k3) (O1.length + 1) (lvsC (O1 ++ [(0, 0)])) :: row b52 (lvC (0, 0)) 138 :: Γ4) (fun m hm => all_perm (.swap _ _ _) hm) ?_
      refine TL.mem fun m0 hm0 => ?_
      obtain ⟨g3, hg3⟩ := own_addr hm0 (by omega)
      clear hm0 m0
      subst hg3
      refine m_run ?_
      apply TK.iter (fun j ρ' Γ' => ∃ M : List Lv, j ≤ O1.length ∧ M.length = O1.length + 1 ∧ M.take j = O1.take j ∧ M.drop (j + 1) = O1.drop j ∧ (∀ x ∈ O1.drop j, a.p < x.1) ∧ lk ρ' 0 = .slice (some ⟨g, u, none⟩) l.length cc ∧ lk ρ' 3 = .slice (some ⟨g3, 0, none⟩) (O1.length + 1) k3 ∧ lk ρ' 4 = .int .i64 (i : Int) ∧ lk ρ' 5 = .slice (some ⟨g5, u5, none⟩) as_.length k5 ∧ lk ρ' 6 = .int .i64 (q : Int) ∧ lk ρ' 7 = .int .i64 (j : Int) ∧ Γ' = own 138 2 (.slice (some ⟨g3, 0, none⟩) (O1.length + 1) k3) (O1.length + 1) (lvsC M) :: row b52 (lvC (0, 0)) 138 :: Γ4) O1.length
      · exact ⟨O1 ++ [(0, 0)], Nat.le_refl _, by simp, by simp, by simp, by simp, rfl, rfl, rfl, rfl, rfl, rfl, rfl⟩
      rintro at_ IH4 ρ4 _ ⟨M, hat1, hMl, htkM, hdrM, hgt, e0, e3, e4, e5, e6, e7, rfl⟩
      refine TK.know6 e0 e3 e4 e5 e6 e7 ?_
      have hca4 : has (own 138 2 (.slice (some ⟨g3, 0, none⟩) (O1.length + 1) k3) (O1.length + 1) (lvsC M) :: row b52 (lvC (0, 0)) 138 :: Γ4) (fun m => cellAt m g5 (u5 + q * 2) (.int .u32 (a.p : Int))) := has_tlc (has_tlc hca)
      have hfin : (∀ x, (O1.take at_).getLast? = some x → x.1 < a.p) → ∃ R : List Lv, M.set at_ (a.p, 0) = R ∧ UpL R ∧ (∀ p, p ∈ R.map (·.1) ↔ p ∈ O1.map (·.1) ∨ p = a.p) ∧ R.length = O1.length + 1 ∧ ∀ x ∈ R, x.2 = 0 := by
        intro hlast
        refine ⟨O1.take at_ ++ (a.p, 0) :: O1.drop at_, ?_, ?_, fun p => ?_, ?_, fun x hx => ?_⟩
        · rw [List.set_eq_take_append_cons_drop, if_pos (by omega), htkM, hdrM]
        · exact UpL.put (by rw [List.take_append_drop]; exact hU1) hlast hgt
        · have hh : ∀ y, y ∈ O1 ↔ y ∈ O1.take at_ ∨ y ∈ O1.drop at_ := fun y => by rw [← List.mem_append, List.take_append_drop]
          simp only [List.mem_map, List.mem_append, List.mem_cons, hh]
          constructor
          · rintro ⟨y, h | rfl | h, rfl⟩
            · exact .inl ⟨y, .inl h, rfl⟩
            · exact .inr rfl
            · exact .inl ⟨y, .inr h, rfl⟩
          · rintro (⟨y, h | h, rfl⟩ | rfl)
            · exact ⟨y, .inl h, rfl⟩
            · exact ⟨y, .inr (.inr h), rfl⟩
            · exact ⟨(a.p, 0), .inr (.inl rfl), rfl⟩
        · rw [List.length_append, List.length_cons, List.length_take, List.length_drop]; omega
        · rcases List.mem_append.1 hx with h | h
          · exact h01 x (List.mem_of_mem_take h)
          · rcases List.mem_cons.1 h with rfl | h
            · rfl
            · exact h01 x (List.mem_of_mem_drop h)
      by_cases hpos : 0 < at_
      · obtain ⟨x, hx⟩ : ∃ x, O1[at_ - 1]? = some x := ⟨O1[at_ - 1]'(by omega), List.getElem?_eq_getElem _⟩
        have hMx : M[at_ - 1]? = some x := by
          have := congrArg (fun l => l[at_ - 1]?) htkM
          simp only [List.getElem?_take, if_pos (show at_ - 1 < at_ by omega)] at this
          rw [this, hx]
        have hcx : has (own 138 2 (.slice (some ⟨g3, 0, none⟩) (O1.length + 1) k3) (O1.length + 1) (lvsC M) :: row b52 (lvC (0, 0)) 138 :: Γ4) (fun m => cellsAt m g3 ((at_ - 1) * 2) [.int .u32 (x.1 : Int), .int .i64 (x.2 : Int)]) := by
          have := lv_el (has_at (Γ := own 138 2 (.slice (some ⟨g3, 0, none⟩) (O1.length + 1) k3) (O1.length + 1) (lvsC M) :: row b52 (lvC (0, 0)) 138 :: Γ4) (up_src _ _ _ _) 0 rfl fun _ h => own_src h) hMx
          rw [Nat.zero_add] at this
          exact this
        have hcx0 := has_cell hcx 0 (v := .int .u32 (x.1 : Int)) rfl
        refine m_run ?_
        refine TK.drawS mixed rfl ?_
        refine m_take (At.mk : At 0) ?_; refine m_take (At.mk : At 1) ?_; refine m_take (At.mk : At 2) ?_
        refine TA.isT 56 rfl (decide_eq_true (by omega)) ?_
        refine m_take (At.mk : At 3) ?_; refine m_take (At.mk : At 4) ?_; refine m_take (At.mk : At 5) ?_
        refine TA.know (t := 59) (v := .int .i64 ((at_ - 1 : Nat) : Int)) (congrArg (Value.int .i64) (by rw [i64_in (by omega) (by omega)]; omega)) ?_
        refine m_take (At.mk : At 6) ?_; refine m_take (At.mk : At 7) ?_; refine m_take (At.mk : At 8) ?_; refine m_take (At.mk : At 9) ?_; refine m_take (At.mk : At 10) ?_; refine m_take (At.mk : At 11) ?_; refine m_take (At.mk : At 12) ?_; refine m_take (At.mk : At 13) ?_; refine m_take (At.mk : At 14) ?_; refine m_take (At.mk : At 15) ?_
        refine TA.done (by kernel_rfl) ?_
        by_cases hc : a.p < x.1
        · refine m_run ?_
          refine TL.know (t := 74) (v := .int .i64 ((at_ - 1 : Nat) : Int)) (congrArg (Value.int .i64) (by rw [i64_in (by omega) (by omega)]; omega)) ?_
          refine m_run ?_
          (apply TL.storeOwnA 0 at_ (vs := lvC x) (cs' := lvsC (M.set at_ x)); exact rfl; exact rfl; exact rfl; exact rfl; exact tb rfl; exact rfl; exact rfl; exact rfl; exact (by omega); exact flat_put (f := lvC) (fun _ => rfl) x M at_ (by omega); exact rfl)
          refine m_run ?_
          have hdr1 : O1.drop (at_ - 1) = x :: O1.drop at_ := by
            obtain ⟨h2, h3⟩ := List.getElem?_eq_some_iff.1 hx
            rw [List.drop_eq_getElem_cons h2, h3, show at_ - 1 + 1 = at_ by omega]
          refine IH4 (at_ - 1) _ _ (by omega) ⟨M.set at_ x, by omega, by simp [hMl], ?_, ?_, ?_, rfl, rfl, rfl, rfl, rfl, congrArg (Value.int .i64) (by rw [i64_in (by omega) (by omega)]; omega), rfl⟩
          · rw [List.take_set_of_le (by omega)]
            have := congrArg (List.take (at_ - 1)) htkM
            rwa [List.take_take, List.take_take, Nat.min_eq_left (by omega)] at this
          · rw [show at_ - 1 + 1 = at_ by omega, hdr1, List.drop_set, if_neg (by omega), Nat.sub_self, List.drop_eq_getElem_cons (by omega), List.set_cons_zero, hdrM]
          · rw [hdr1]
            intro y hy
            rcases List.mem_cons.1 hy with rfl | hy
            · exact hc
            · exact hgt y hy
        · obtain ⟨R, hMR, hRU, hRm, hRl, hR0⟩ := hfin (fun y hy => by
            have h2 : (O1.take at_).getLast? = some x := by
              rw [List.getLast?_eq_getElem?, List.length_take, Nat.min_eq_left (by omega), List.getElem?_take, if_pos (by omega), hx]
            rw [h2] at hy; injection hy with hy; subst hy
            have hne : x.1 ≠ a.p := fun e => hin (by rw [← e]; exact List.mem_map_of_mem (List.mem_of_getElem? hx))
            omega)
          refine m_run ?_
          (apply TL.pv; exact rfl; (apply PV.build tabs; exact rfl; exact rfl; exact rfl; exact rfl; exact rfl; exact (rfl : _ = lvC (a.p, 0))))
          refine m_run ?_
          (apply TL.storeOwnA 0 at_ (vs := lvC (a.p, 0)) (cs' := lvsC R); exact rfl; exact rfl; exact rfl; exact rfl; exact tb rfl; exact rfl; exact rfl; exact (by simp); exact (by omega); exact (by rw [← hMR]; exact flat_put (f := lvC) (fun _ => rfl) (a.p, 0) M at_ (by omega)); exact rfl)
          refine m_run ?_
          refine TK.imp (Δ := ownL (some ⟨g3, 0, none⟩) k3 R :: row b52 (lvC (0, 0)) 138 :: Γ4) (fun m hm => by unfold ownL; rw [hRl]; exact hm) ?_
          refine IH2 (j2 - 1) _ _ (by omega) ⟨q + 1, R, some ⟨g3, 0, none⟩, k3, _, by omega, .cons _ hs4, hRU, fun p => ?_, hR0, by omega, rfl, by rw [hRl]; rfl, rfl, rfl, congrArg (Value.int .i64) (i64_succ q (by omega)), rfl⟩
          rw [hRm, hm1, or_assoc]
          refine or_congr_right ⟨fun h => ?_, fun ⟨b, hb, h⟩ => ?_⟩
          · rcases h with ⟨b, hb, h⟩ | h
            · exact ⟨b, (htk b).2 (.inl hb), h⟩
            · exact ⟨a, (htk a).2 (.inr rfl), h.symm⟩
          · rcases (htk b).1 hb with h2 | rfl
            · exact .inl ⟨b, h2, h⟩
            · exact .inr h.symm
      · obtain rfl : at_ = 0 := by omega
        obtain ⟨R, hMR, hRU, hRm, hRl, hR0⟩ := hfin (fun y hy => by simp at hy)
        · refine m_run ?_
          refine TK.drawS mixed rfl ?_
          refine m_take (At.mk : At 0) ?_; refine m_take (At.mk : At 1) ?_; refine m_take (At.mk : At 2) ?_; refine m_take (At.mk : At 3) ?_; refine m_take (At.mk : At 4) ?_; refine m_take (At.mk : At 5) ?_; refine m_take (At.mk : At 6) ?_; refine m_take (At.mk : At 7) ?_; refine m_take (At.mk : At 8) ?_; refine m_take (At.mk : At 9) ?_; refine m_take (At.mk : At 10) ?_; refine m_take (At.mk : At 11) ?_; refine m_take (At.mk : At 12) ?_; refine m_take (At.mk : At 13) ?_; refine m_take (At.mk : At 14) ?_; refine m_take (At.mk : At 15) ?_
          refine TA.done (by kernel_rfl) ?_
          refine m_run ?_
          (apply TL.pv; exact rfl; (apply PV.build tabs; exact rfl; exact rfl; exact rfl; exact rfl; exact rfl; exact (rfl : _ = lvC (a.p, 0))))
          refine m_run ?_
          (apply TL.storeOwnA 0 0 (vs := lvC (a.p, 0)) (cs' := lvsC R); exact rfl; exact rfl; exact rfl; exact rfl; exact tb rfl; exact rfl; exact rfl; exact (by simp); exact (by omega); exact (by rw [← hMR]; exact flat_put (f := lvC) (fun _ => rfl) (a.p, 0) M 0 (by omega)); exact rfl)
          refine m_run ?_
          refine TK.imp (Δ := ownL (some ⟨g3, 0, none⟩) k3 R :: row b52 (lvC (0, 0)) 138 :: Γ4) (fun m hm => by unfold ownL; rw [hRl]; exact hm) ?_
          refine IH2 (j2 - 1) _ _ (by omega) ⟨q + 1, R, some ⟨g3, 0, none⟩, k3, _, by omega, .cons _ hs4, hRU, fun p => ?_, hR0, by omega, rfl, by rw [hRl]; rfl, rfl, rfl, congrArg (Value.int .i64) (i64_succ q (by omega)), rfl⟩
          rw [hRm, hm1, or_assoc]
          refine or_congr_right ⟨fun h => ?_, fun ⟨b, hb, h⟩ => ?_⟩
          · rcases h with ⟨b, hb, h⟩ | h
            · exact ⟨b, (htk b).2 (.inl hb), h⟩
            · exact ⟨a, (htk a).2 (.inr rfl), h.symm⟩
          · rcases (htk b).1 hb with h2 | rfl
            · exact .inl ⟨b, h2, h⟩
            · exact .inr h.symm
    obtain rfl : q = as_.length := by omega
    rw [List.take_length] at hm1
    refine m_run ?_
    refine IH (j - 1) _ _ (by omega) ⟨i + 1, O1, B1, k1, Γ4, by omega, hs2.trans (hs3.trans hs4), hU1, fun p => ?_, h01, by rw [hsn, List.length_append]; omega, rfl, rfl, congrArg (Value.int .i64) (i64_succ i (by omega)), rfl⟩
    rw [hm1, hm, hsn]
    constructor
    · rintro (⟨b, hb, h⟩ | ⟨b, hb, h⟩)
      · exact ⟨b, List.mem_append_left _ hb, h⟩
      · exact ⟨b, List.mem_append_right _ hb, h⟩
    · rintro ⟨b, hb, h⟩
      rcases List.mem_append.1 hb with h1 | h1
      · exact .inl ⟨b, h1, h⟩
      · exact .inr ⟨b, h1, h⟩
  obtain rfl : i = l.length := by omega
  rw [List.take_length] at hm hl
  refine m_run ?_
  (apply TK.ret1; exact rfl; exact rfl; (exact m_val))
  exact ⟨_, rfl, O, B, k, Γ2, rfl, rfl, hs2, hU, hm, h0, hl⟩
end Go.Proofs.YthbcfamfaicneaaGreat.E

/- The document on heads: right, Heads, walked. -/
namespace Go.Proofs.YthbcfamfaicneaaGreat.E
open Go Go.RowKit Go.Proofs
attribute [local irreducible] TK TL TQ TA TB Fn PV
theorem clsC_one (l : List Cl) : ∀ u ∈ clsC l, u.oneCell' = true := by
  intro u hu
  obtain ⟨c, _, hc⟩ := List.mem_flatMap.1 hu
  simp only [Cl.cells, List.mem_cons, List.not_mem_nil, or_false] at hc
  rcases hc with rfl | rfl | rfl <;> rfl
theorem res_single (c : Cl) : Res [c] 0 (wrong1 [] c) := by
  refine .inr ⟨by show 1 ≤ 400; decide, ?_⟩
  by_cases h : wrong1 [] c = 0
  · rw [h]
    exact .inr ⟨fun k d hk hd => by
      obtain rfl : k = 0 := by simp at hk; omega
      simp at hd; subst hd; exact h, rfl, rfl⟩
  · exact .inl ⟨c, rfl, fun k d hk => by omega, rfl, h⟩
set_option maxRecDepth 100000 in
theorem right13_t (c : Cl) (Γ : List HP) (h : c.ok Γ) (hn : c.small) (hl : c.l.length ≤ 100000) :
    FnV Tryz.prog 132 [.agg c.cells.toArray] Γ fun v Γ' => v = .bool (decide (wrong1 [] c = 0)) ∧ Γ' = Γ := by
  refine Fn.enter Tryz.func132 rfl rfl rfl fun E => ?_
  refine m_run ?_
  (apply TL.box; exact rfl; exact rfl; exact (rfl : _ = [_, _, _]))
  intro b1
  refine TL.imp (Δ := row b1 [.int .u32 (c.h.p : Int), .slice c.h.A c.h.l.length c.h.c, .slice c.A c.l.length c.c] 57 :: Γ) (fun _ h => h) ?_
  refine m_run ?_
  (apply TL.buildSlice (l := clsC [c]); exact rfl; exact tb rfl; exact rfl; exact tb rfl; exact rfl; exact rfl; exact rfl; exact rfl; exact rfl)
  intro b7
  (apply TL.callV; exact rfl; exact callB_of (by kernel_rfl); exact rfl; exact fun _ h => h)
  exact rright_t (some ⟨b7, 0, none⟩) 1 [c] _ ⟨has_src_row 0 rfl rfl, fun d hd => by rw [List.mem_singleton.1 hd]; exact ⟨Cl.ok_tl (Cl.ok_tl h), hn⟩⟩ (Nat.le_refl _) (by show 1 ≤ 1000000; decide) (fun _ => by simp [allA, atomsOf]; omega)
  rintro _ _ ⟨⟨n, e, rfl, hr⟩, rfl⟩
  obtain ⟨rfl, rfl⟩ := res_one hr (res_single c)
  refine m_run ?_
  (apply TK.retS1; exact rfl; exact rfl; (exact m_val))
  · exact ⟨_, rfl, congrArg Value.bool (by rw [Bool.eq_iff_iff, beq_iff_eq, decide_eq_true_iff]), rfl⟩
  · (repeat (first | exact List.Sublist.refl _ | apply List.Sublist.cons_cons | apply List.Sublist.cons))
theorem Cl.may_of {c : Cl} {L : List (Nat × Nat)} (h : wrong1 L c = 0) : mayC c = true ∧ heldC c = true := ⟨(wrong1_zero.1 h).1, (wrong1_zero.1 h).2.1⟩
theorem small_pure {c : Cl} (h : mayC c = true) : smallL (c.l.map pureL) := by
  intro y hy
  obtain ⟨x, hx, rfl⟩ := List.mem_map.1 hy
  exact (mayA_vars ((mayC_vars h).2.2 x hx)).2
set_option maxRecDepth 100000 in
set_option maxHeartbeats 8000000 in
theorem heads_t (c : Cl) (FA NA : Option Addr) (Fc Nc : Nat) (F N : List Fct) (Γ : List HP) (h : c.ok Γ) (hn : c.small) (hl : c.l.length ≤ 100000) (hF : Fcs FA F Γ) (hN : Fcs NA N Γ) (hFl : F.length ≤ 1000000) (hNl : N.length ≤ 1000000) (hb : mayC c = true → (F.length + 1) ^ c.l.length ≤ 1000000000) :
    FnV Tryz.prog 102 [.agg c.cells.toArray, .slice FA F.length Fc, .slice NA N.length Nc] Γ fun v Γ' => ∃ (R : List Fct) (A : Option Addr) (k : Nat), v = .slice A R.length k ∧ Fcs A R Γ' ∧ Γ.Sublist Γ' ∧ Srt (R.map pf) ∧ R.length ≤ 1000000000 ∧ ∀ x, x ∈ R.map pf ↔ wrong1 [] c = 0 ∧ HeadsP (pureC c) (F.map pf) (N.map pf) x := by
  refine Fn.enter Tryz.func102 rfl rfl rfl fun E => ?_
  refine m_run ?_
  (apply TL.box; exact rfl; exact rfl; exact (rfl : _ = [_, _, _]))
  intro b3
  refine TL.imp (Δ := row b3 [.int .u32 (c.h.p : Int), .slice c.h.A c.h.l.length c.h.c, .slice c.A c.l.length c.c] 57 :: Γ) (fun _ h => h) ?_
  refine m_run ?_
  (apply TL.callV; exact rfl; exact callB_of (by kernel_rfl); exact rfl; exact fun _ h => h)
  exact right13_t c _ (Cl.ok_tl h) hn hl
  rintro _ _ ⟨rfl, rfl⟩
  by_cases hw : wrong1 [] c = 0
  rotate_left
  · refine m_run ?_
    (apply TK.ret1; exact rfl; exact rfl; (exact m_val))
    exact ⟨_, rfl, [], none, 0, rfl, Fcs.nil _, .cons _ (.refl _), List.Pairwise.nil, by decide, fun x => ⟨fun h => (by cases h), fun h => absurd h.1 hw⟩⟩
  obtain ⟨hmay, hheld⟩ := Cl.may_of hw
  replace hb := hb hmay
  refine m_run ?_
  (apply TL.pv; exact rfl; (apply PV.build tabs; exact rfl; exact rfl; exact rfl; exact rfl; exact rfl; exact (rfl : _ = ([.int .u32 (c.h.p : Int), .slice c.h.A c.h.l.length c.h.c, .slice c.A c.l.length c.c, .slice FA F.length Fc, .slice none 0 0, .slice NA N.length Nc, .slice none 0 0] : List Value))))
  (apply TL.box; exact rfl; exact rfl; exact (rfl : _ = [_, _, _, _, _, _, _]))
  intro b15
  refine TL.imp (Δ := fRow b15 c FA F.length Fc NA N.length Nc none 0 0 :: row b3 [.int .u32 (c.h.p : Int), .slice c.h.A c.h.l.length c.h.c, .slice c.A c.l.length c.c] 57 :: Γ) (fun _ h => h) ?_
  refine m_run ?_
  (apply TL.pv; exact rfl; (apply PV.build tabs; exact rfl; exact rfl; exact rfl; exact rfl; exact rfl; exact (rfl : _ = chC ch0)))
  refine m_run ?_
  (apply TL.callV; exact rfl; exact callB_of (by kernel_rfl); exact rfl; exact fun _ h => h)
  exact fromM_t b15 c FA NA Fc Nc F N Γ h hmay hF hN hFl hNl c.l.length 0 ch0 none 0 [] (row b3 [.int .u32 (c.h.p : Int), .slice c.h.A c.h.l.length c.h.c, .slice c.A c.l.length c.c] 57 :: Γ) (Nat.zero_add _) ch0_ok (.cons _ (.refl _)) (Fcs.nil _) List.Pairwise.nil (by show 0 + _ ≤ _; omega)
  rintro _ _ ⟨rfl, OA, Ok, O, Γ3, rfl, hs3, hO, hS, hl2, hm⟩
  refine m_run ?_
  (apply TK.retS1 (Δ := Γ3); exact rfl; exact rfl; (exact m_val))
  · refine ⟨_, rfl, O, OA, Ok, rfl, hO, (List.Sublist.cons _ (.refl _)).trans hs3, hS, by simp at hl2; omega, fun x => ?_⟩
    rw [hm]
    simp only [List.map_nil, List.not_mem_nil, false_or, List.drop_zero]
    exact ⟨fun h => ⟨hw, h⟩, fun h => h.2⟩
  · (repeat (first | exact List.Sublist.refl _ | apply List.Sublist.cons_cons | apply List.Sublist.cons))
end Go.Proofs.YthbcfamfaicneaaGreat.E

/- The document on which clauses may be asked at once: right, walked. -/
namespace Go.Proofs.YthbcfamfaicneaaGreat.E
open Go Go.RowKit Go.Proofs
attribute [local irreducible] TK TL TQ TA TB Fn PV
def GoodC (l : List Cl) (c : Cl) : Prop := ∀ x ∈ c.l, x.no = true → ∀ d ∈ l, d.h.p ≠ x.a.p
def R14 (l : List Cl) : Prop := l.length ≤ 400 ∧ okTo l l.length ∧ ∀ c ∈ l, GoodC l c
theorem res_zero {l : List Cl} {n : Nat} {e : Int} (h : Res l n e) : e = 0 ↔ l.length ≤ 400 ∧ okTo l l.length := by
  rcases h with ⟨h1, _, h2⟩ | ⟨h1, ⟨c, hc, h2, h3, h4⟩ | ⟨h2, h3, h4⟩⟩
  · constructor
    · intro h; omega
    · rintro ⟨h, _⟩; omega
  · constructor
    · intro h; exact absurd h h4
    · rintro ⟨_, h⟩
      have := h n c (List.getElem?_eq_some_iff.1 hc).1 hc
      rw [← h3] at this; exact absurd this h4
  · exact ⟨fun _ => ⟨h1, h2⟩, fun _ => h4⟩
set_option maxRecDepth 100000 in
set_option maxHeartbeats 8000000 in
theorem right14_t (A : Option Addr) (cc : Nat) (l : List Cl) (Γ : List HP) (h : clsOk A l Γ) (hcc : l.length ≤ cc) (hn : l.length ≤ 1000000) (hall : l.length ≤ 400 → (allA l).length ≤ 1000000) :
    FnV Tryz.prog 101 [.slice A l.length cc] Γ fun v Γ' => (∃ b : Bool, v = .bool b ∧ (b = true ↔ R14 l)) ∧ Γ' = Γ := by
  refine Fn.enter Tryz.func101 rfl rfl rfl fun E => ?_
  refine m_run ?_
  (apply TL.callV; exact rfl; exact callB_of (by kernel_rfl); exact rfl; exact fun _ h => h)
  exact rright_t A cc l _ h hcc hn hall
  rintro _ Γ ⟨⟨n, e, rfl, hr⟩, rfl⟩
  have hz := res_zero hr
  by_cases he : e = 0
  rotate_left
  · refine m_run ?_
    (apply TK.ret1; exact rfl; exact rfl; (exact m_val))
    exact ⟨_, rfl, ⟨false, rfl, ⟨fun h => (by cases h), fun h => absurd (hz.2 ⟨h.1, h.2.1⟩) he⟩⟩, rfl⟩
  obtain ⟨h4, hok⟩ := hz.1 he
  subst he
  refine m_run ?_
  apply TK.iter (fun j ρ' Γ' => ∃ i : Nat, i + j = l.length ∧ (∀ c ∈ l.take i, GoodC l c) ∧ lk ρ' 0 = .slice A l.length cc ∧ lk ρ' 5 = .int .i64 (i : Int) ∧ Γ' = Γ) l.length
  · exact ⟨0, Nat.zero_add _, by simp, rfl, rfl, rfl⟩
  rintro j IH ρ' Γ ⟨i, hij, hg, e0, e5, rfl⟩
  refine TK.know2 e0 e5 ?_
  by_cases hi : i < l.length
  · obtain ⟨C, hC⟩ : ∃ C, l[i]? = some C := ⟨l[i], List.getElem?_eq_getElem hi⟩
    have hCm := List.mem_of_getElem? hC
    obtain ⟨hCo, hCs⟩ := h.2 C hCm
    have hCl : C.l.length ≤ 1000000 := hCs.1
    have htk : ∀ c ∈ l.take (i + 1), c ∈ l.take i ∨ c = C := fun c hc => by rw [List.take_add_one, hC] at hc; simpa using hc
    have hs := h.1
    refine TK.mem fun m0 hm0 => ?_
    obtain ⟨g, u, hgA⟩ := src_some (hs m0 hm0) (by rw [clsC_len]; omega)
    clear hm0 m0
    subst hgA
    have hcl : ∀ (k : Nat) (d : Cl), l[k]? = some d → has Γ (fun m => cellsAt m g (u + k * 3) d.cells) := fun k d hd => has_el (sz := 3) (f := Cl.cells) (fun _ => rfl) (by decide) hs hd
    have hcp : ∀ (k : Nat) (d : Cl), l[k]? = some d → has Γ (fun m => cellAt m g (u + k * 3) (.int .u32 (d.h.p : Int))) := fun k d hd => has_cell (hcl k d hd) 0 rfl
    have hcb : has Γ (fun m => cellAt m g (u + i * 3 + 2) (.slice C.A C.l.length C.c)) := has_cell (hcl i C hC) 2 rfl
    refine m_run ?_
    apply TK.iter (fun j ρ' Γ' => ∃ k : Nat, k + j = C.l.length ∧ (∀ x ∈ C.l.take k, x.no = true → ∀ d ∈ l, d.h.p ≠ x.a.p) ∧ lk ρ' 0 = .slice (some ⟨g, u, none⟩) l.length cc ∧ lk ρ' 5 = .int .i64 (i : Int) ∧ lk ρ' 6 = .int .i64 (k : Int) ∧ Γ' = Γ) C.l.length
    · exact ⟨0, Nat.zero_add _, by simp, rfl, rfl, rfl, rfl⟩
    rintro j2 IH2 ρ2 Γ ⟨k, hkj, hg2, e0, e5, e6, rfl⟩
    refine TK.know3 e0 e5 e6 ?_
    by_cases hk : k < C.l.length
    · obtain ⟨x, hx⟩ : ∃ x, C.l[k]? = some x := ⟨C.l[k], List.getElem?_eq_getElem hk⟩
      have hxm := List.mem_of_getElem? hx
      have htk2 : ∀ y ∈ C.l.take (k + 1), y ∈ C.l.take k ∨ y = x := fun y hy => by rw [List.take_add_one, hx] at hy; simpa using hy
      have hb := hCo.2.1
      refine TK.mem fun m0 hm0 => ?_
      obtain ⟨g2, u2, hg2A⟩ := src_some (hb m0 hm0) (by rw [ltsC_len]; omega)
      clear hm0 m0
      rw [hg2A] at hb hcb
      have hel : has Γ (fun m => cellsAt m g2 (u2 + k * 3) [.bool x.no, .int .u32 (x.a.p : Int), .slice x.a.A x.a.l.length x.a.c]) := has_el (sz := 3) (f := Lt.cells) (fun _ => rfl) (by decide) hb hx
      have hx0 : has Γ (fun m => cellAt m g2 (u2 + k * 3) (.bool x.no)) := has_cell hel 0 rfl
      have hx1 : has Γ (fun m => cellAt m g2 (u2 + k * 3 + 1) (.int .u32 (x.a.p : Int))) := has_cell hel 1 rfl
      refine m_run ?_
      apply TK.iter (fun j ρ' Γ' => ∃ q : Nat, q + j = l.length ∧ (x.no = true → ∀ d ∈ l.take q, d.h.p ≠ x.a.p) ∧ lk ρ' 0 = .slice (some ⟨g, u, none⟩) l.length cc ∧ lk ρ' 5 = .int .i64 (i : Int) ∧ lk ρ' 6 = .int .i64 (k : Int) ∧ lk ρ' 7 = .int .i64 (q : Int) ∧ Γ' = Γ) l.length
      · exact ⟨0, Nat.zero_add _, by simp, rfl, rfl, rfl, rfl, rfl⟩
      rintro j3 IH3 ρ3 Γ ⟨q, hqj, hg3, e0, e5, e6, e7, rfl⟩
      refine TK.know4 e0 e5 e6 e7 ?_
      have hdone : (x.no = true → ∀ d ∈ l, d.h.p ≠ x.a.p) → ∀ y ∈ C.l.take (k + 1), y.no = true → ∀ d ∈ l, d.h.p ≠ y.a.p := fun hd y hy hyn => by
        rcases htk2 y hy with h1 | rfl
        · exact hg2 y h1 hyn
        · exact hd hyn
      by_cases hq : q < l.length
      · obtain ⟨D, hD⟩ : ∃ D, l[q]? = some D := ⟨l[q], List.getElem?_eq_getElem hq⟩
        have hcd := hcp q D hD
        cases hxn : x.no with
        | false =>
          rw [hxn] at hx0
          refine m_run ?_
          exact IH2 (j2 - 1) _ _ (by omega) ⟨k + 1, by omega, hdone (fun h => by rw [hxn] at h; cases h), rfl, rfl, congrArg (Value.int .i64) (i64_succ k (by omega)), rfl⟩
        | true =>
          rw [hxn] at hx0
          refine m_run ?_
          refine TK.drawS mixed rfl ?_
          refine m_take (At.mk : At 0) ?_; refine m_take (At.mk : At 1) ?_; refine m_take (At.mk : At 2) ?_; refine m_take (At.mk : At 3) ?_; refine m_take (At.mk : At 4) ?_; refine m_take (At.mk : At 5) ?_; refine m_take (At.mk : At 6) ?_; refine m_take (At.mk : At 7) ?_; refine m_take (At.mk : At 8) ?_; refine m_take (At.mk : At 9) ?_; refine m_take (At.mk : At 10) ?_; refine m_take (At.mk : At 11) ?_; refine m_take (At.mk : At 12) ?_; refine m_take (At.mk : At 13) ?_; refine m_take (At.mk : At 14) ?_; refine m_take (At.mk : At 15) ?_; refine m_take (At.mk : At 16) ?_
          refine TA.done (by kernel_rfl) ?_
          by_cases hbad : D.h.p = x.a.p
          · refine m_run ?_
            (apply TK.ret1; exact rfl; exact rfl; (exact m_val))
            exact ⟨_, rfl, ⟨false, rfl, ⟨fun h => (by cases h), fun h => absurd hbad (h.2.2 C hCm x hxm hxn D (List.mem_of_getElem? hD))⟩⟩, rfl⟩
          · refine m_run ?_
            refine IH3 (j3 - 1) _ _ (by omega) ⟨q + 1, by omega, fun _ d hd => ?_, rfl, rfl, rfl, congrArg (Value.int .i64) (i64_succ q (by omega)), rfl⟩
            rw [List.take_add_one, hD] at hd
            rcases List.mem_append.1 hd with h1 | h1
            · exact hg3 hxn d h1
            · obtain rfl : d = D := by simpa using h1
              exact hbad
      · obtain rfl : q = l.length := by omega
        rw [List.take_length] at hg3
        refine m_run ?_
        exact IH2 (j2 - 1) _ _ (by omega) ⟨k + 1, by omega, hdone hg3, rfl, rfl, congrArg (Value.int .i64) (i64_succ k (by omega)), rfl⟩
    · obtain rfl : k = C.l.length := by omega
      rw [List.take_length] at hg2
      refine m_run ?_
      refine IH (j - 1) _ _ (by omega) ⟨i + 1, by omega, fun c hc => ?_, rfl, congrArg (Value.int .i64) (i64_succ i (by omega)), rfl⟩
      rcases htk c hc with h1 | rfl
      · exact hg c h1
      · exact hg2
  obtain rfl : i = l.length := by omega
  rw [List.take_length] at hg
  refine m_run ?_
  (apply TK.ret1; exact rfl; exact rfl; (exact m_val))
  exact ⟨_, rfl, ⟨true, rfl, ⟨fun _ => ⟨h4, hok, hg⟩, fun _ => rfl⟩⟩, rfl⟩
end Go.Proofs.YthbcfamfaicneaaGreat.E

/- The document on levels: plainly. -/
namespace Go.Proofs.YthbcfamfaicneaaGreat.E
open Go Go.RowKit
/-- Levels that are as each clause wants them. -/
def Sol (P : List PC) (L : Nat → Nat) : Prop := ∀ c ∈ P, ∀ y ∈ c.2.2, L y.2.1 + (if y.1 = true then 1 else 0) ≤ L c.1
def lvF (O : List Lv) (p : Nat) : Nat := (lvOf O p).getD 0
theorem lvOf_mem {O : List Lv} {p : Nat} (h : p ∈ O.map (·.1)) : ∃ x ∈ O, x.1 = p ∧ lvOf O p = some x.2 := by
  obtain ⟨x, hx, rfl⟩ := List.mem_map.1 h
  cases hf : O.find? (fun y => decide (y.1 = x.1)) with
  | none => exact (List.find?_eq_none.1 hf x hx (decide_eq_true rfl)).elim
  | some y => exact ⟨y, List.mem_of_find?_eq_some hf, by simpa using List.find?_some hf, by unfold lvOf; rw [hf]; rfl⟩
def sumL (O : List Lv) : Nat := (O.map (·.2)).sum
theorem sumL_set {O : List Lv} {j : Nat} {x y : Lv} (h : O[j]? = some x) : sumL (O.set j y) + x.2 = sumL O + y.2 := by
  induction O generalizing j with
  | nil => simp at h
  | cons a O ih =>
    cases j with
    | zero => simp at h; subst h; simp [sumL]; omega
    | succ j =>
      simp at h
      have := ih h
      simp only [sumL, List.set_cons_succ, List.map_cons, List.sum_cons] at this ⊢
      omega
theorem sumL_le {O : List Lv} {n : Nat} (h : ∀ x ∈ O, x.2 < n) : sumL O ≤ O.length * n := by
  induction O with
  | nil => simp [sumL]
  | cons a O ih =>
    have h1 := h a (List.mem_cons_self ..)
    have h2 := ih fun x hx => h x (List.mem_cons_of_mem _ hx)
    simp only [sumL, List.map_cons, List.sum_cons, List.length_cons, Nat.succ_mul] at h2 ⊢
    omega
/-! ### levels pressed together -/
def cnt (V : List Nat) (t : Nat) : Nat := ((List.range t).filter fun s => decide (s ∈ V)).length
theorem cnt_mono (V : List Nat) {a b : Nat} (h : a ≤ b) : cnt V a ≤ cnt V b := by
  unfold cnt
  refine List.Sublist.length_le (List.Sublist.filter _ ?_)
  exact List.range_sublist.2 h
theorem cnt_succ (V : List Nat) {a : Nat} (h : a ∈ V) : cnt V (a + 1) = cnt V a + 1 := by
  unfold cnt
  rw [List.range_succ, List.filter_append, List.length_append]
  simp [h]
theorem cnt_lt (V : List Nat) {a : Nat} (h : a ∈ V) : cnt V a < V.length := by
  have h1 := len_sub (L := a :: (List.range a).filter fun s => decide (s ∈ V)) (M := V) (List.nodup_cons.2 ⟨by simp, List.nodup_range.sublist List.filter_sublist⟩) fun x hx => by
    rcases List.mem_cons.1 hx with rfl | hx
    · exact h
    · exact of_decide_eq_true (List.mem_filter.1 hx).2
  exact h1
/-- If all solutions are great at a place there is none. -/
theorem no_sol {P : List PC} {Q : List Nat} {h : Nat} (hQ : ∀ c ∈ P, c.1 ∈ Q ∧ ∀ y ∈ c.2.2, y.2.1 ∈ Q) (hh : h ∈ Q) (hg : ∀ L, Sol P L → Q.length ≤ L h) : ∀ L, ¬ Sol P L := by
  intro L hL
  have h1 : Sol P fun p => cnt (Q.map L) (L p) := by
    intro c hc y hy
    have h2 := hL c hc y hy
    have h3 : L y.2.1 ∈ Q.map L := List.mem_map_of_mem ((hQ c hc).2 y hy)
    show cnt (Q.map L) (L y.2.1) + _ ≤ cnt (Q.map L) (L c.1)
    split at h2
    · rename_i hn
      rw [if_pos hn, ← cnt_succ _ h3]
      exact cnt_mono _ h2
    · rename_i hn
      rw [if_neg hn]
      exact cnt_mono _ h2
  have h4 := hg _ h1
  have h5 := cnt_lt (Q.map L) (List.mem_map_of_mem (f := L) hh)
  rw [List.length_map] at h5
  have h6 : Q.length ≤ cnt (Q.map L) (L h) := h4
  omega
/-- What Levels gives where there are any. -/
structure LevIs (P : List PC) (O : List Lv) : Prop where
  up : UpL O
  mem : ∀ p, p ∈ O.map (·.1) ↔ ∃ c ∈ P, p = c.1 ∨ ∃ y ∈ c.2.2, p = y.2.1
  sol : Sol P (lvF O)
  least : ∀ L, Sol P L → ∀ x ∈ O, x.2 ≤ L x.1
end Go.Proofs.YthbcfamfaicneaaGreat.E

/- MY OWN LAYER: a store into one cell of a slice of structs of one's own. P is a variable. -/
namespace Go.Proofs.YthbcfamfaicneaaGreat.E
open Go Go.RowKit
section
variable {cx : Cx} {ops : Array Oper} {K : Act → World → Prop} {rest : List Oper} {ρ : Env} {ds : List Deferred} {Γ : List HP} {ty : TypeId} {pos : String} {after : Array Edge}
theorem TL.storeOwnF {t e : TypeId} {x y : Operand} {b o' c n sz : Nat} {v : Value} {cs cs' : List Value} {r : TR} (i q : Nat) (hi : Γ[i]? = some (own e sz (.slice (some ⟨b, 0, none⟩) n c) n cs)) (ea : ev ρ x = .pointer (some ⟨b, o', none⟩)) (eb : ev ρ y = v) (h1 : v.oneCell' = true) (ht : TabOk cx.P t r) (hr1 : (r.size == 1) = true)
    (ho : o' = q) (hq : q < n * sz) (hcs : cs.set q v = cs') {Δ : List HP} (hΔ : Γ.set i (own e sz (.slice (some ⟨b, 0, none⟩) n c) n cs') = Δ) (h : TL cx ops K rest ρ ds Δ) : TL cx ops K (⟨none, .store t x y, ty, pos, after, none⟩ :: rest) ρ ds Γ := by
  subst hcs; subst hΔ
  refine TL.storeIn (e := e) i hi ea eb h1 ht hr1 (fun m hm => ?_) h
  obtain ⟨hcl, ⟨hv, _⟩ | ⟨g, cap, cur, hv, hn, hcap, hl, htk, hrow⟩⟩ := hm
  · cases hv
  · injection hv with hv1 _ hv2
    injection hv1 with hv1
    injection hv1 with hv1 hv3
    subst hv1; subst hv2; subst ho
    have hb2 : n * sz ≤ cur.length := by rw [hl]; exact Nat.mul_le_mul_right _ hn
    refine ⟨cur, emp, sep_emp hrow, by omega, fun m' hm' => ⟨by simpa using hcl, .inr ⟨b, c, cur.set o' v, rfl, hn, hcap, by simpa using hl, ?_, sep_of_emp hm'⟩⟩⟩
    rw [← htk, List.take_set]
/-- The rest of a region, whatever comes behind it. -/
theorem TL.cut {k : List Item} (I : Env → List HP → Prop) (hx : ∀ k', (∀ ρ' Γ', I ρ' Γ' → TK cx k' ρ' ds Γ') → TL cx ops (WP cx k') rest ρ ds Γ) (h : ∀ ρ' Γ', I ρ' Γ' → TK cx k ρ' ds Γ') : TL cx ops (WP cx k) rest ρ ds Γ := hx k h
end
/-- A cell of the j-th of a row of structs. -/
theorem set_flat {α : Type} (f : α → List Value) (sz : Nat) (hf : ∀ a, (f a).length = sz) (v : Value) (y : α) : ∀ (l : List α) (j k : Nat) (x : α), l[j]? = some x → k < sz → (f x).set k v = f y → (l.flatMap f).set (j * sz + k) v = (l.set j y).flatMap f
  | [], j, k, x, h, _, _ => by simp at h
  | a :: l, 0, k, x, h, hk, hy => by
    simp at h; subst h
    simp only [List.set_cons_zero, List.flatMap_cons, Nat.zero_mul, Nat.zero_add]
    rw [List.set_append_left _ _ (by rw [hf]; exact hk), hy]
  | a :: l, j + 1, k, x, h, hk, hy => by
    simp only [List.getElem?_cons_succ] at h
    simp only [List.set_cons_succ, List.flatMap_cons]
    rw [List.set_append_right _ _ (by rw [hf, Nat.succ_mul]; omega), hf, ← set_flat f sz hf v y l j k x h hk hy]
    congr 2
    rw [Nat.succ_mul]; omega
end Go.Proofs.YthbcfamfaicneaaGreat.E

/- The document on levels: Levels, walked. -/
namespace Go.Proofs.YthbcfamfaicneaaGreat.E
open Go Go.RowKit Go.Proofs
attribute [local irreducible] TK TL TQ TA TB Fn PV
theorem allA_preds (l : List Cl) (p : Nat) : (∃ a ∈ allA l, a.p = p) ↔ ∃ c ∈ l.map pureC, p = c.1 ∨ ∃ y ∈ c.2.2, p = y.2.1 := by
  unfold allA atomsOf
  simp only [List.mem_flatMap, List.mem_cons, List.mem_map]
  constructor
  · rintro ⟨a, ⟨c, hc, rfl | ⟨x, hx, rfl⟩⟩, rfl⟩
    · exact ⟨_, ⟨c, hc, rfl⟩, .inl rfl⟩
    · exact ⟨_, ⟨c, hc, rfl⟩, .inr ⟨pureL x, List.mem_map_of_mem hx, rfl⟩⟩
  · rintro ⟨_, ⟨c, hc, rfl⟩, rfl | ⟨y, hy, rfl⟩⟩
    · exact ⟨c.h, ⟨c, hc, .inl rfl⟩, rfl⟩
    · obtain ⟨x, hx, rfl⟩ := List.mem_map.1 hy
      exact ⟨x.a, ⟨c, hc, .inr ⟨x, hx, rfl⟩⟩, rfl⟩
/-- What stays while levels are raised. -/
structure LInv (P : List PC) (O0 O : List Lv) : Prop where
  pre : O.map (·.1) = O0.map (·.1)
  low : ∀ L, Sol P L → ∀ x ∈ O, x.2 ≤ L x.1
  few : ∀ x ∈ O, x.2 < O0.length
theorem LInv.len {P : List PC} {O0 O : List Lv} (h : LInv P O0 O) : O.length = O0.length := by
  have := congrArg List.length h.pre
  simpa using this
theorem LInv.upl {P : List PC} {O0 O : List Lv} (h : LInv P O0 O) (hU : UpL O0) : UpL O := by unfold UpL; rw [h.pre]; exact hU
theorem LInv.set {P : List PC} {O0 O : List Lv} (h : LInv P O0 O) {j w : Nat} {x : Lv} (hx : O[j]? = some x) (hw : ∀ L, Sol P L → w ≤ L x.1) (hn : w < O0.length) : LInv P O0 (O.set j (x.1, w)) where
  pre := by
    rw [← h.pre, List.map_set]
    obtain ⟨h1, h2⟩ := List.getElem?_eq_some_iff.1 hx
    refine List.ext_getElem? fun i => ?_
    rw [List.getElem?_set]
    split
    · rename_i hji
      subst hji
      rw [if_pos (by simpa using h1), List.getElem?_map, hx]; rfl
    · rfl
  low := fun L hL y hy => by
    rcases List.mem_or_eq_of_mem_set hy with h1 | h1
    · exact h.low L hL y h1
    · rw [h1]; exact hw L hL
  few := fun y hy => by
    rcases List.mem_or_eq_of_mem_set hy with h1 | h1
    · exact h.few y h1
    · rw [h1]; exact hn
/-- What has been turned since a round began. -/
def LTurn (O0 O : List Lv) (t : Bool) : Prop := (t = false → O = O0) ∧ (t = true → sumL O0 < sumL O) ∧ sumL O0 ≤ sumL O
def LevRes (l : List Cl) (Γ : List HP) (v : Value) (Γ' : List HP) : Prop := Γ.Sublist Γ' ∧
  ((∃ (n : Nat) (e : Int), e ≠ 0 ∧ Res l n e ∧ v = .tuple #[.slice none 0 0, .int .i64 e]) ∨
   (l.length ≤ 400 ∧ okTo l l.length ∧
    ((∃ (O : List Lv) (B : Option Addr) (k : Nat), v = .tuple #[.slice B O.length k, .int .i64 0] ∧ has Γ' (srcAt 2 B O.length (lvsC O)) ∧ O.length ≤ (allA l).length ∧ (∀ x ∈ O, x.2 ≤ O.length) ∧ LevIs (l.map pureC) O) ∨
     (v = .tuple #[.slice none 0 0, .int .i64 11] ∧ ∀ L, ¬ Sol (l.map pureC) L))))
set_option maxRecDepth 100000 in
set_option maxHeartbeats 16000000 in
theorem rlevels_t (A : Option Addr) (cc : Nat) (l : List Cl) (Γ : List HP) (h : clsOk A l Γ) (hcc : l.length ≤ cc) (hn : l.length ≤ 1000000) (hall : (allA l).length ≤ 1000000) :
    FnV Tryz.prog 43 [.slice A l.length cc] Γ fun v Γ' => LevRes l Γ v Γ' := by
  refine Fn.enter Tryz.func43 rfl rfl rfl fun E => ?_
  refine m_run ?_
  (apply TL.callV; exact rfl; exact callB_of (by kernel_rfl); exact rfl; exact fun _ h => h)
  exact rright_t A cc l _ h hcc hn (fun _ => hall)
  rintro _ Γ ⟨⟨n, e, rfl, hr⟩, rfl⟩
  have hz := res_zero hr
  by_cases he : e = 0
  rotate_left
  · refine m_run ?_
    (apply TK.ret2; exact rfl; exact rfl; (exact m_val); (exact m_val))
    exact ⟨_, rfl, .refl _, .inl ⟨n, e, he, hr, rfl⟩⟩
  obtain ⟨h4, hok⟩ := hz.1 he
  subst he
  refine m_run ?_
  (apply TL.callV; exact rfl; exact callB_of (by kernel_rfl); exact rfl; exact fun _ h => h)
  exact preds_t A cc l _ h hn hall
  rintro _ _ ⟨O0, B, k, Γ2, rfl, rfl, hs2, hU, hm, h00, hl0⟩
  have hNb : O0.length ≤ 1000000 := by omega
  have hmP : ∀ p, p ∈ O0.map (·.1) ↔ ∃ c ∈ l.map pureC, p = c.1 ∨ ∃ y ∈ c.2.2, p = y.2.1 := fun p => by rw [hm, allA_preds]
  have h2 := (show clsOk A l Γ2 from ⟨has_sublist (up_src _ _ _ _) hs2 h.1, fun c hc => ⟨Cl.ok_sub hs2 (h.2 c hc).1, (h.2 c hc).2⟩⟩)
  have hI0 : LInv (l.map pureC) O0 O0 := ⟨rfl, fun L _ x hx => by rw [h00 x hx]; exact Nat.zero_le _, fun x hx => by rw [h00 x hx]; exact List.length_pos_of_mem hx⟩
  refine m_run ?_
  apply TK.iter (fun j ρ' Γ' => ∃ O : List Lv, LInv (l.map pureC) O0 O ∧ sumL O + j = O0.length * O0.length ∧ lk ρ' 0 = .slice A l.length cc ∧ lk ρ' 6 = .slice B O0.length k ∧ Γ' = own 138 2 (.slice B O0.length k) O0.length (lvsC O) :: Γ2) (O0.length * O0.length - sumL O0)
  · have := sumL_le hI0.few
    exact ⟨O0, hI0, by omega, rfl, rfl, rfl⟩
  rintro j IH ρ' _ ⟨O, hI, hj, e0, e6, rfl⟩
  refine TK.know2 e0 e6 ?_
  refine m_run ?_
  apply TK.iter (fun j ρ' Γ' => ∃ (i : Nat) (O1 : List Lv) (t1 : Bool), i + j = l.length ∧ LInv (l.map pureC) O0 O1 ∧ LTurn O O1 t1 ∧ (t1 = false → ∀ c ∈ l.take i, ∀ y ∈ c.l, lvF O y.a.p + (if y.no = true then 1 else 0) ≤ lvF O c.h.p) ∧ lk ρ' 0 = .slice A l.length cc ∧ lk ρ' 6 = .slice B O0.length k ∧ lk ρ' 7 = .bool t1 ∧ lk ρ' 8 = .int .i64 (i : Int) ∧ Γ' = own 138 2 (.slice B O0.length k) O0.length (lvsC O1) :: Γ2) l.length
  · exact ⟨0, O, false, Nat.zero_add _, hI, ⟨fun _ => rfl, fun h => (by cases h), Nat.le_refl _⟩, fun _ c hc => (by simp at hc), rfl, rfl, rfl, rfl, rfl⟩
  rintro j1 IH1 ρ1 _ ⟨i, O1, t1, hij, hI1, hT1, hg1, e0, e6, e7, e8, rfl⟩
  refine TK.know4 e0 e6 e7 e8 ?_
  by_cases hi : i < l.length
  · obtain ⟨C, hC⟩ : ∃ C, l[i]? = some C := ⟨l[i], List.getElem?_eq_getElem hi⟩
    have hCm := List.mem_of_getElem? hC
    obtain ⟨hCo, hCs⟩ := h2.2 C hCm
    have hCl : C.l.length ≤ 1000000 := hCs.1
    have htk : ∀ c, c ∈ l.take (i + 1) ↔ c ∈ l.take i ∨ c = C := fun c => by rw [List.take_add_one, hC]; simp
    have hhP : C.h.p ∈ O0.map (·.1) := (hmP _).2 ⟨pureC C, List.mem_map_of_mem hCm, .inl rfl⟩
    have hN0 : 0 < O0.length := by rw [← List.length_map (f := (·.1))]; exact List.length_pos_of_mem hhP
    have hs := h2.1
    refine TK.mem fun m0 hm0 => ?_
    obtain ⟨g, u, hgA⟩ := src_some ((has_tls hs : has (_ :: Γ2) _) m0 hm0) (by rw [clsC_len]; omega)
    obtain ⟨gb, hgb⟩ := own_addr hm0 hN0
    clear hm0 m0
    subst hgA
    subst hgb
    have hel : has Γ2 (fun m => cellsAt m g (u + i * 3) C.cells) := has_el (sz := 3) (f := Cl.cells) (fun _ => rfl) (by decide) hs hC
    have hch : has Γ2 (fun m => cellAt m g (u + i * 3) (.int .u32 (C.h.p : Int))) := has_cell hel 0 rfl
    have hcb : has Γ2 (fun m => cellAt m g (u + i * 3 + 2) (.slice C.A C.l.length C.c)) := has_cell hel 2 rfl
    refine m_run ?_
    apply TK.iter (fun j ρ' Γ' => ∃ (q : Nat) (O2 : List Lv) (t2 : Bool), q + j = C.l.length ∧ LInv (l.map pureC) O0 O2 ∧ LTurn O O2 t2 ∧ (t2 = false → t1 = false ∧ ∀ y ∈ C.l.take q, lvF O y.a.p + (if y.no = true then 1 else 0) ≤ lvF O C.h.p) ∧ lk ρ' 0 = .slice (some ⟨g, u, none⟩) l.length cc ∧ lk ρ' 6 = .slice (some ⟨gb, 0, none⟩) O0.length k ∧ lk ρ' 7 = .bool t2 ∧ lk ρ' 8 = .int .i64 (i : Int) ∧ lk ρ' 9 = .int .i64 (q : Int) ∧ Γ' = own 138 2 (.slice (some ⟨gb, 0, none⟩) O0.length k) O0.length (lvsC O2) :: Γ2) C.l.length
    · exact ⟨0, O1, t1, Nat.zero_add _, hI1, hT1, fun h => ⟨h, by simp⟩, rfl, rfl, rfl, rfl, rfl, rfl⟩
    rintro j2 IH2 ρ2 _ ⟨q, O2, t2, hqj, hI2, hT2, hg2, e0, e6, e7, e8, e9, rfl⟩
    refine TK.know5 e0 e6 e7 e8 e9 ?_
    by_cases hq : q < C.l.length
    · obtain ⟨x, hx⟩ : ∃ x, C.l[q]? = some x := ⟨C.l[q], List.getElem?_eq_getElem hq⟩
      have hxm := List.mem_of_getElem? hx
      have htk2 : ∀ y, y ∈ C.l.take (q + 1) ↔ y ∈ C.l.take q ∨ y = x := fun y => by rw [List.take_add_one, hx]; simp
      have hb := hCo.2.1
      refine TK.mem fun m0 hm0 => ?_
      obtain ⟨g2, u2, hg2A⟩ := src_some ((has_tls hb : has (_ :: Γ2) _) m0 hm0) (by rw [ltsC_len]; omega)
      clear hm0 m0
      have hcb' := hcb
      rw [hg2A] at hb hcb'
      have helx : has Γ2 (fun m => cellsAt m g2 (u2 + q * 3) [.bool x.no, .int .u32 (x.a.p : Int), .slice x.a.A x.a.l.length x.a.c]) := has_el (sz := 3) (f := Lt.cells) (fun _ => rfl) (by decide) hb hx
      have hx0 : has Γ2 (fun m => cellAt m g2 (u2 + q * 3) (.bool x.no)) := has_cell helx 0 rfl
      have hx1 : has Γ2 (fun m => cellAt m g2 (u2 + q * 3 + 1) (.int .u32 (x.a.p : Int))) := has_cell helx 1 rfl
      have hxP : x.a.p ∈ O0.map (·.1) := (hmP _).2 ⟨pureC C, List.mem_map_of_mem hCm, .inr ⟨pureL x, List.mem_map_of_mem hxm, rfl⟩⟩
      obtain ⟨z, hzm, hz1, hz2⟩ := lvOf_mem (O := O2) (by rw [hI2.pre]; exact hxP)
      have hzf := hI2.few z hzm
      have hw0 : lvF O2 x.a.p = z.2 := by unfold lvF; rw [hz2]; rfl
      have hO2l := hI2.len
      refine m_run ?_
      refine TL.imp (Δ := own 138 2 (.slice (some ⟨gb, 0, none⟩) O2.length k) O2.length (lvsC O2) :: Γ2) (fun m hm => by rw [hO2l]; exact hm) ?_
      (apply TL.callV; exact rfl; exact callB_of (by kernel_rfl); exact rfl; exact fun _ h => h)
      rw [← hO2l]
      exact of12_t (some ⟨gb, 0, none⟩) k O2 x.a.p _ (has_at (up_src _ _ _ _) 0 rfl fun _ h => own_src h) (by omega)
      rintro _ _ ⟨rfl, rfl⟩
      rw [hz2]
      refine TL.imp (Δ := own 138 2 (.slice (some ⟨gb, 0, none⟩) O0.length k) O0.length (lvsC O2) :: Γ2) (fun m hm => by rw [← hO2l]; exact hm) ?_
      rw [show lvI (some z.2) = ((z.2 : Nat) : Int) from rfl]
      refine m_run ?_
      refine TK.cut (I := fun ρ' Γ' => lk ρ' 0 = .slice (some ⟨g, u, none⟩) l.length cc ∧ lk ρ' 6 = .slice (some ⟨gb, 0, none⟩) O0.length k ∧ lk ρ' 7 = .bool t2 ∧ lk ρ' 8 = .int .i64 (i : Int) ∧ lk ρ' 9 = .int .i64 (q : Int) ∧ lk ρ' 10 = .int .i64 ((z.2 + (if x.no = true then 1 else 0) : Nat) : Int) ∧ Γ' = own 138 2 (.slice (some ⟨gb, 0, none⟩) O0.length k) O0.length (lvsC O2) :: Γ2) ?_ ?_
      · intro k' hk'
        cases hxn : x.no with
        | true =>
          refine m_run ?_
          exact hk' _ _ ⟨rfl, rfl, rfl, rfl, rfl, congrArg (Value.int .i64) (by rw [hxn, if_pos rfl]; exact i64_succ z.2 (by omega)), rfl⟩
        | false =>
          refine m_run ?_
          exact hk' _ _ ⟨rfl, rfl, rfl, rfl, rfl, congrArg (Value.int .i64) (by rw [hxn]; rfl), rfl⟩
      rintro ρ3 _ ⟨e0, e6, e7, e8, e9, e10, rfl⟩
      have hwl : ∀ L, Sol (l.map pureC) L → z.2 + (if x.no = true then 1 else 0) ≤ L C.h.p := fun L hL => by
        have h1 := hI2.low L hL z hzm
        have h2 := hL (pureC C) (List.mem_map_of_mem hCm) (pureL x) (List.mem_map_of_mem hxm)
        rw [hz1] at h1
        have h3 : L x.a.p + (if x.no = true then 1 else 0) ≤ L C.h.p := h2
        omega
      have hwn : z.2 + (if x.no = true then 1 else 0) ≤ O0.length := by split <;> omega
      have hwf : t2 = false → z.2 + (if x.no = true then 1 else 0) = lvF O x.a.p + (if x.no = true then 1 else 0) := fun ht => by
        rw [← hT2.1 ht, hw0]
      generalize z.2 + (if x.no = true then 1 else 0) = w at *
      refine TK.know6 e0 e6 e7 e8 e9 e10 ?_
      refine m_run ?_
      apply TK.iter (fun j ρ' Γ' => ∃ (n : Nat) (O3 : List Lv) (t3 : Bool), n + j = O0.length ∧ LInv (l.map pureC) O0 O3 ∧ LTurn O O3 t3 ∧ (t3 = false → t2 = false ∧ ∀ y ∈ O.take n, y.1 = C.h.p → w ≤ y.2) ∧ lk ρ' 0 = .slice (some ⟨g, u, none⟩) l.length cc ∧ lk ρ' 6 = .slice (some ⟨gb, 0, none⟩) O0.length k ∧ lk ρ' 7 = .bool t3 ∧ lk ρ' 8 = .int .i64 (i : Int) ∧ lk ρ' 9 = .int .i64 (q : Int) ∧ lk ρ' 10 = .int .i64 (w : Int) ∧ lk ρ' 11 = .int .i64 (n : Int) ∧ Γ' = own 138 2 (.slice (some ⟨gb, 0, none⟩) O0.length k) O0.length (lvsC O3) :: Γ2) O0.length
      · exact ⟨0, O2, t2, Nat.zero_add _, hI2, hT2, fun h => ⟨h, by simp⟩, rfl, rfl, rfl, rfl, rfl, rfl, rfl, rfl⟩
      rintro j3 IH3 ρ4 _ ⟨n3, O3, t3, hnj, hI3, hT3, hg3, e0, e6, e7, e8, e9, e10, e11, rfl⟩
      refine TK.know7 e0 e6 e7 e8 e9 e10 e11 ?_
      have hO3l := hI3.len
      by_cases hn3 : n3 < O0.length
      · obtain ⟨y, hy⟩ : ∃ y, O3[n3]? = some y := ⟨O3[n3]'(by omega), List.getElem?_eq_getElem _⟩
        have hym := List.mem_of_getElem? hy
        have hyf := hI3.few y hym
        have hown : has (own 138 2 (.slice (some ⟨gb, 0, none⟩) O0.length k) O0.length (lvsC O3) :: Γ2) (fun m => cellsAt m gb (n3 * 2) [.int .u32 (y.1 : Int), .int .i64 (y.2 : Int)]) := by
          have := lv_el (has_at (Γ := own 138 2 (.slice (some ⟨gb, 0, none⟩) O0.length k) O0.length (lvsC O3) :: Γ2) (up_src _ _ _ _) 0 rfl fun _ h => own_src h) hy
          rw [Nat.zero_add] at this
          exact this
        have hy0 := has_cell hown 0 (v := .int .u32 (y.1 : Int)) rfl
        have hy1 := has_cell hown 1 (v := .int .i64 (y.2 : Int)) rfl
        have hch' : has (own 138 2 (.slice (some ⟨gb, 0, none⟩) O0.length k) O0.length (lvsC O3) :: Γ2) (fun m => cellAt m g (u + i * 3) (.int .u32 (C.h.p : Int))) := has_tlc hch
        refine m_run ?_
        refine TK.cut (I := fun ρ' Γ' => lk ρ' 0 = .slice (some ⟨g, u, none⟩) l.length cc ∧ lk ρ' 6 = .slice (some ⟨gb, 0, none⟩) O0.length k ∧ lk ρ' 7 = .bool t3 ∧ lk ρ' 8 = .int .i64 (i : Int) ∧ lk ρ' 9 = .int .i64 (q : Int) ∧ lk ρ' 10 = .int .i64 (w : Int) ∧ lk ρ' 11 = .int .i64 (n3 : Int) ∧ lk ρ' 87 = .bool (decide (y.1 = C.h.p) && decide (y.2 < w)) ∧ Γ' = own 138 2 (.slice (some ⟨gb, 0, none⟩) O0.length k) O0.length (lvsC O3) :: Γ2) ?_ ?_
        · intro k' hk'
          refine TK.drawS mixed rfl ?_
          refine m_take (At.mk : At 0) ?_; refine m_take (At.mk : At 1) ?_; refine m_take (At.mk : At 2) ?_; refine m_take (At.mk : At 3) ?_; refine m_take (At.mk : At 4) ?_; refine m_take (At.mk : At 5) ?_; refine m_take (At.mk : At 6) ?_; refine m_take (At.mk : At 7) ?_; refine m_take (At.mk : At 8) ?_; refine m_take (At.mk : At 9) ?_; refine m_take (At.mk : At 10) ?_; refine m_take (At.mk : At 11) ?_; refine m_take (At.mk : At 12) ?_
          by_cases hyh : y.1 = C.h.p
          · refine TA.isT 79 rfl (beq_iff_eq.2 (by omega)) ?_
            refine m_take (At.mk : At 13) ?_; refine m_take (At.mk : At 14) ?_; refine m_take (At.mk : At 15) ?_; refine m_take (At.mk : At 16) ?_; refine m_take (At.mk : At 17) ?_; refine m_take (At.mk : At 18) ?_; refine m_take (At.mk : At 19) ?_; refine m_take (At.mk : At 20) ?_
            refine TA.done (by kernel_rfl) ?_
            exact hk' _ _ ⟨rfl, rfl, rfl, rfl, rfl, rfl, rfl, congrArg Value.bool (by rw [decide_eq_true hyh, Bool.true_and, Bool.eq_iff_iff, decide_eq_true_iff, decide_eq_true_iff]; omega), rfl⟩
          · refine TA.isF 79 rfl (beq_eq_false_iff_ne.2 (by omega)) ?_
            refine m_take (At.mk : At 13) ?_; refine m_take (At.mk : At 14) ?_; refine m_take (At.mk : At 15) ?_; refine m_take (At.mk : At 16) ?_; refine m_take (At.mk : At 17) ?_; refine m_take (At.mk : At 18) ?_; refine m_take (At.mk : At 19) ?_; refine m_take (At.mk : At 20) ?_
            refine TA.done (by kernel_rfl) ?_
            exact hk' _ _ ⟨rfl, rfl, rfl, rfl, rfl, rfl, rfl, congrArg Value.bool (by rw [decide_eq_false hyh]; rfl), rfl⟩
        rintro ρ5 _ ⟨e0, e6, e7, e8, e9, e10, e11, e87, rfl⟩
        refine TK.know8 e0 e6 e7 e8 e9 e10 e11 e87 ?_
        by_cases hup : y.1 = C.h.p ∧ y.2 < w
        · refine TK.know (t := 87) (v := .bool true) (congrArg Value.bool (by rw [decide_eq_true hup.1, decide_eq_true hup.2]; rfl)) ?_
          refine m_run ?_
          (apply TL.storeOwnF 0 (n3 * 2 + 1) (cs' := lvsC (O3.set n3 (y.1, w))); exact rfl; exact rfl; (exact m_val); exact rfl; exact tb rfl; exact rfl; exact rfl; exact (by omega); exact set_flat lvC 2 (fun _ => rfl) _ (y.1, w) O3 n3 1 y hy (by decide) rfl; exact rfl)
          by_cases hwN : O0.length ≤ w
          · refine m_run ?_
            (apply TK.ret2; exact rfl; exact rfl; (exact m_val); (exact m_val))
            refine ⟨_, rfl, hs2.trans (.cons _ (.refl _)), .inr ⟨h4, hok, .inr ⟨rfl, no_sol (Q := O0.map (·.1)) (h := C.h.p) (fun c hc => ⟨(hmP _).2 ⟨c, hc, .inl rfl⟩, fun y hy => (hmP _).2 ⟨c, hc, .inr ⟨y, hy, rfl⟩⟩⟩) hhP fun L hL => ?_⟩⟩⟩
            rw [List.length_map]
            exact Nat.le_trans hwN (hwl L hL)
          · refine m_run ?_
            have hsm := sumL_set (y := (y.1, w)) hy
            refine IH3 (j3 - 1) _ _ (by omega) ⟨n3 + 1, O3.set n3 (y.1, w), true, by omega, hI3.set hy (fun L hL => by rw [hup.1]; exact hwl L hL) (by omega), ⟨fun h => (by cases h), fun _ => ?_, ?_⟩, fun h => (by cases h), rfl, rfl, rfl, rfl, rfl, rfl, congrArg (Value.int .i64) (i64_succ n3 (by omega)), rfl⟩
            · have := hT3.2.2; simp only at hsm; omega
            · have := hT3.2.2; simp only at hsm; omega
        · refine TK.know (t := 87) (v := .bool false) (congrArg Value.bool (by rw [Bool.eq_false_iff]; intro h; rw [Bool.and_eq_true] at h; exact hup ⟨of_decide_eq_true h.1, of_decide_eq_true h.2⟩)) ?_
          refine m_run ?_
          refine IH3 (j3 - 1) _ _ (by omega) ⟨n3 + 1, O3, t3, by omega, hI3, hT3, fun h => ⟨(hg3 h).1, fun z hz hzh => ?_⟩, rfl, rfl, rfl, rfl, rfl, rfl, congrArg (Value.int .i64) (i64_succ n3 (by omega)), rfl⟩
          rw [← hT3.1 h, List.take_add_one, hy] at hz
          rcases List.mem_append.1 hz with h1 | h1
          · exact (hg3 h).2 z (by rw [← hT3.1 h]; exact h1) hzh
          · obtain rfl : z = y := by simpa using h1
            exact Nat.le_of_not_lt fun h2 => hup ⟨hzh, h2⟩
      obtain rfl : n3 = O0.length := by omega
      refine m_run ?_
      refine IH2 (j2 - 1) _ _ (by omega) ⟨q + 1, O3, t3, by omega, hI3, hT3, fun h => ⟨(hg2 (hg3 h).1).1, fun y hy => ?_⟩, rfl, rfl, rfl, rfl, congrArg (Value.int .i64) (i64_succ q (by omega)), rfl⟩
      obtain ⟨h1, h2⟩ := hg3 h
      rcases (htk2 y).1 hy with h3 | rfl
      · exact (hg2 h1).2 y h3
      · rw [← hwf h1]
        have hO3O := hT3.1 h
        have hhO : C.h.p ∈ O.map (·.1) := by rw [← hO3O, hI3.pre]; exact hhP
        obtain ⟨t, htm, ht1, ht2⟩ := lvOf_mem hhO
        have h5 := h2 t (by rw [List.take_of_length_le (by rw [← hO3O, hO3l]; exact Nat.le_refl _)]; exact htm) ht1
        have h6 : lvF O C.h.p = t.2 := by unfold lvF; rw [ht2]; rfl
        omega
    obtain rfl : q = C.l.length := by omega
    rw [List.take_length] at hg2
    refine m_run ?_
    refine IH1 (j1 - 1) _ _ (by omega) ⟨i + 1, O2, t2, by omega, hI2, hT2, fun h c hc => ?_, rfl, rfl, rfl, congrArg (Value.int .i64) (i64_succ i (by omega)), rfl⟩
    rcases (htk c).1 hc with h1 | rfl
    · exact hg1 (hg2 h).1 c h1
    · exact (hg2 h).2
  obtain rfl : i = l.length := by omega
  rw [List.take_length] at hg1
  cases t1 with
  | true =>
    refine m_run ?_
    have h1 := hT1.2.1 rfl
    have h2 := sumL_le hI1.few
    rw [hI1.len] at h2
    exact IH (O0.length * O0.length - sumL O1) _ _ (by omega) ⟨O1, hI1, by omega, rfl, rfl, rfl⟩
  | false =>
    obtain rfl := hT1.1 rfl
    have hOl := hI1.len
    refine m_run ?_
    (apply TK.ret2; exact rfl; exact rfl; (exact m_val); (exact m_val))
    refine ⟨_, rfl, hs2.trans (.cons _ (.refl _)), .inr ⟨h4, hok, .inl ⟨O1, B, k, by rw [hOl], by rw [hOl]; exact has_at (up_src _ _ _ _) 0 rfl fun _ h => own_src h, by omega, fun x hx => by rw [hOl]; exact Nat.le_of_lt (hI1.few x hx), ⟨hI1.upl hU, fun p => by rw [hI1.pre]; exact hmP p, fun c hc y hy => ?_, hI1.low⟩⟩⟩⟩
    obtain ⟨C, hCm, rfl⟩ := List.mem_map.1 hc
    obtain ⟨x, hxm, rfl⟩ := List.mem_map.1 hy
    exact hg1 rfl C hCm x hxm
end Go.Proofs.YthbcfamfaicneaaGreat.E

/- MY OWN LAYER: numbers in memory; slices of slices of numbers, all of one's own. P is a variable. -/
namespace Go.Proofs.YthbcfamfaicneaaGreat.E
open Go Go.RowKit
abbrev ints (w : List Nat) : List Value := w.map fun n : Nat => Value.int .i64 (n : Int)
theorem ints_len (w : List Nat) : (ints w).length = w.length := by simp
theorem ints_one (w : List Nat) : ∀ u ∈ ints w, u.oneCell' = true := by
  intro u hu
  obtain ⟨n, _, rfl⟩ := List.mem_map.1 hu
  rfl
theorem has_ints {Γ : List HP} {b o n i x : Nat} {l : List Nat} (h : has Γ (srcAt 1 (some ⟨b, o, none⟩) n (ints l))) (hi : l[i]? = some x) : has Γ (fun m => cellAt m b (o + i) (.int .i64 (x : Int))) := fun m hm => by
  rcases (h m hm).2 with h | ⟨b', o', e, h⟩
  · have : l = [] := by simpa using h
    subst this; simp at hi
  · injection e with e; injection e with e1 e2 _
    subst e1; subst e2
    exact h i _ (by simp [hi])
/-- A slice of numbers of one's own, as an element of a slice. -/
structure Rw where
  A : Option Addr
  c : Nat
  w : List Nat
def Rw.v (r : Rw) : Value := .slice r.A r.w.length r.c
def Rw.h (e : Nat) (r : Rw) : HP := own e 1 r.v r.w.length (ints r.w)
def rw0 : Rw := ⟨none, 0, []⟩
theorem alls_out {α : Type} {f : α → HP} {l : List α} {i : Nat} {x : α} {Γ : List HP} {m : Mem} (h : l[i]? = some x) (hm : all (alls f l :: Γ) m) : all (f x :: alls f (l.eraseIdx i) :: Γ) m := sep_assoc (sep_mono hm (fun _ h' => alls_get h h') (fun _ => id))
theorem alls_in {α : Type} {f : α → HP} {l : List α} {i : Nat} {x : α} (y : α) {Γ : List HP} {m : Mem} (h : l[i]? = some x) (hm : all (f y :: alls f (l.eraseIdx i) :: Γ) m) : all (alls f (l.set i y) :: Γ) m := sep_mono (sep_assoc' hm) (fun _ h' => alls_set h h') (fun _ => id)
theorem rws0 (e n : Nat) {m : Mem} (h : emp m) : alls (Rw.h e) (List.replicate n rw0) m := by
  induction n with
  | zero => exact h
  | succ n ih => exact ⟨m, fun _ => none, fun _ => .inr rfl, by funext k; simp [Mem.join], own_nil _ _ h, by
      have : m = fun _ => none := by funext k; exact h k
      rw [← this]; exact ih⟩
end Go.Proofs.YthbcfamfaicneaaGreat.E

/- The document on strata: Strata, walked. -/
namespace Go.Proofs.YthbcfamfaicneaaGreat.E
open Go Go.RowKit Go.Proofs
attribute [local irreducible] TK TL TQ TA TB Fn PV
/-- The level of the i-th clause's head. -/
def hdL (l : List Cl) (O : List Lv) (i : Nat) : Option Nat := l[i]?.map fun c => lvF O c.h.p
/-- The clauses of a level. -/
def atL (l : List Cl) (O : List Lv) (n k : Nat) : List Nat := (List.range n).filter fun i => decide (hdL l O i = some k)
theorem atL_succ (l : List Cl) (O : List Lv) (n k : Nat) : atL l O (n + 1) k = atL l O n k ++ if hdL l O n = some k then [n] else [] := by
  unfold atL
  rw [List.range_succ, List.filter_append]
  congr 1
  by_cases h : hdL l O n = some k <;> simp [h]
theorem atL_len (l : List Cl) (O : List Lv) (n k : Nat) : (atL l O n k).length ≤ n := Nat.le_trans (List.length_filter_le _ _) (by simp)
/-- How many strata there are. -/
def topL (l : List Cl) (O : List Lv) : Nat := l.foldl (fun t c => max t (lvF O c.h.p + 1)) 0
theorem topL_snoc {l : List Cl} {O : List Lv} {i : Nat} {c : Cl} (h : l[i]? = some c) : topL (l.take (i + 1)) O = max (topL (l.take i) O) (lvF O c.h.p + 1) := by
  rw [List.take_add_one, h]
  simp [topL, List.foldl_append]
theorem topL_ge (O : List Lv) : ∀ (l : List Cl) (t : Nat), t ≤ l.foldl (fun t c => max t (lvF O c.h.p + 1)) t ∧ ∀ c ∈ l, lvF O c.h.p < l.foldl (fun t c => max t (lvF O c.h.p + 1)) t
  | [], t => ⟨Nat.le_refl _, fun c hc => (List.not_mem_nil hc).elim⟩
  | a :: l, t => by
    obtain ⟨h1, h2⟩ := topL_ge O l (max t (lvF O a.h.p + 1))
    refine ⟨by rw [List.foldl_cons]; omega, fun c hc => ?_⟩
    rw [List.foldl_cons]
    rcases List.mem_cons.1 hc with rfl | hc
    · omega
    · exact h2 c hc
/-- What Strata gives. -/
structure StrIs (l : List Cl) (O : List Lv) (R : List Rw) : Prop where
  len : R.length = topL l O
  row : ∀ k r, R[k]? = some r → r.w = atL l O l.length k
def StrRes (l : List Cl) (Γ : List HP) (v : Value) (Γ' : List HP) : Prop := Γ.Sublist Γ' ∧
  ((∃ (n : Nat) (e : Int), e ≠ 0 ∧ Res l n e ∧ v = .tuple #[.slice none 0 0, .int .i64 e]) ∨
   (l.length ≤ 400 ∧ okTo l l.length ∧
    ((∃ (O : List Lv) (R : List Rw) (B : Option Addr) (k : Nat), v = .tuple #[.slice B R.length k, .int .i64 0] ∧ has Γ' (srcAt 1 B R.length (R.map Rw.v)) ∧ (∀ r ∈ R, has Γ' (srcAt 1 r.A r.w.length (ints r.w))) ∧ R.length ≤ (allA l).length + 1 ∧ LevIs (l.map pureC) O ∧ StrIs l O R) ∨
     (v = .tuple #[.slice none 0 0, .int .i64 11] ∧ ∀ L, ¬ Sol (l.map pureC) L))))
theorem head_mem {l : List Cl} {O : List Lv} (h : LevIs (l.map pureC) O) {c : Cl} (hc : c ∈ l) : ∃ x ∈ O, x.1 = c.h.p ∧ lvOf O c.h.p = some x.2 := lvOf_mem ((h.mem _).2 ⟨pureC c, List.mem_map_of_mem hc, .inl rfl⟩)
set_option maxRecDepth 100000 in
set_option maxHeartbeats 16000000 in
theorem rstrata_t (A : Option Addr) (cc : Nat) (l : List Cl) (Γ : List HP) (h : clsOk A l Γ) (hcc : l.length ≤ cc) (hn : l.length ≤ 1000000) (hall : (allA l).length ≤ 1000000) :
    FnV Tryz.prog 49 [.slice A l.length cc] Γ fun v Γ' => StrRes l Γ v Γ' := by
  refine Fn.enter Tryz.func49 rfl rfl rfl fun E => ?_
  refine m_run ?_
  (apply TL.callV; exact rfl; exact callB_of (by kernel_rfl); exact rfl; exact fun _ h => h)
  exact rlevels_t A cc l _ h hcc hn hall
  rintro _ Γ2 ⟨hs2, ⟨n, e, he, hr, rfl⟩ | ⟨h4, hok, ⟨O, LB, Lk, rfl, hO, hOl, hOb, hLev⟩ | ⟨rfl, hno⟩⟩⟩
  · refine m_run ?_
    (apply TK.ret2; exact rfl; exact rfl; (exact m_val); (exact m_val))
    exact ⟨_, rfl, hs2, .inl ⟨n, e, he, hr, rfl⟩⟩
  rotate_left
  · refine m_run ?_
    (apply TK.ret2; exact rfl; exact rfl; (exact m_val); (exact m_val))
    exact ⟨_, rfl, hs2, .inr ⟨h4, hok, .inr ⟨rfl, hno⟩⟩⟩
  have h2 := (show clsOk A l Γ2 from ⟨has_sublist (up_src _ _ _ _) hs2 h.1, fun c hc => ⟨Cl.ok_sub hs2 (h.2 c hc).1, (h.2 c hc).2⟩⟩)
  have hlv : ∀ c ∈ l, lvOf O c.h.p = some (lvF O c.h.p) ∧ lvF O c.h.p ≤ O.length := fun c hc => by
    obtain ⟨x, hx, _, hx2⟩ := head_mem hLev hc
    have : lvF O c.h.p = x.2 := by unfold lvF; rw [hx2]; rfl
    rw [this]
    exact ⟨hx2, hOb x hx⟩
  have htopO : ∀ i, i ≤ l.length → topL (l.take i) O ≤ O.length + 1 := by
    intro i
    induction i with
    | zero => intro _; simp [topL]
    | succ i ih =>
      intro hi
      obtain ⟨c, hc⟩ : ∃ c, l[i]? = some c := ⟨l[i], List.getElem?_eq_getElem (by omega)⟩
      rw [topL_snoc hc]
      have := ih (by omega)
      have := (hlv c (List.mem_of_getElem? hc)).2
      omega
  refine m_run ?_
  apply TK.iter (fun j ρ' Γ' => ∃ i : Nat, i + j = l.length ∧ lk ρ' 0 = .slice A l.length cc ∧ lk ρ' 4 = .slice LB O.length Lk ∧ lk ρ' 6 = .int .i64 ((topL (l.take i) O : Int) - 1) ∧ lk ρ' 7 = .int .i64 (i : Int) ∧ Γ' = Γ2) l.length
  · exact ⟨0, Nat.zero_add _, rfl, rfl, rfl, rfl, rfl⟩
  rintro j IH ρ' Γ2 ⟨i, hij, e0, e4, e6, e7, rfl⟩
  refine TK.know4 e0 e4 e6 e7 ?_
  by_cases hi : i < l.length
  · obtain ⟨C, hC⟩ : ∃ C, l[i]? = some C := ⟨l[i], List.getElem?_eq_getElem hi⟩
    have hCm := List.mem_of_getElem? hC
    obtain ⟨hv1, hv2⟩ := hlv C hCm
    have hs := h2.1
    refine TK.mem fun m0 hm0 => ?_
    obtain ⟨g, u, hgA⟩ := src_some (hs m0 hm0) (by rw [clsC_len]; omega)
    clear hm0 m0
    subst hgA
    have hch : has Γ2 (fun m => cellAt m g (u + i * 3) (.int .u32 (C.h.p : Int))) := has_cell (has_el (sz := 3) (f := Cl.cells) (fun _ => rfl) (by decide) hs hC) 0 rfl
    refine m_run ?_
    (apply TL.callV; exact rfl; exact callB_of (by kernel_rfl); exact rfl; exact fun _ h => h)
    exact of12_t LB Lk O C.h.p _ hO (by omega)
    rintro _ Γ2 ⟨rfl, rfl⟩
    rw [hv1]
    refine m_run ?_
    refine IH (j - 1) _ _ (by omega) ⟨i + 1, by omega, rfl, rfl, congrArg (Value.int .i64) ?_, congrArg (Value.int .i64) (i64_succ i (by omega)), rfl⟩
    rw [topL_snoc hC]
    show (if ((lvF O C.h.p : Nat) : Int) > _ then ((lvF O C.h.p : Nat) : Int) else _) = _
    split <;> omega
  obtain rfl : i = l.length := by omega
  have hT := htopO l.length (Nat.le_refl _)
  rw [List.take_length] at hT
  obtain ⟨_, hge⟩ := topL_ge O l 0
  have hge' : ∀ c ∈ l, lvF O c.h.p < topL l O := hge
  clear hge htopO IH
  refine TK.know (t := 6) (v := .int .i64 ((topL l O : Int) - 1)) (congrArg (Value.int .i64) (by rw [List.take_length])) ?_
  generalize hTT : topL l O = T at *
  refine m_run ?_
  refine TL.know (t := 36) (v := .int .i64 (T : Int)) (congrArg (Value.int .i64) (by rw [i64_in (by omega) (by omega)]; omega)) ?_
  (apply TL.makeN (n := T) (c := T); exact rfl; exact rfl; exact rfl; exact tb rfl; exact rfl; exact tb rfl; exact rfl; exact rfl; exact Nat.le_refl _)
  · show 24 * T ≤ _; omega
  · unfold maxLen; omega
  intro b8
  refine TL.free (H := alls (Rw.h 3) (List.replicate T rw0)) (fun m hm => rws0 _ _ hm) ?_
  refine TL.imp (Δ := own 51 1 (.slice (some ⟨b8, 0, none⟩) T T) T ((List.replicate T rw0).map Rw.v) :: alls (Rw.h 3) (List.replicate T rw0) :: Γ2) (fun m hm => by
    refine all_perm (.swap _ _ _) ?_
    have : (List.replicate T rw0).map Rw.v = List.replicate T (Value.slice none 0 0) := by rw [List.map_replicate]; rfl
    rw [this]; exact hm) ?_
  refine m_run ?_
  apply TK.iter (fun j ρ' Γ' => ∃ (i : Nat) (R : List Rw) (Γ3 : List HP), i + j = l.length ∧ Γ2.Sublist Γ3 ∧ R.length = T ∧ (∀ k r, R[k]? = some r → r.w = atL l O i k) ∧ lk ρ' 0 = .slice A l.length cc ∧ lk ρ' 4 = .slice LB O.length Lk ∧ lk ρ' 8 = .slice (some ⟨b8, 0, none⟩) T T ∧ lk ρ' 9 = .int .i64 (i : Int) ∧ Γ' = own 51 1 (.slice (some ⟨b8, 0, none⟩) T T) T (R.map Rw.v) :: alls (Rw.h 3) R :: Γ3) l.length
  · refine ⟨0, _, Γ2, Nat.zero_add _, .refl _, by simp, fun k r hr => ?_, rfl, rfl, rfl, rfl, rfl⟩
    rw [List.getElem?_replicate] at hr
    split at hr
    · injection hr with hr; rw [← hr]; rfl
    · cases hr
  rintro j IH ρ2 _ ⟨i, R, Γ3, hij, hs3, hRl, hRw, e0, e4, e8, e9, rfl⟩
  refine TK.know4 e0 e4 e8 e9 ?_
  by_cases hi : i < l.length
  · obtain ⟨C, hC⟩ : ∃ C, l[i]? = some C := ⟨l[i], List.getElem?_eq_getElem hi⟩
    have hCm := List.mem_of_getElem? hC
    obtain ⟨hv1, hv2⟩ := hlv C hCm
    have hkT := hge' C hCm
    have hhd : hdL l O i = some (lvF O C.h.p) := by unfold hdL; rw [hC]; rfl
    have hs := has_sublist (up_src _ _ _ _) hs3 h2.1
    refine TK.mem fun m0 hm0 => ?_
    obtain ⟨g, u, hgA⟩ := src_some ((has_tls (has_tls hs) : has (_ :: _ :: Γ3) _) m0 hm0) (by rw [clsC_len]; omega)
    clear hm0 m0
    subst hgA
    have hch : has Γ3 (fun m => cellAt m g (u + i * 3) (.int .u32 (C.h.p : Int))) := has_cell (has_el (sz := 3) (f := Cl.cells) (fun _ => rfl) (by decide) hs hC) 0 rfl
    refine m_run ?_
    (apply TL.callV; exact rfl; exact callB_of (by kernel_rfl); exact rfl; exact fun _ h => h)
    exact of12_t LB Lk O C.h.p _ (has_tls (has_tls (has_sublist (up_src _ _ _ _) hs3 hO))) (by omega)
    rintro _ _ ⟨rfl, rfl⟩
    rw [hv1]
    rw [show lvI (some (lvF O C.h.p)) = ((lvF O C.h.p : Nat) : Int) from rfl]
    generalize hkk : lvF O C.h.p = k at *
    obtain ⟨r, hr⟩ : ∃ r, R[k]? = some r := ⟨R[k]'(by omega), List.getElem?_eq_getElem _⟩
    have hrw := hRw k r hr
    have hrl : r.w.length ≤ i := by rw [hrw]; exact atL_len _ _ _ _
    have hcell : has (own 51 1 (.slice (some ⟨b8, 0, none⟩) T T) T (R.map Rw.v) :: alls (Rw.h 3) R :: Γ3) (fun m => cellAt m b8 k (.slice r.A r.w.length r.c)) := has_at (up_cell _ _ _) 0 rfl fun m hm => by
      have := own_src hm
      rcases this.2 with h0 | ⟨b, o, e, hh⟩
      · simp at h0; rw [h0] at hr; simp at hr
      · injection e with e; injection e with e1 e2 _
        subst e1; subst e2
        have := hh k (.slice r.A r.w.length r.c) (by rw [List.getElem?_map, hr]; rfl)
        rwa [Nat.zero_add] at this
    refine m_run ?_
    (apply TL.buildSlice (l := ints [i]); exact rfl; exact tb rfl; exact rfl; exact tb rfl; exact rfl; exact rfl; exact rfl; exact rfl; exact rfl)
    intro b59
    refine TL.imp (Δ := r.h 3 :: row b59 (ints [i]) 3 :: own 51 1 (.slice (some ⟨b8, 0, none⟩) T T) T (R.map Rw.v) :: alls (Rw.h 3) (R.eraseIdx k) :: Γ3) (fun m hm => all_perm (List.perm_middle (a := r.h 3) (l₁ := [row b59 (ints [i]) 3, own 51 1 (.slice (some ⟨b8, 0, none⟩) T T) T (R.map Rw.v)]) (l₂ := alls (Rw.h 3) (R.eraseIdx k) :: Γ3)) (sep_mono hm (fun _ => id) fun _ h => sep_mono h (fun _ => id) fun _ h => alls_out hr h)) ?_
    refine m_run ?_
    (apply TL.append 0 (n := r.w.length) (m := 1) (cs := ints r.w) (news := ints [i]); exact rfl; exact rfl; exact tb rfl; exact rfl; exact tb rfl; exact rfl; exact rfl; exact rfl)
    · exact fun _ h => h
    · exact rfl
    · exact has_src_row 1 rfl rfl
    · exact ints_one [i]
    · show (r.w.length + 1) * 8 ≤ _; omega
    · show r.w.length + 1 ≤ maxLen; unfold maxLen; omega
    · exact fun _ => (rfl : _ = _ :: _)
    intro A2 c2 hc2
    refine m_run ?_
    (apply TL.storeOwn 2 k; exact rfl; exact rfl; (exact m_val); exact rfl; exact tb rfl; exact rfl; exact (Nat.zero_add _).symm; exact (by omega))
    refine TL.imp (Δ := own 51 1 (.slice (some ⟨b8, 0, none⟩) T T) T ((R.set k ⟨A2, c2, r.w ++ [i]⟩).map Rw.v) :: alls (Rw.h 3) (R.set k ⟨A2, c2, r.w ++ [i]⟩) :: row b59 (ints [i]) 3 :: Γ3) (fun m hm => ?_) ?_
    · have hin : k < R.length := by omega
      rw [show own 3 1 (.slice A2 (r.w.length + 1) c2) (r.w.length + 1) (ints r.w ++ ints [i]) = Rw.h 3 ⟨A2, c2, r.w ++ [i]⟩ by simp [Rw.h, Rw.v], show (R.map Rw.v).set k (.slice A2 (r.w.length + 1) c2) = (R.set k ⟨A2, c2, r.w ++ [i]⟩).map Rw.v by rw [List.map_set]; simp [Rw.v]] at hm
      exact sep_mono (all_perm ((List.perm_middle (l₁ := [_, _])).trans (.cons _ (.cons _ (.swap _ _ _)))) hm) (fun _ => id) (fun _ h => alls_in ⟨A2, c2, r.w ++ [i]⟩ hr h)
    refine m_run ?_
    refine IH (j - 1) _ _ (by omega) ⟨i + 1, _, _, by omega, .cons _ hs3, by simp [hRl], fun k' r' hr' => ?_, rfl, rfl, rfl, congrArg (Value.int .i64) (i64_succ i (by omega)), rfl⟩
    rw [atL_succ, hhd]
    rw [List.getElem?_set] at hr'
    split at hr'
    · rename_i hkk'
      subst hkk'
      rw [if_pos (by omega)] at hr'
      injection hr' with hr'
      rw [← hr', if_pos rfl, ← hrw]
    · rename_i hne
      rw [if_neg (by simpa using hne), List.append_nil]
      exact hRw k' r' hr'
  obtain rfl : i = l.length := by omega
  refine m_run ?_
  (apply TK.ret2; exact rfl; exact rfl; (exact m_val); (exact m_val))
  refine ⟨_, rfl, (hs2.trans hs3).trans (.cons _ (.cons _ (.refl _))), .inr ⟨h4, hok, .inl ⟨O, R, some ⟨b8, 0, none⟩, T, by rw [hRl], by rw [hRl]; exact has_at (up_src _ _ _ _) 0 rfl fun _ h => own_src h, fun r hr => has_alls 1 rfl (up_src _ _ _ _) hr fun m hm => own_src hm, by omega, hLev, ⟨by rw [hRl, hTT], fun k r hr => hRw k r hr⟩⟩⟩⟩
end Go.Proofs.YthbcfamfaicneaaGreat.E

/- The document on the least model above a base: Least, walked. -/
namespace Go.Proofs.YthbcfamfaicneaaGreat.E
open Go Go.RowKit Go.Proofs
attribute [local irreducible] TK TL TQ TA TB Fn PV
/-- What follows from a base by clauses, what is not so being told by N. -/
inductive DerP (P : List PC) (B N : PF → Prop) : PF → Prop
  | base {x : PF} : B x → DerP P B N x
  | step {c : PC} (σ : Nat → Nat) : c ∈ P → (∀ y ∈ c.2.2, y.1 = false → DerP P B N (instS σ y.2)) → (∀ y ∈ c.2.2, y.1 = true → ¬ N (instS σ y.2)) → DerP P B N (instS σ (c.1, c.2.1))
theorem R14.ok {l : List Cl} (h : R14 l) {c : Cl} (hc : c ∈ l) : wrong1 [] c = 0 := by
  obtain ⟨i, hi, rfl⟩ := List.getElem_of_mem hc
  have h1 := h.2.1 i l[i] hi (List.getElem?_eq_getElem hi)
  obtain ⟨h2, h3, h4⟩ := wrong1_zero.1 h1
  exact wrong1_zero.2 ⟨h2, h3, h4.mono fun a ha => List.mem_append_right _ (by simpa using ha)⟩
theorem heads_der {c : Cl} {P : List PC} {B : PF → Prop} {F N : List PF} {x : PF} (hw : wrong1 [] c = 0) (hP : pureC c ∈ P) (hF : ∀ y ∈ F, DerP P B (· ∈ N) y) (h : HeadsP (pureC c) F N x) : DerP P B (· ∈ N) x := by
  obtain ⟨h1, h2⟩ := Cl.may_of hw
  obtain ⟨σ, h3, h4, rfl⟩ := (heads_iff (small_pure h1) (by rw [← heldC_pure]; exact h2)).1 h
  exact .step σ hP (fun y hy hyn => hF _ (h3 y hy hyn)) h4
theorem der_closed {l : List Cl} {B : PF → Prop} {F N : List PF} (hl : ∀ c ∈ l, wrong1 [] c = 0) (hB : ∀ x, B x → x ∈ F) (hc : ∀ c ∈ l, ∀ x, HeadsP (pureC c) F N x → x ∈ F) {x : PF} (h : DerP (l.map pureC) B (· ∈ N) x) : x ∈ F := by
  induction h with
  | base h => exact hB _ h
  | step σ hP _ hn ih =>
    obtain ⟨c, hcm, rfl⟩ := List.mem_map.1 hP
    obtain ⟨h1, h2⟩ := Cl.may_of (hl c hcm)
    exact hc c hcm _ ((heads_iff (small_pure h1) (by rw [← heldC_pure]; exact h2)).2 ⟨σ, ih, hn, rfl⟩)
def LeastIs (P : List PC) (Bs : List PF) (most K : Nat) (Γ : List HP) (v : Value) (Γ' : List HP) : Prop :=
  (∃ (R : List Fct) (A : Option Addr) (k : Nat), v = .tuple #[.slice A R.length k, .int .i64 0] ∧ Fcs A R Γ' ∧ Γ.Sublist Γ' ∧ Srt (R.map pf) ∧ R.length ≤ K ∧ ∀ x, x ∈ R.map pf ↔ DerP P (· ∈ Bs) (· ∈ Bs) x) ∨
  (v = .tuple #[.slice none 0 0, .int .i64 6] ∧ Γ.Sublist Γ' ∧ ∃ L, Srt L ∧ (∀ x ∈ L, DerP P (· ∈ Bs) (· ∈ Bs) x) ∧ most < L.length)
theorem DerP.congr {P : List PC} {B B' N N' : PF → Prop} (hB : ∀ x, B x → B' x) (hN : ∀ x, N' x → N x) {x : PF} (h : DerP P B N x) : DerP P B' N' x := by
  induction h with
  | base h => exact .base (hB _ h)
  | step σ hc _ hn ih => exact .step σ hc ih fun y hy hyn h => hn y hy hyn (hN _ h)
set_option maxRecDepth 100000 in
set_option maxHeartbeats 8000000 in
theorem least_t (A BA : Option Addr) (cc bc : Nat) (l : List Cl) (base : List Fct) (most K : Nat) (Γ : List HP) (h : clsOk A l Γ) (hcc : l.length ≤ cc) (hR : R14 l) (hall : (allA l).length ≤ 1000000) (hB : Fcs BA base Γ) (hmost : most ≤ K) (hbl : base.length ≤ K) (hK : K ≤ 1000000) (hp : ∀ c ∈ l, (K + 1) ^ c.l.length ≤ 1000000000) :
    FnV Tryz.prog 52 [.slice A l.length cc, .slice BA base.length bc, .int .i64 (most : Int)] Γ fun v Γ' => LeastIs (l.map pureC) (base.map pf) most K Γ v Γ' := by
  refine Fn.enter Tryz.func52 rfl rfl rfl fun E => ?_
  have hl4 := hR.1
  have hw : ∀ c ∈ l, wrong1 [] c = 0 := fun c hc => hR.ok hc
  refine m_run ?_
  (apply TL.callV; exact rfl; exact callB_of (by kernel_rfl); exact rfl; exact fun _ h => h)
  exact right14_t A cc l _ h hcc (by omega) (fun _ => hall)
  rintro _ Γ ⟨⟨b, rfl, hb⟩, rfl⟩
  obtain rfl := hb.2 hR
  refine m_run ?_
  (apply TL.callV; exact rfl; exact callB_of (by kernel_rfl); exact rfl; exact fun _ h => h)
  exact sorted13_t BA bc base _ hB (by omega)
  rintro _ Γ1 ⟨N, NA, Nc, rfl, hN, hs1, hNS, hNm, hNl⟩
  refine m_run ?_
  apply TK.iter (fun j ρ' Γ' => ∃ (F : List Fct) (FA : Option Addr) (Fc : Nat), F.length + j = K ∧ Fcs FA F Γ' ∧ Srt (F.map pf) ∧ (∀ x ∈ F.map pf, DerP (l.map pureC) (· ∈ base.map pf) (· ∈ N.map pf) x) ∧ (∀ x ∈ base.map pf, x ∈ F.map pf) ∧ Γ1.Sublist Γ' ∧ lk ρ' 0 = .slice A l.length cc ∧ lk ρ' 2 = .int .i64 (most : Int) ∧ lk ρ' 8 = .slice NA N.length Nc ∧ lk ρ' 9 = .slice FA F.length Fc) (K - N.length)
  · exact ⟨N, NA, Nc, by omega, hN, hNS, fun x hx => .base ((hNm x).1 hx), fun x hx => (hNm x).2 hx, .refl _, rfl, rfl, rfl, rfl⟩
  rintro j IH ρ' Γ2 ⟨F, FA, Fc, hFj, hF, hFS, hFd, hFb, hs2, e0, e2, e8, e9⟩
  refine TK.know4 e0 e2 e8 e9 ?_
  refine m_run ?_
  apply TK.iter (fun j ρ' Γ' => ∃ (i : Nat) (X : List Fct) (XA : Option Addr) (Xc : Nat), i + j = l.length ∧ Fcs XA X Γ' ∧ Srt (X.map pf) ∧ (∀ x, x ∈ X.map pf ↔ x ∈ F.map pf ∨ ∃ c ∈ l.take i, HeadsP (pureC c) (F.map pf) (N.map pf) x) ∧ X.length ≤ K + i * 1000000000 ∧ Γ2.Sublist Γ' ∧ lk ρ' 0 = .slice A l.length cc ∧ lk ρ' 2 = .int .i64 (most : Int) ∧ lk ρ' 8 = .slice NA N.length Nc ∧ lk ρ' 9 = .slice FA F.length Fc ∧ lk ρ' 10 = .slice XA X.length Xc ∧ lk ρ' 11 = .int .i64 (i : Int)) l.length
  · exact ⟨0, F, FA, Fc, Nat.zero_add _, hF, hFS, by simp, by omega, .refl _, rfl, rfl, rfl, rfl, rfl, rfl⟩
  rintro j2 IH2 ρ2 Γ3 ⟨i, X, XA, Xc, hij, hX, hXS, hXm, hXl, hs3, e0, e2, e8, e9, e10, e11⟩
  refine TK.know6 e0 e2 e8 e9 e10 e11 ?_
  have hsG3 := (hs1.trans hs2).trans hs3
  by_cases hi : i < l.length
  · obtain ⟨C, hC⟩ : ∃ C, l[i]? = some C := ⟨l[i], List.getElem?_eq_getElem hi⟩
    have hCm := List.mem_of_getElem? hC
    obtain ⟨hCo, hCs⟩ := h.2 C hCm
    have hmay := (Cl.may_of (hw C hCm)).1
    have hCl8 := (mayC_vars hmay).1
    have htk : ∀ c, c ∈ l.take (i + 1) ↔ c ∈ l.take i ∨ c = C := fun c => by rw [List.take_add_one, hC]; simp
    have hs := has_sublist (up_src _ _ _ _) hsG3 h.1
    refine TK.mem fun m0 hm0 => ?_
    obtain ⟨g, u, rfl⟩ := src_some (hs m0 hm0) (by rw [clsC_len]; omega)
    clear hm0 m0
    have hcl : has Γ3 (fun m => cellsAt m g (u + i * 3) [.int .u32 (C.h.p : Int), .slice C.h.A C.h.l.length C.h.c, .slice C.A C.l.length C.c]) := has_el (sz := 3) (f := Cl.cells) (fun _ => rfl) (by decide) hs hC
    refine m_run ?_
    (apply TL.callV; exact rfl; exact callB_of (by kernel_rfl); exact rfl; exact fun _ h => h)
    refine heads_t C FA NA Fc Nc F N _ (Cl.ok_sub hsG3 hCo) hCs (by omega) (hF.sub hs3) (hN.sub (hs2.trans hs3)) (by omega) (by omega) fun _ => ?_
    · exact Nat.le_trans (Nat.pow_le_pow_left (by omega) _) (hp C hCm)
    rintro _ Γ4 ⟨H, HA, Hc, rfl, hH, hs4, hHS, hHl, hHm⟩
    refine m_run ?_
    apply TK.iter (fun j ρ' Γ' => ∃ (k : Nat) (Y : List Fct) (YA : Option Addr) (Yc : Nat), k + j = H.length ∧ Fcs YA Y Γ' ∧ Srt (Y.map pf) ∧ (∀ x, x ∈ Y.map pf ↔ x ∈ X.map pf ∨ x ∈ (H.take k).map pf) ∧ Y.length ≤ X.length + k ∧ Γ4.Sublist Γ' ∧ lk ρ' 0 = .slice (some ⟨g, u, none⟩) l.length cc ∧ lk ρ' 2 = .int .i64 (most : Int) ∧ lk ρ' 8 = .slice NA N.length Nc ∧ lk ρ' 9 = .slice FA F.length Fc ∧ lk ρ' 10 = .slice YA Y.length Yc ∧ lk ρ' 11 = .int .i64 (i : Int) ∧ lk ρ' 12 = .slice HA H.length Hc ∧ lk ρ' 13 = .int .i64 (k : Int)) H.length
    · exact ⟨0, X, XA, Xc, Nat.zero_add _, hX.sub hs4, hXS, by simp, by omega, .refl _, rfl, rfl, rfl, rfl, rfl, rfl, rfl, rfl⟩
    rintro j3 IH3 ρ3 Γ5 ⟨k, Y, YA, Yc, hkj, hY, hYS, hYm, hYl, hs5, e0, e2, e8, e9, e10, e11, e12, e13⟩
    refine TK.know8 e0 e2 e8 e9 e10 e11 e12 e13 ?_
    by_cases hk : k < H.length
    · obtain ⟨f, hf⟩ : ∃ f, H[k]? = some f := ⟨H[k], List.getElem?_eq_getElem hk⟩
      have hfm := List.mem_of_getElem? hf
      have hH5 := hH.sub hs5
      have hHs := hH5.src
      refine TK.mem fun m0 hm0 => ?_
      obtain ⟨g2, u2, rfl⟩ := src_some (hHs m0 hm0) (by rw [fcsC_len]; omega)
      clear hm0 m0
      have hcf : has Γ5 (fun m => cellsAt m g2 (u2 + k * 2) [.int .u32 (f.p : Int), .slice f.A f.l.length f.c]) := fct_el hHs hf
      refine m_run ?_
      (apply TL.callV; exact rfl; exact callB_of (by kernel_rfl); exact rfl; exact fun _ h => h)
      exact with13_t [] YA Yc Y f _ hY (hH5.ok f hfm) (hH5.few f hfm) (by omega) hYS
      rintro v _ ⟨Γ6, rfl, Z, ZA, Zc, rfl, hZ, hs6, hZS, hZm, hZl⟩
      refine m_run ?_
      refine IH3 (j3 - 1) _ _ (by omega) ⟨k + 1, Z, ZA, Zc, by omega, hZ, hZS, fun x => ?_, by omega, hs5.trans hs6, rfl, rfl, rfl, rfl, rfl, rfl, rfl, congrArg (Value.int .i64) (i64_succ k (by omega))⟩
      rw [hZm, List.mem_append, hYm, List.take_add_one, hf, or_assoc]
      simp
    obtain rfl : k = H.length := by omega
    rw [List.take_length] at hYm
    refine m_run ?_
    refine IH2 (j2 - 1) _ _ (by omega) ⟨i + 1, Y, YA, Yc, by omega, hY, hYS, fun x => ?_, by omega, hs3.trans (hs4.trans hs5), rfl, rfl, rfl, rfl, rfl, congrArg (Value.int .i64) (i64_succ i (by omega))⟩
    rw [hYm, hXm, hHm, or_assoc]
    refine or_congr_right ⟨fun hx => ?_, fun ⟨c, hc, hx⟩ => ?_⟩
    · rcases hx with ⟨c, hc, hx⟩ | ⟨_, hx⟩
      · exact ⟨c, (htk c).2 (.inl hc), hx⟩
      · exact ⟨C, (htk C).2 (.inr rfl), hx⟩
    · rcases (htk c).1 hc with h1 | rfl
      · exact .inl ⟨c, h1, hx⟩
      · exact .inr ⟨hw c hCm, hx⟩
  obtain rfl : i = l.length := by omega
  rw [List.take_length] at hXm
  have hXd : ∀ x ∈ X.map pf, DerP (l.map pureC) (· ∈ base.map pf) (· ∈ N.map pf) x := fun x hx => by
    rcases (hXm x).1 hx with h1 | ⟨c, hc, h1⟩
    · exact hFd x h1
    · exact heads_der (hw c hc) (List.mem_map_of_mem hc) hFd h1
  have hcg : ∀ x, DerP (l.map pureC) (· ∈ base.map pf) (· ∈ N.map pf) x → DerP (l.map pureC) (· ∈ base.map pf) (· ∈ base.map pf) x := fun x => DerP.congr (fun _ => id) fun y hy => (hNm y).2 hy
  by_cases hm : most < X.length
  · refine m_run ?_
    (apply TK.ret2; exact rfl; exact rfl; (exact m_val); (exact m_val))
    exact ⟨_, rfl, .inr ⟨rfl, hsG3, X.map pf, hXS, fun x hx => hcg x (hXd x hx), by simpa using hm⟩⟩
  by_cases heq : X.length = F.length
  · refine m_run ?_
    (apply TK.ret2; exact rfl; exact rfl; (exact m_val); (exact m_val))
    refine ⟨_, rfl, .inl ⟨F, FA, Fc, rfl, hF.sub hs3, hsG3, hFS, by omega, fun x => ⟨fun hx => hcg x (hFd x hx), fun hx => ?_⟩⟩⟩
    have hXF : ∀ y ∈ X.map pf, y ∈ F.map pf := fun y hy => Classical.byContradiction fun hno => by
      have := len_sub (L := y :: F.map pf) (M := X.map pf) (List.nodup_cons.2 ⟨hno, hFS.nodup⟩) fun z hz => by
        rcases List.mem_cons.1 hz with rfl | hz
        · exact hy
        · exact (hXm z).2 (.inl hz)
      simp at this; omega
    exact der_closed hw hFb (fun c hc y hy => hXF y ((hXm y).2 (.inr ⟨c, hc, hy⟩))) (DerP.congr (N' := (· ∈ N.map pf)) (fun _ => id) (fun y hy => (hNm y).1 hy) hx)
  have hlen : F.length ≤ X.length := by
    have := Srt.len hFS (M := X.map pf) fun x hx => (hXm x).2 (.inl hx)
    simpa using this
  refine m_run ?_
  exact IH (K - X.length) _ _ (by omega) ⟨X, XA, Xc, by omega, hX, hXS, hXd, fun x hx => (hXm x).2 (.inl (hFb x hx)), hs2.trans hs3, rfl, rfl, rfl, rfl⟩
end Go.Proofs.YthbcfamfaicneaaGreat.E
