/- Numbers and facts in memory; how terms, atoms, clauses, facts are read; facts compared (from B4 .. E3). -/
import Derived.Test.YtokggdgagfmacaaB3
import Derived.Test.YtokggdgagfmacaaSi
import Derived.Test.YtokggdgagfmacaaSk
import Derived.Test.YtokggdgagfmacaaSn
namespace Go.Proofs.Ytokggdgagfmacaa.E
open Go Go.RowKit Go.Proofs
attribute [local irreducible] TK TL TQ TA Fn PV
def u32s (l : List Nat) : List Value := l.map fun n : Nat => Value.int .u32 (n : Int)
theorem u32s_len (l : List Nat) : (u32s l).length = l.length := List.length_map ..
theorem u32s_one (l : List Nat) : ∀ u ∈ u32s l, u.oneCell' = true := by
  intro u hu
  obtain ⟨n, _, rfl⟩ := List.mem_map.1 hu
  rfl
theorem has_u32 {Γ : List HP} {b o n i x : Nat} {l : List Nat} (h : has Γ (srcAt 1 (some ⟨b, o, none⟩) n (u32s l))) (hi : l[i]? = some x) : has Γ (fun m => cellAt m b (o + i) (.int .u32 (x : Int))) := fun m hm => by
  obtain ⟨_, h2⟩ := h m hm
  have hg : (u32s l)[i]? = some (.int .u32 (x : Int)) := by rw [u32s, List.getElem?_map, hi]; rfl
  rcases h2 with h2 | ⟨b', o', e, h2⟩
  · rw [h2] at hg; simp at hg
  · injection e with e
    injection e with e1 e2 _
    subst e1; subst e2
    exact h2 _ _ hg
abbrev ownU (A : Option Addr) (c : Nat) (l : List Nat) : HP := own 23 1 (.slice A l.length c) l.length (u32s l)
def cmpI (a b : Int) : Int := if a < b then -1 else if b < a then 1 else 0
/-! ### insertion sort -/
theorem own_addr {e sz n c : Nat} {A : Option Addr} {cs : List Value} {Γ : List HP} {m : Mem} (hm : all (own e sz (.slice A n c) n cs :: Γ) m) (h0 : 0 < n) : ∃ b, A = some ⟨b, 0, none⟩ := by
  obtain ⟨m1, m2, _, _, h1, _⟩ := hm
  obtain ⟨_, ⟨_, h, _⟩ | ⟨g, cap, cur, hv, _⟩⟩ := h1
  · omega
  · injection hv with hv _ _
    exact ⟨g, hv⟩
theorem own_cap {e sz n c : Nat} {A : Option Addr} {cs : List Value} {Γ : List HP} {m : Mem} (hm : all (own e sz (.slice A n c) n cs :: Γ) m) : n ≤ c := by
  obtain ⟨m1, m2, _, _, h1, _⟩ := hm
  exact (own_len h1).2
theorem u32s_snoc (l : List Nat) (x : Nat) : u32s l ++ [.int .u32 (x : Int)] = u32s (l ++ [x]) := by simp [u32s]
structure Fct where
  p : Nat
  A : Option Addr
  c : Nat
  l : List Nat
def Fct.cells (f : Fct) : List Value := [.int .u32 (f.p : Int), .slice f.A f.l.length f.c]
def Fct.ok (f : Fct) (Γ : List HP) : Prop := has Γ (srcAt 1 f.A f.l.length (u32s f.l)) ∧ f.l.length ≤ f.c
theorem Fct.ok_tl {f : Fct} {Γ : List HP} {H : HP} (h : f.ok Γ) : f.ok (H :: Γ) := ⟨has_tls h.1, h.2⟩
def cmpLs : List Nat → List Nat → Int
  | [], [] => 0
  | [], _ :: _ => -1
  | _ :: _, [] => 1
  | x :: l, y :: m => if cmpI x y ≠ 0 then cmpI x y else cmpLs l m
def orI (a b c : Int) : Int := if a ≠ 0 then a else if b ≠ 0 then b else c
def cmpF (f g : Fct) : Int := orI (cmpI f.p g.p) (cmpI f.l.length g.l.length) (cmpLs f.l g.l)
theorem cmpI_zero {x y : Int} : cmpI x y = 0 ↔ x = y := by unfold cmpI; split <;> (try split) <;> omega
theorem cmpLs_zero : ∀ {l m : List Nat}, cmpLs l m = 0 ↔ l = m
  | [], [] => by simp [cmpLs]
  | [], _ :: _ => by simp [cmpLs]
  | _ :: _, [] => by simp [cmpLs]
  | x :: l, y :: m => by
    simp only [cmpLs]
    by_cases h0 : cmpI (x : Int) (y : Int) = 0
    · rw [if_neg (by simpa using h0), cmpLs_zero]
      have := cmpI_zero.1 h0
      constructor
      · rintro rfl; rw [show x = y by omega]
      · intro e; injection e
    · rw [if_pos h0]
      have : x ≠ y := fun e => h0 (cmpI_zero.2 (by rw [e]))
      simp [h0, this]
theorem cmpF_zero {f g : Fct} : cmpF f g = 0 ↔ f.p = g.p ∧ f.l = g.l := by
  unfold cmpF orI
  constructor
  · intro h
    split at h
    · rename_i h1; exact absurd h h1
    · rename_i h1
      split at h
      · rename_i h2; exact absurd h h2
      · have := cmpI_zero.1 (by simpa using h1 : cmpI (f.p : Int) (g.p : Int) = 0)
        exact ⟨by omega, cmpLs_zero.1 h⟩
  · rintro ⟨h1, h2⟩
    rw [h1, h2, if_neg (by rw [cmpI_zero.2 rfl]; simp), if_neg (by rw [cmpI_zero.2 rfl]; simp)]
    exact cmpLs_zero.2 rfl
theorem small_of {c : Cl} (h : bigC c = false) : c.small := by
  unfold bigC at h
  simp only [Bool.or_eq_false_iff, decide_eq_false_iff_not] at h
  obtain ⟨⟨h1, h2⟩, h3⟩ := h
  refine ⟨by omega, by omega, fun x hx => ?_⟩
  have := List.any_eq_false.1 h3 x hx
  simp only [decide_eq_true_eq] at this
  omega
/-! ### how they are read -/
def rU32 : Rd Nat := rNat .u32 4294967295
theorem reads_u32 : Reads Try.prog 23 rU32 := reads_nat (tb rfl : TabOk Try.prog 23 _) rfl rfl rfl rfl
def rTm : Rd Tm := ⟨2, tmC, fun t _ => t.n ≤ 4294967295⟩
theorem reads_tm : Reads Try.prog 54 rTm :=
  have ht : TabOk Try.prog 54 _ := tb rfl
  ⟨by rw [ht.cellsOf]; rfl, fun _ => rfl, fun _ _ _ _ h => h, fun enc w fuel cs x h => by
    obtain ⟨v, h1, _⟩ := read_field ht rfl h (R := rBool) 0 _ rfl (reads_bool (tb rfl) rfl rfl)
    obtain ⟨n, h3, h4⟩ := read_field ht rfl h (R := rU32) 1 _ rfl reads_u32
    exact ⟨⟨v, n⟩, cut2 h1 h3 (trod_field ht rfl h).1 rfl, h4⟩⟩
theorem reads_tms : Reads Try.prog 40 (rSl rTm) := reads_sl reads_tm (tb rfl) rfl rfl
def atmAt (a : Atm) (m : Mem) : Prop := a.p ≤ 4294967295 ∧ a.l.length ≤ a.c ∧ srcAt 2 a.A a.l.length (tmsC a.l) m ∧ ∀ t ∈ a.l, t.n ≤ 4294967295
def rAtm : Rd Atm := ⟨2, Atm.cells, atmAt⟩
theorem reads_atm : Reads Try.prog 42 rAtm :=
  have ht : TabOk Try.prog 42 _ := tb rfl
  ⟨by rw [ht.cellsOf]; rfl, fun _ => rfl, fun a x y hxy h => ⟨h.1, h.2.1, up_src _ _ _ _ x y hxy h.2.2.1, h.2.2.2⟩, fun enc w fuel cs x h => by
    obtain ⟨p, h1, h2⟩ := read_field ht rfl h (R := rU32) 0 _ rfl reads_u32
    obtain ⟨s, h3, h4⟩ := read_field ht rfl h (R := rSl rTm) 1 _ rfl reads_tms
    exact ⟨⟨p, s.A, s.c, s.l⟩, cut2 h1 h3 (trod_field ht rfl h).1 rfl, h2, h4.1, h4.2.2.1, h4.2.2.2⟩⟩
def rLt : Rd Lt := ⟨3, Lt.cells, fun x m => atmAt x.a m⟩
theorem reads_lt : Reads Try.prog 86 rLt :=
  have ht : TabOk Try.prog 86 _ := tb rfl
  ⟨by rw [ht.cellsOf]; rfl, fun _ => rfl, fun a x y hxy h => reads_atm.up _ x y hxy h, fun enc w fuel cs x h => by
    obtain ⟨v, h1, _⟩ := read_field ht rfl h (R := rBool) 0 _ rfl (reads_bool (tb rfl) rfl rfl)
    obtain ⟨a, h3, h4⟩ := read_field ht rfl h (R := rAtm) 1 _ rfl reads_atm
    exact ⟨⟨v, a⟩, cut2 h1 h3 (trod_field ht rfl h).1 rfl, h4⟩⟩
theorem reads_lts : Reads Try.prog 43 (rSl rLt) := reads_sl reads_lt (tb rfl) rfl rfl
def clAt (c : Cl) (m : Mem) : Prop := atmAt c.h m ∧ c.l.length ≤ c.c ∧ srcAt 3 c.A c.l.length (ltsC c.l) m ∧ ∀ x ∈ c.l, atmAt x.a m
def rCl : Rd Cl := ⟨3, Cl.cells, clAt⟩
theorem reads_cl : Reads Try.prog 45 rCl :=
  have ht : TabOk Try.prog 45 _ := tb rfl
  ⟨by rw [ht.cellsOf]; rfl, fun _ => rfl, fun a x y hxy h => ⟨reads_atm.up _ x y hxy h.1, h.2.1, up_src _ _ _ _ x y hxy h.2.2.1, fun z hz => reads_atm.up _ x y hxy (h.2.2.2 z hz)⟩, fun enc w fuel cs x h => by
    obtain ⟨a, h1, h2⟩ := read_field ht rfl h (R := rAtm) 0 _ rfl reads_atm
    obtain ⟨s, h3, h4⟩ := read_field ht rfl h (R := rSl rLt) 1 _ rfl reads_lts
    exact ⟨⟨a, s.A, s.c, s.l⟩, cut2 h1 h3 (trod_field ht rfl h).1 rfl, h2, h4.1, h4.2.2.1, h4.2.2.2⟩⟩
theorem atm_exact {a : Atm} {W : World} (h : atmAt a (memOf W)) : a.ok [exact_ W] := ⟨has_exact h.2.2.1, h.2.1⟩
theorem cl_exact {c : Cl} {W : World} (h : clAt c (memOf W)) : c.ok [exact_ W] := ⟨atm_exact h.1, has_exact h.2.2.1, h.2.1, fun x hx => atm_exact (h.2.2.2 x hx)⟩
/-! ### how facts are read -/
theorem u32s_flat (l : List Nat) : l.flatMap rU32.cells = u32s l := by
  induction l with
  | nil => rfl
  | cons x l ih => rw [List.flatMap_cons, ih]; rfl
def fctAt (f : Fct) (m : Mem) : Prop := f.p ≤ 4294967295 ∧ f.l.length ≤ f.c ∧ srcAt 1 f.A f.l.length (u32s f.l) m ∧ ∀ n ∈ f.l, n ≤ 4294967295
def rFct : Rd Fct := ⟨2, Fct.cells, fctAt⟩
theorem reads_u32s : Reads Try.prog 24 (rSl rU32) := reads_sl reads_u32 (tb rfl) rfl rfl
theorem reads_fct : Reads Try.prog 26 rFct :=
  have ht : TabOk Try.prog 26 _ := tb rfl
  ⟨by rw [ht.cellsOf]; rfl, fun _ => rfl, fun a x y hxy h => ⟨h.1, h.2.1, up_src _ _ _ _ x y hxy h.2.2.1, h.2.2.2⟩, fun enc w fuel cs x h => by
    obtain ⟨p, h1, h2⟩ := read_field ht rfl h (R := rU32) 0 _ rfl reads_u32
    obtain ⟨s, h3, h4⟩ := read_field ht rfl h (R := rSl rU32) 1 _ rfl reads_u32s
    exact ⟨⟨p, s.A, s.c, s.l⟩, cut2 h1 h3 (trod_field ht rfl h).1 rfl, h2, h4.1, (by have := h4.2.2.1; rwa [u32s_flat] at this), h4.2.2.2⟩⟩
theorem fct_exact {f : Fct} {W : World} (h : fctAt f (memOf W)) : f.ok [exact_ W] := ⟨has_exact h.2.2.1, h.2.1⟩
set_option maxRecDepth 100000 in
set_option maxHeartbeats 2000000 in
theorem rcompare_t (f g : Fct) (Γ : List HP) (hf : f.ok Γ) (hg : g.ok Γ) (hn : f.l.length ≤ 1000000) :
    FnV Try.prog 51 [.agg f.cells.toArray, .agg g.cells.toArray] Γ fun v Γ' => v = .int .i64 (cmpF f g) ∧ Γ' = Γ := by
  refine Fn.enter Try.func51 rfl rfl rfl fun E => ?_
  obtain ⟨p, A, c, l⟩ := f
  obtain ⟨q, B, d, m⟩ := g
  have hs : has Γ (srcAt 1 A l.length (u32s l)) := hf.1
  have ht : has Γ (srcAt 1 B m.length (u32s m)) := hg.1
  replace hn : l.length ≤ 1000000 := hn
  refine m_run ?_
  (apply TL.box; exact rfl; exact rfl; (exact m_lst))
  intro b2
  refine m_run ?_
  (apply TL.box; exact rfl; exact rfl; (exact m_lst))
  intro b3
  refine TL.imp (Δ := row b3 [.int .u32 (q : Int), .slice B m.length d] 26 :: row b2 [.int .u32 (p : Int), .slice A l.length c] 26 :: Γ) (fun _ h => h) ?_
  by_cases h1 : p < q
  · have hr : cmpF ⟨p, A, c, l⟩ ⟨q, B, d, m⟩ = -1 := by
      unfold cmpF cmpI
      rw [if_pos (by show (p : Int) < (q : Int); omega)]; rfl
    refine m_run ?_
    (apply TK.retS1; exact rfl; exact rfl; (exact m_val))
    · exact ⟨_, rfl, congrArg (Value.int .i64) hr.symm, rfl⟩
    · (repeat (first | exact List.Sublist.refl _ | apply List.Sublist.cons_cons | apply List.Sublist.cons))
  by_cases h2 : q < p
  · have hr : cmpF ⟨p, A, c, l⟩ ⟨q, B, d, m⟩ = 1 := by
      unfold cmpF cmpI
      rw [if_neg (by show ¬ (p : Int) < (q : Int); omega), if_pos (by show (q : Int) < (p : Int); omega)]; rfl
    refine m_run ?_
    (apply TK.retS1; exact rfl; exact rfl; (exact m_val))
    · exact ⟨_, rfl, congrArg (Value.int .i64) hr.symm, rfl⟩
    · (repeat (first | exact List.Sublist.refl _ | apply List.Sublist.cons_cons | apply List.Sublist.cons))
  obtain rfl : p = q := by omega
  have hp0 : cmpI (p : Int) (p : Int) = 0 := cmpI_zero.2 rfl
  by_cases h3 : l.length < m.length
  · have hr : cmpF ⟨p, A, c, l⟩ ⟨p, B, d, m⟩ = -1 := by
      unfold cmpF
      simp only [hp0]
      unfold cmpI
      rw [if_pos (show (l.length : Int) < (m.length : Int) by omega)]; rfl
    refine m_run ?_
    (apply TK.retS1; exact rfl; exact rfl; (exact m_val))
    · exact ⟨_, rfl, congrArg (Value.int .i64) hr.symm, rfl⟩
    · (repeat (first | exact List.Sublist.refl _ | apply List.Sublist.cons_cons | apply List.Sublist.cons))
  by_cases h4 : m.length < l.length
  · have hr : cmpF ⟨p, A, c, l⟩ ⟨p, B, d, m⟩ = 1 := by
      unfold cmpF
      simp only [hp0]
      unfold cmpI
      rw [if_neg (show ¬ (l.length : Int) < (m.length : Int) by omega), if_pos (show (m.length : Int) < (l.length : Int) by omega)]; rfl
    refine m_run ?_
    (apply TK.retS1; exact rfl; exact rfl; (exact m_val))
    · exact ⟨_, rfl, congrArg (Value.int .i64) hr.symm, rfl⟩
    · (repeat (first | exact List.Sublist.refl _ | apply List.Sublist.cons_cons | apply List.Sublist.cons))
  have hlm : l.length = m.length := by omega
  have hr : cmpF ⟨p, A, c, l⟩ ⟨p, B, d, m⟩ = cmpLs l m := by
    unfold cmpF
    simp only [hp0, hlm, cmpI_zero.2 (rfl : (m.length : Int) = m.length)]
    rfl
  rw [hr]
  clear hr
  refine m_run ?_
  apply TK.iter (fun j ρ' Γ' => ∃ (i : Nat), i + j = l.length ∧ cmpLs l m = cmpLs (l.drop i) (m.drop i) ∧ lk ρ' 2 = .pointer (some ⟨b2, 0, none⟩) ∧ lk ρ' 3 = .pointer (some ⟨b3, 0, none⟩) ∧ lk ρ' 5 = .int .i64 (i : Int) ∧ Γ' = row b3 [.int .u32 (p : Int), .slice B m.length d] 26 :: row b2 [.int .u32 (p : Int), .slice A l.length c] 26 :: Γ) l.length
  · exact ⟨0, Nat.zero_add _, rfl, rfl, rfl, rfl, rfl⟩
  rintro j IH ρ' _ ⟨i, hij, hc, e2, e3, e5, rfl⟩
  refine TK.know3 e2 e3 e5 ?_
  by_cases hi : i < l.length
  · obtain ⟨x, hx⟩ : ∃ x, l[i]? = some x := ⟨l[i], List.getElem?_eq_getElem hi⟩
    obtain ⟨y, hy⟩ : ∃ y, m[i]? = some y := ⟨m[i], List.getElem?_eq_getElem (by omega)⟩
    have hdl : l.drop i = x :: l.drop (i + 1) := by rw [List.drop_eq_getElem_cons hi, (List.getElem?_eq_some_iff.1 hx).2]
    have hdm : m.drop i = y :: m.drop (i + 1) := by rw [List.drop_eq_getElem_cons (show i < m.length by omega), (List.getElem?_eq_some_iff.1 hy).2]
    rw [hdl, hdm] at hc
    refine TK.mem fun m0 hm0 => ?_
    obtain ⟨b, o, rfl⟩ := src_some (has_tls (has_tls hs) m0 hm0) (by rw [u32s_len]; omega)
    obtain ⟨b', o', rfl⟩ := src_some (has_tls (has_tls ht) m0 hm0) (by rw [u32s_len]; omega)
    clear hm0 m0
    have hx1 := has_u32 hs hx
    have hy1 := has_u32 ht hy
    refine m_run ?_
    refine TK.drawS mixed rfl ?_
    refine m_take (At.mk : At 0) ?_; refine m_take (At.mk : At 1) ?_; refine m_take (At.mk : At 2) ?_; refine m_take (At.mk : At 3) ?_; refine m_take (At.mk : At 4) ?_; refine m_take (At.mk : At 5) ?_; refine m_take (At.mk : At 6) ?_; refine m_take (At.mk : At 7) ?_; refine m_take (At.mk : At 8) ?_; refine m_take (At.mk : At 9) ?_; refine m_take (At.mk : At 10) ?_
    by_cases hlt : x < y
    · have hv : cmpLs l m = -1 := by
        rw [hc]
        have : cmpI (x : Int) (y : Int) = -1 := by unfold cmpI; rw [if_pos (by omega)]
        simp [cmpLs, this]
      refine TA.isT 58 rfl (decide_eq_true (by omega)) ?_
      refine TA.done (by kernel_rfl) ?_
      rw [hv]
      refine m_run ?_
      (apply TK.retS1; exact rfl; exact rfl; (exact m_val))
      · exact ⟨_, rfl, rfl, rfl⟩
      · (repeat (first | exact List.Sublist.refl _ | apply List.Sublist.cons_cons | apply List.Sublist.cons))
    refine TA.isF 58 rfl (decide_eq_false (by omega)) ?_
    refine TA.done (by kernel_rfl) ?_
    refine m_run ?_
    refine TK.drawS mixed rfl ?_
    refine m_take (At.mk : At 0) ?_; refine m_take (At.mk : At 1) ?_; refine m_take (At.mk : At 2) ?_; refine m_take (At.mk : At 3) ?_; refine m_take (At.mk : At 4) ?_; refine m_take (At.mk : At 5) ?_; refine m_take (At.mk : At 6) ?_; refine m_take (At.mk : At 7) ?_; refine m_take (At.mk : At 8) ?_; refine m_take (At.mk : At 9) ?_; refine m_take (At.mk : At 10) ?_
    by_cases hgt : y < x
    · have hv : cmpLs l m = 1 := by
        rw [hc]
        have : cmpI (x : Int) (y : Int) = 1 := by unfold cmpI; rw [if_neg (by omega), if_pos (by omega)]
        simp [cmpLs, this]
      refine TA.isT 69 rfl (decide_eq_true (by omega)) ?_
      refine TA.done (by kernel_rfl) ?_
      rw [hv]
      refine m_run ?_
      (apply TK.retS1; exact rfl; exact rfl; (exact m_val))
      · exact ⟨_, rfl, rfl, rfl⟩
      · (repeat (first | exact List.Sublist.refl _ | apply List.Sublist.cons_cons | apply List.Sublist.cons))
    refine TA.isF 69 rfl (decide_eq_false (by omega)) ?_
    refine TA.done (by kernel_rfl) ?_
    have hv : cmpLs l m = cmpLs (l.drop (i + 1)) (m.drop (i + 1)) := by
      rw [hc]
      have : cmpI (x : Int) (y : Int) = 0 := cmpI_zero.2 (by omega)
      simp [cmpLs, this]
    refine m_run ?_
    exact IH (j - 1) _ _ (by omega) ⟨i + 1, by omega, hv, rfl, rfl, congrArg (Value.int .i64) (i64_succ i (by omega)), rfl⟩
  have hv : cmpLs l m = 0 := by
    rw [hc, List.drop_of_length_le (by omega), List.drop_of_length_le (by omega)]
    rfl
  rw [hv]
  refine m_run ?_
  (apply TK.retS1; exact rfl; exact rfl; (exact m_val))
  · exact ⟨_, rfl, rfl, rfl⟩
  · (repeat (first | exact List.Sublist.refl _ | apply List.Sublist.cons_cons | apply List.Sublist.cons))
set_option maxRecDepth 100000 in
theorem rsameFact_t (f g : Fct) (Γ : List HP) (hf : f.ok Γ) (hg : g.ok Γ) (hn : f.l.length ≤ 1000000) :
    FnV Try.prog 22 [.agg f.cells.toArray, .agg g.cells.toArray] Γ fun v Γ' => v = .bool (decide (cmpF f g = 0)) ∧ Γ' = Γ := by
  refine Fn.enter Try.func22 rfl rfl rfl fun E => ?_
  refine m_run ?_
  (apply TL.box; exact rfl; exact rfl; (exact m_lst))
  intro b2
  refine m_run ?_
  (apply TL.box; exact rfl; exact rfl; (exact m_lst))
  intro b3
  refine TL.imp (Δ := row b3 g.cells 26 :: row b2 f.cells 26 :: Γ) (fun _ h => h) ?_
  refine m_run ?_
  (apply TL.callV; exact rfl; exact callB_of (by kernel_rfl); exact rfl; exact fun _ h => h)
  exact rcompare_t f g _ (Fct.ok_tl (Fct.ok_tl hf)) (Fct.ok_tl (Fct.ok_tl hg)) hn
  rintro _ _ ⟨rfl, rfl⟩
  refine m_run ?_
  (apply TK.retS1; exact rfl; exact rfl; (exact m_val))
  · exact ⟨_, rfl, congrArg Value.bool (by by_cases h : cmpF f g = 0 <;> simp [h]), rfl⟩
  · (repeat (first | exact List.Sublist.refl _ | apply List.Sublist.cons_cons | apply List.Sublist.cons))
end Go.Proofs.Ytokggdgagfmacaa.E
