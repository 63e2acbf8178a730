/- The document's Ground, Match, Compare; the same numbers: walked. -/
import Derived.Test.YtokggdgagfmacaaD6
namespace Go.Proofs.Ytokggdgagfmacaa.E
open Go Go.RowKit Go.Proofs
attribute [local irreducible] TK TL TQ TA TB Fn PV
set_option maxRecDepth 100000 in
theorem rground_t (a : Atm) (Γ : List HP) (h : a.ok Γ) (hn : a.l.length ≤ 1000000) : FnV Try.prog 45 [.agg a.cells.toArray] Γ fun v Γ' => v = .bool (groundA a.l) ∧ Γ' = Γ := by
  refine Fn.enter Try.func45 rfl rfl rfl fun E => ?_
  obtain ⟨p, A, c, l⟩ := a
  have hs : has Γ (srcAt 2 A l.length (tmsC l)) := h.1
  replace hn : l.length ≤ 1000000 := hn
  refine m_run ?_
  (apply TL.box; exact rfl; exact rfl; (exact m_lst))
  intro b1
  refine m_run ?_
  refine TK.imp (Δ := row b1 [.int .u32 (p : Int), .slice A l.length c] 42 :: Γ) (fun _ h => h) ?_
  apply TK.iter (fun j ρ' Γ' => ∃ (i : Nat), i + j = l.length ∧ (∀ k x, k < i → l[k]? = some x → x.v = false) ∧ lk ρ' 1 = .pointer (some ⟨b1, 0, none⟩) ∧ lk ρ' 3 = .int .i64 (i : Int) ∧ Γ' = row b1 [.int .u32 (p : Int), .slice A l.length c] 42 :: Γ) l.length
  · exact ⟨0, Nat.zero_add _, fun k x h => absurd h (Nat.not_lt_zero k), rfl, rfl, rfl⟩
  rintro j IH ρ' _ ⟨i, hij, hno, e1, e3, rfl⟩
  refine TK.know2 e1 e3 ?_
  by_cases hi : i < l.length
  · obtain ⟨x, hx⟩ : ∃ x, l[i]? = some x := ⟨l[i], List.getElem?_eq_getElem hi⟩
    refine TK.mem fun m0 hm0 => ?_
    obtain ⟨b, o, rfl⟩ := src_some (has_tls hs m0 hm0) (by rw [tmsC_len]; omega)
    clear hm0 m0
    have hel : has Γ (fun z => cellAt z b (o + i * 2 + 0) (.bool x.v)) := has_cell (has_el (f := tmC) (fun _ => rfl) (by decide) hs hx) 0 rfl
    cases hv : x.v with
    | true =>
      rw [hv] at hel
      refine m_run ?_
      (apply TK.retS1; exact rfl; exact rfl; (exact m_val))
      · refine ⟨_, rfl, congrArg Value.bool ?_, rfl⟩
        unfold groundA
        rw [List.any_eq_true.2 ⟨x, List.mem_of_getElem? hx, hv⟩]; rfl
      · (repeat (first | exact List.Sublist.refl _ | apply List.Sublist.cons_cons | apply List.Sublist.cons))
    | false =>
      rw [hv] at hel
      refine m_run ?_
      refine IH (j - 1) _ _ (by omega) ⟨i + 1, by omega, fun k y hk hy => ?_, rfl, congrArg (Value.int .i64) (i64_succ i (by omega)), rfl⟩
      rcases Nat.lt_or_ge k i with h1 | h1
      · exact hno k y h1 hy
      · rw [show k = i by omega, hx] at hy
        rw [← Option.some.inj hy]; exact hv
  obtain rfl : i = l.length := by omega
  refine m_run ?_
  (apply TK.retS1; exact rfl; exact rfl; (exact m_val))
  · refine ⟨_, rfl, congrArg Value.bool ?_, rfl⟩
    unfold groundA
    rw [List.any_eq_false.2 fun x hx => by
      obtain ⟨k, hk, hke⟩ := List.getElem_of_mem hx
      rw [hno k x hk (by rw [List.getElem?_eq_getElem hk, hke])]; simp]
    rfl
  · (repeat (first | exact List.Sublist.refl _ | apply List.Sublist.cons_cons | apply List.Sublist.cons))
set_option maxRecDepth 100000 in
theorem numbers_t (A B : Option Addr) (c d : Nat) (l m : List Nat) (Γ : List HP) (hs : has Γ (srcAt 1 A l.length (u32s l))) (ht : has Γ (srcAt 1 B m.length (u32s m))) (hn : l.length ≤ 1000000) :
    FnV Try.prog 46 [.slice A l.length c, .slice B m.length d] Γ fun v Γ' => v = .bool (decide (l = m)) ∧ Γ' = Γ := by
  refine Fn.enter Try.func46 rfl rfl rfl fun E => ?_
  by_cases hlm : l.length = m.length
  · refine m_run ?_
    apply TK.iter (fun j ρ' Γ' => ∃ (i : Nat), i + j = l.length ∧ l.take i = m.take i ∧ lk ρ' 0 = .slice A l.length c ∧ lk ρ' 1 = .slice B m.length d ∧ lk ρ' 5 = .int .i64 (i : Int) ∧ Γ' = Γ) l.length
    · exact ⟨0, Nat.zero_add _, rfl, rfl, rfl, rfl, rfl⟩
    rintro j IH ρ' Γ ⟨i, hij, htk, e0, e1, e5, rfl⟩
    refine TK.know3 e0 e1 e5 ?_
    by_cases hi : i < l.length
    · obtain ⟨x, hx⟩ : ∃ x, l[i]? = some x := ⟨l[i], List.getElem?_eq_getElem hi⟩
      obtain ⟨y, hy⟩ : ∃ y, m[i]? = some y := ⟨m[i], List.getElem?_eq_getElem (by omega)⟩
      have hst := take_step htk hx hy
      refine TK.mem fun m0 hm0 => ?_
      obtain ⟨b, o, rfl⟩ := src_some (hs m0 hm0) (by rw [u32s_len]; omega)
      obtain ⟨b', o', rfl⟩ := src_some (ht m0 hm0) (by rw [u32s_len]; omega)
      clear hm0 m0
      have hx1 := has_u32 hs hx
      have hy1 := has_u32 ht hy
      refine m_run ?_
      refine TK.drawS mixed rfl ?_
      refine m_take (At.mk : At 0) ?_; refine m_take (At.mk : At 1) ?_; refine m_take (At.mk : At 2) ?_; refine m_take (At.mk : At 3) ?_; refine m_take (At.mk : At 4) ?_; refine m_take (At.mk : At 5) ?_; refine m_take (At.mk : At 6) ?_; refine m_take (At.mk : At 7) ?_; refine m_take (At.mk : At 8) ?_
      by_cases hxy : x = y
      · refine TA.isF 25 rfl (bne_eq_false_iff_eq.2 (by omega)) ?_
        refine TA.done (by kernel_rfl) ?_
        have := hst.1 hxy
        refine m_run ?_
        exact IH (j - 1) _ _ (by omega) ⟨i + 1, by omega, this, rfl, rfl, congrArg (Value.int .i64) (i64_succ i (by omega)), rfl⟩
      · refine TA.isT 25 rfl (bne_iff_ne.2 (by omega)) ?_
        refine TA.done (by kernel_rfl) ?_
        refine m_run ?_
        (apply TK.ret1; exact rfl; exact rfl; (exact m_val))
        exact ⟨_, rfl, congrArg Value.bool (decide_eq_false (hst.2 hxy)).symm, rfl⟩
    obtain rfl : i = l.length := by omega
    have he : l = m := by
      rw [List.take_length, hlm, List.take_length] at htk
      exact htk
    refine m_run ?_
    (apply TK.ret1; exact rfl; exact rfl; (exact m_val))
    exact ⟨_, rfl, congrArg Value.bool (decide_eq_true he).symm, rfl⟩
  · refine m_run ?_
    (apply TK.ret1; exact rfl; exact rfl; (exact m_val))
    exact ⟨_, rfl, congrArg Value.bool (decide_eq_false fun e => hlm (by rw [e])).symm, rfl⟩
set_option maxRecDepth 100000 in
set_option maxHeartbeats 2000000 in
theorem rcompare_t (f g : Fct) (Γ : List HP) (hf : f.ok Γ) (hg : g.ok Γ) (hn : f.l.length ≤ 1000000) :
    FnV Try.prog 51 [.agg f.cells.toArray, .agg g.cells.toArray] Γ fun v Γ' => v = .int .i64 (cmpF f g) ∧ Γ' = Γ := by
  refine Fn.enter Try.func51 rfl rfl rfl fun E => ?_
  obtain ⟨p, A, c, l⟩ := f
  obtain ⟨q, B, d, m⟩ := g
  have hs : has Γ (srcAt 1 A l.length (u32s l)) := hf.1
  have ht : has Γ (srcAt 1 B m.length (u32s m)) := hg.1
  replace hn : l.length ≤ 1000000 := hn
  refine m_run ?_
  (apply TL.box; exact rfl; exact rfl; (exact m_lst))
  intro b2
  refine m_run ?_
  (apply TL.box; exact rfl; exact rfl; (exact m_lst))
  intro b3
  refine TL.imp (Δ := row b3 [.int .u32 (q : Int), .slice B m.length d] 26 :: row b2 [.int .u32 (p : Int), .slice A l.length c] 26 :: Γ) (fun _ h => h) ?_
  by_cases h1 : p < q
  · have hr : cmpF ⟨p, A, c, l⟩ ⟨q, B, d, m⟩ = -1 := by
      unfold cmpF cmpI
      rw [if_pos (by show (p : Int) < (q : Int); omega)]; rfl
    refine m_run ?_
    (apply TK.retS1; exact rfl; exact rfl; (exact m_val))
    · exact ⟨_, rfl, congrArg (Value.int .i64) hr.symm, rfl⟩
    · (repeat (first | exact List.Sublist.refl _ | apply List.Sublist.cons_cons | apply List.Sublist.cons))
  by_cases h2 : q < p
  · have hr : cmpF ⟨p, A, c, l⟩ ⟨q, B, d, m⟩ = 1 := by
      unfold cmpF cmpI
      rw [if_neg (by show ¬ (p : Int) < (q : Int); omega), if_pos (by show (q : Int) < (p : Int); omega)]; rfl
    refine m_run ?_
    (apply TK.retS1; exact rfl; exact rfl; (exact m_val))
    · exact ⟨_, rfl, congrArg (Value.int .i64) hr.symm, rfl⟩
    · (repeat (first | exact List.Sublist.refl _ | apply List.Sublist.cons_cons | apply List.Sublist.cons))
  obtain rfl : p = q := by omega
  have hp0 : cmpI (p : Int) (p : Int) = 0 := cmpI_zero.2 rfl
  by_cases h3 : l.length < m.length
  · have hr : cmpF ⟨p, A, c, l⟩ ⟨p, B, d, m⟩ = -1 := by
      unfold cmpF
      simp only [hp0]
      unfold cmpI
      rw [if_pos (show (l.length : Int) < (m.length : Int) by omega)]; rfl
    refine m_run ?_
    (apply TK.retS1; exact rfl; exact rfl; (exact m_val))
    · exact ⟨_, rfl, congrArg (Value.int .i64) hr.symm, rfl⟩
    · (repeat (first | exact List.Sublist.refl _ | apply List.Sublist.cons_cons | apply List.Sublist.cons))
  by_cases h4 : m.length < l.length
  · have hr : cmpF ⟨p, A, c, l⟩ ⟨p, B, d, m⟩ = 1 := by
      unfold cmpF
      simp only [hp0]
      unfold cmpI
      rw [if_neg (show ¬ (l.length : Int) < (m.length : Int) by omega), if_pos (show (m.length : Int) < (l.length : Int) by omega)]; rfl
    refine m_run ?_
    (apply TK.retS1; exact rfl; exact rfl; (exact m_val))
    · exact ⟨_, rfl, congrArg (Value.int .i64) hr.symm, rfl⟩
    · (repeat (first | exact List.Sublist.refl _ | apply List.Sublist.cons_cons | apply List.Sublist.cons))
  have hlm : l.length = m.length := by omega
  have hr : cmpF ⟨p, A, c, l⟩ ⟨p, B, d, m⟩ = cmpLs l m := by
    unfold cmpF
    simp only [hp0, hlm, cmpI_zero.2 (rfl : (m.length : Int) = m.length)]
    rfl
  rw [hr]
  clear hr
  refine m_run ?_
  apply TK.iter (fun j ρ' Γ' => ∃ (i : Nat), i + j = l.length ∧ cmpLs l m = cmpLs (l.drop i) (m.drop i) ∧ lk ρ' 2 = .pointer (some ⟨b2, 0, none⟩) ∧ lk ρ' 3 = .pointer (some ⟨b3, 0, none⟩) ∧ lk ρ' 5 = .int .i64 (i : Int) ∧ Γ' = row b3 [.int .u32 (p : Int), .slice B m.length d] 26 :: row b2 [.int .u32 (p : Int), .slice A l.length c] 26 :: Γ) l.length
  · exact ⟨0, Nat.zero_add _, rfl, rfl, rfl, rfl, rfl⟩
  rintro j IH ρ' _ ⟨i, hij, hc, e2, e3, e5, rfl⟩
  refine TK.know3 e2 e3 e5 ?_
  by_cases hi : i < l.length
  · obtain ⟨x, hx⟩ : ∃ x, l[i]? = some x := ⟨l[i], List.getElem?_eq_getElem hi⟩
    obtain ⟨y, hy⟩ : ∃ y, m[i]? = some y := ⟨m[i], List.getElem?_eq_getElem (by omega)⟩
    have hdl : l.drop i = x :: l.drop (i + 1) := by rw [List.drop_eq_getElem_cons hi, (List.getElem?_eq_some_iff.1 hx).2]
    have hdm : m.drop i = y :: m.drop (i + 1) := by rw [List.drop_eq_getElem_cons (show i < m.length by omega), (List.getElem?_eq_some_iff.1 hy).2]
    rw [hdl, hdm] at hc
    refine TK.mem fun m0 hm0 => ?_
    obtain ⟨b, o, rfl⟩ := src_some (has_tls (has_tls hs) m0 hm0) (by rw [u32s_len]; omega)
    obtain ⟨b', o', rfl⟩ := src_some (has_tls (has_tls ht) m0 hm0) (by rw [u32s_len]; omega)
    clear hm0 m0
    have hx1 := has_u32 hs hx
    have hy1 := has_u32 ht hy
    refine m_run ?_
    refine TK.drawS mixed rfl ?_
    refine m_take (At.mk : At 0) ?_; refine m_take (At.mk : At 1) ?_; refine m_take (At.mk : At 2) ?_; refine m_take (At.mk : At 3) ?_; refine m_take (At.mk : At 4) ?_; refine m_take (At.mk : At 5) ?_; refine m_take (At.mk : At 6) ?_; refine m_take (At.mk : At 7) ?_; refine m_take (At.mk : At 8) ?_; refine m_take (At.mk : At 9) ?_; refine m_take (At.mk : At 10) ?_
    by_cases hlt : x < y
    · have hv : cmpLs l m = -1 := by
        rw [hc]
        have : cmpI (x : Int) (y : Int) = -1 := by unfold cmpI; rw [if_pos (by omega)]
        simp [cmpLs, this]
      refine TA.isT 58 rfl (decide_eq_true (by omega)) ?_
      refine TA.done (by kernel_rfl) ?_
      rw [hv]
      refine m_run ?_
      (apply TK.retS1; exact rfl; exact rfl; (exact m_val))
      · exact ⟨_, rfl, rfl, rfl⟩
      · (repeat (first | exact List.Sublist.refl _ | apply List.Sublist.cons_cons | apply List.Sublist.cons))
    refine TA.isF 58 rfl (decide_eq_false (by omega)) ?_
    refine TA.done (by kernel_rfl) ?_
    refine m_run ?_
    refine TK.drawS mixed rfl ?_
    refine m_take (At.mk : At 0) ?_; refine m_take (At.mk : At 1) ?_; refine m_take (At.mk : At 2) ?_; refine m_take (At.mk : At 3) ?_; refine m_take (At.mk : At 4) ?_; refine m_take (At.mk : At 5) ?_; refine m_take (At.mk : At 6) ?_; refine m_take (At.mk : At 7) ?_; refine m_take (At.mk : At 8) ?_; refine m_take (At.mk : At 9) ?_; refine m_take (At.mk : At 10) ?_
    by_cases hgt : y < x
    · have hv : cmpLs l m = 1 := by
        rw [hc]
        have : cmpI (x : Int) (y : Int) = 1 := by unfold cmpI; rw [if_neg (by omega), if_pos (by omega)]
        simp [cmpLs, this]
      refine TA.isT 69 rfl (decide_eq_true (by omega)) ?_
      refine TA.done (by kernel_rfl) ?_
      rw [hv]
      refine m_run ?_
      (apply TK.retS1; exact rfl; exact rfl; (exact m_val))
      · exact ⟨_, rfl, rfl, rfl⟩
      · (repeat (first | exact List.Sublist.refl _ | apply List.Sublist.cons_cons | apply List.Sublist.cons))
    refine TA.isF 69 rfl (decide_eq_false (by omega)) ?_
    refine TA.done (by kernel_rfl) ?_
    have hv : cmpLs l m = cmpLs (l.drop (i + 1)) (m.drop (i + 1)) := by
      rw [hc]
      have : cmpI (x : Int) (y : Int) = 0 := cmpI_zero.2 (by omega)
      simp [cmpLs, this]
    refine m_run ?_
    exact IH (j - 1) _ _ (by omega) ⟨i + 1, by omega, hv, rfl, rfl, congrArg (Value.int .i64) (i64_succ i (by omega)), rfl⟩
  have hv : cmpLs l m = 0 := by
    rw [hc, List.drop_of_length_le (by omega), List.drop_of_length_le (by omega)]
    rfl
  rw [hv]
  refine m_run ?_
  (apply TK.retS1; exact rfl; exact rfl; (exact m_val))
  · exact ⟨_, rfl, rfl, rfl⟩
  · (repeat (first | exact List.Sublist.refl _ | apply List.Sublist.cons_cons | apply List.Sublist.cons))
set_option maxRecDepth 100000 in
set_option maxHeartbeats 4000000 in
theorem rmatch_t (a : Atm) (f : Fct) (Γ : List HP) (ha : a.ok Γ) (hf : f.ok Γ) (hn : a.l.length ≤ 1000000) :
    FnV Try.prog 49 [.agg a.cells.toArray, .agg f.cells.toArray] Γ fun v Γ' => v = .bool (matA a f) ∧ Γ' = Γ := by
  refine Fn.enter Try.func49 rfl rfl rfl fun E => ?_
  obtain ⟨p, A, c, l⟩ := a
  obtain ⟨q, B, d, m⟩ := f
  have hs : has Γ (srcAt 2 A l.length (tmsC l)) := ha.1
  have ht : has Γ (srcAt 1 B m.length (u32s m)) := hf.1
  replace hn : l.length ≤ 1000000 := hn
  refine m_run ?_
  (apply TL.box; exact rfl; exact rfl; (exact m_lst))
  intro b2
  refine m_run ?_
  (apply TL.box; exact rfl; exact rfl; (exact m_lst))
  intro b3
  refine TL.imp (Δ := row b3 [.int .u32 (q : Int), .slice B m.length d] 26 :: row b2 [.int .u32 (p : Int), .slice A l.length c] 42 :: Γ) (fun _ h => h) ?_
  by_cases hpq : p = q
  · by_cases hlm : l.length = m.length
    · refine m_run ?_
      apply TK.iter (fun j ρ' Γ' => ∃ (i : Nat), i + j = l.length ∧ (∀ p, p < i → matOk l m p = true) ∧ lk ρ' 2 = .pointer (some ⟨b2, 0, none⟩) ∧ lk ρ' 3 = .pointer (some ⟨b3, 0, none⟩) ∧ lk ρ' 5 = .int .i64 (i : Int) ∧ Γ' = row b3 [.int .u32 (q : Int), .slice B m.length d] 26 :: row b2 [.int .u32 (p : Int), .slice A l.length c] 42 :: Γ) l.length
      · exact ⟨0, Nat.zero_add _, fun p h => absurd h (Nat.not_lt_zero p), rfl, rfl, rfl, rfl⟩
      rintro j IH ρ' _ ⟨i, hij, hok, e2, e3, e5, rfl⟩
      refine TK.know3 e2 e3 e5 ?_
      by_cases hi : i < l.length
      · obtain ⟨x, hx⟩ : ∃ x, l[i]? = some x := ⟨l[i], List.getElem?_eq_getElem hi⟩
        obtain ⟨v, hv⟩ : ∃ v, m[i]? = some v := ⟨m[i], List.getElem?_eq_getElem (by omega)⟩
        refine TK.mem fun m0 hm0 => ?_
        obtain ⟨b, o, rfl⟩ := src_some (has_tls (has_tls hs) m0 hm0) (by rw [tmsC_len]; omega)
        obtain ⟨b', o', rfl⟩ := src_some (has_tls (has_tls ht) m0 hm0) (by rw [u32s_len]; omega)
        clear hm0 m0
        have hel := has_el (f := tmC) (fun _ => rfl) (by decide) hs hx
        have hel0 : has Γ (fun z => cellAt z b (o + i * 2 + 0) (.bool x.v)) := has_cell hel 0 rfl
        have hel1 : has Γ (fun z => cellAt z b (o + i * 2 + 1) (.int .u32 (x.n : Int))) := has_cell hel 1 rfl
        have hfv := has_u32 ht hv
        have bad : matOk l m i = false → matA ⟨p, some ⟨b, o, none⟩, c, l⟩ ⟨q, some ⟨b', o', none⟩, d, m⟩ = false := fun h => by simp [matA, mat_bad hi h]
        have hval : matOk l m i = (if x.v then (List.range i).all fun k => !decide (l[k]? = some x) || decide (m[k]? = some v) else decide (x.n = v)) := by
          unfold matOk; rw [hx, hv]
        refine m_run ?_
        refine TK.drawS mixed rfl ?_
        refine m_take (At.mk : At 0) ?_; refine m_take (At.mk : At 1) ?_; refine m_take (At.mk : At 2) ?_; refine m_take (At.mk : At 3) ?_; refine m_take (At.mk : At 4) ?_; refine m_take (At.mk : At 5) ?_; refine m_take (At.mk : At 6) ?_
        cases hxv : x.v with
        | false =>
          rw [hxv] at hval hel0
          simp only [Bool.false_eq_true, if_false] at hval
          refine TA.isT 34 rfl rfl ?_
          refine m_take (At.mk : At 7) ?_; refine m_take (At.mk : At 8) ?_; refine m_take (At.mk : At 9) ?_; refine m_take (At.mk : At 10) ?_; refine m_take (At.mk : At 11) ?_; refine m_take (At.mk : At 12) ?_; refine m_take (At.mk : At 13) ?_; refine m_take (At.mk : At 14) ?_; refine m_take (At.mk : At 15) ?_; refine m_take (At.mk : At 16) ?_; refine m_take (At.mk : At 17) ?_; refine m_take (At.mk : At 18) ?_; refine m_take (At.mk : At 19) ?_
          by_cases hnv : x.n = v
          · rw [decide_eq_true hnv] at hval
            refine TA.isF 47 rfl (bne_eq_false_iff_eq.2 (by omega)) ?_
            refine m_take (At.mk : At 20) ?_
            refine TA.done (by kernel_rfl) ?_
            refine m_run ?_
            apply TK.iter (fun r ρ' Γ' => ∃ (k : Nat), k + r = i ∧ lk ρ' 2 = .pointer (some ⟨b2, 0, none⟩) ∧ lk ρ' 3 = .pointer (some ⟨b3, 0, none⟩) ∧ lk ρ' 5 = .int .i64 (i : Int) ∧ lk ρ' 6 = .int .i64 (k : Int) ∧ Γ' = row b3 [.int .u32 (q : Int), .slice (some ⟨b', o', none⟩) m.length d] 26 :: row b2 [.int .u32 (p : Int), .slice (some ⟨b, o, none⟩) l.length c] 42 :: Γ) i
            · exact ⟨0, Nat.zero_add _, rfl, rfl, rfl, rfl, rfl⟩
            rintro r IH2 ρ2 _ ⟨k, hkr, f2, f3, f5, f6, rfl⟩
            refine TK.know4 f2 f3 f5 f6 ?_
            by_cases hk : k < i
            · refine m_run ?_
              refine TK.drawS mixed rfl ?_
              refine m_take (At.mk : At 0) ?_; refine m_take (At.mk : At 1) ?_; refine m_take (At.mk : At 2) ?_; refine m_take (At.mk : At 3) ?_; refine m_take (At.mk : At 4) ?_; refine m_take (At.mk : At 5) ?_
              refine TA.isF 59 rfl rfl ?_
              refine m_take (At.mk : At 6) ?_; refine m_take (At.mk : At 7) ?_; refine m_take (At.mk : At 8) ?_; refine m_take (At.mk : At 9) ?_; refine m_take (At.mk : At 10) ?_; refine m_take (At.mk : At 11) ?_; refine m_take (At.mk : At 12) ?_; refine m_take (At.mk : At 13) ?_; refine m_take (At.mk : At 14) ?_; refine m_take (At.mk : At 15) ?_; refine m_take (At.mk : At 16) ?_; refine m_take (At.mk : At 17) ?_; refine m_take (At.mk : At 18) ?_; refine m_take (At.mk : At 19) ?_; refine m_take (At.mk : At 20) ?_; refine m_take (At.mk : At 21) ?_; refine m_take (At.mk : At 22) ?_; refine m_take (At.mk : At 23) ?_; refine m_take (At.mk : At 24) ?_; refine m_take (At.mk : At 25) ?_; refine m_take (At.mk : At 26) ?_; refine m_take (At.mk : At 27) ?_; refine m_take (At.mk : At 28) ?_; refine m_take (At.mk : At 29) ?_; refine m_take (At.mk : At 30) ?_; refine m_take (At.mk : At 31) ?_
              refine TA.done (by kernel_rfl) ?_
              refine m_run ?_
              exact IH2 (r - 1) _ _ (by omega) ⟨k + 1, by omega, rfl, rfl, rfl, congrArg (Value.int .i64) (i64_succ k (by omega)), rfl⟩
            · refine m_run ?_
              refine IH (j - 1) _ _ (by omega) ⟨i + 1, by omega, fun k hk => ?_, rfl, rfl, congrArg (Value.int .i64) (i64_succ i (by omega)), rfl⟩
              rcases Nat.lt_or_ge k i with h1 | h1
              · exact hok k h1
              · rw [show k = i by omega]; exact hval
          · rw [decide_eq_false hnv] at hval
            refine TA.isT 47 rfl (bne_iff_ne.2 (by omega)) ?_
            refine m_take (At.mk : At 20) ?_
            refine TA.done (by kernel_rfl) ?_
            have := bad hval
            refine m_run ?_
            (apply TK.retS1; exact rfl; exact rfl; (exact m_val))
            · exact ⟨_, rfl, congrArg Value.bool this.symm, rfl⟩
            · (repeat (first | exact List.Sublist.refl _ | apply List.Sublist.cons_cons | apply List.Sublist.cons))
        | true =>
          rw [hxv] at hval hel0
          simp only [if_true] at hval
          refine TA.isF 34 rfl rfl ?_
          refine m_take (At.mk : At 7) ?_; refine m_take (At.mk : At 8) ?_; refine m_take (At.mk : At 9) ?_; refine m_take (At.mk : At 10) ?_; refine m_take (At.mk : At 11) ?_; refine m_take (At.mk : At 12) ?_; refine m_take (At.mk : At 13) ?_; refine m_take (At.mk : At 14) ?_; refine m_take (At.mk : At 15) ?_; refine m_take (At.mk : At 16) ?_; refine m_take (At.mk : At 17) ?_; refine m_take (At.mk : At 18) ?_; refine m_take (At.mk : At 19) ?_; refine m_take (At.mk : At 20) ?_
          refine TA.done (by kernel_rfl) ?_
          refine m_run ?_
          apply TK.iter (fun r ρ' Γ' => ∃ (k : Nat), k + r = i ∧ (∀ k', k' < k → l[k']? = some x → m[k']? = some v) ∧ lk ρ' 2 = .pointer (some ⟨b2, 0, none⟩) ∧ lk ρ' 3 = .pointer (some ⟨b3, 0, none⟩) ∧ lk ρ' 5 = .int .i64 (i : Int) ∧ lk ρ' 6 = .int .i64 (k : Int) ∧ Γ' = row b3 [.int .u32 (q : Int), .slice (some ⟨b', o', none⟩) m.length d] 26 :: row b2 [.int .u32 (p : Int), .slice (some ⟨b, o, none⟩) l.length c] 42 :: Γ) i
          · exact ⟨0, Nat.zero_add _, fun k h => absurd h (Nat.not_lt_zero k), rfl, rfl, rfl, rfl, rfl⟩
          rintro r IH2 ρ2 _ ⟨k, hkr, hall, f2, f3, f5, f6, rfl⟩
          refine TK.know4 f2 f3 f5 f6 ?_
          by_cases hk : k < i
          · obtain ⟨y, hy⟩ : ∃ y, l[k]? = some y := ⟨l[k], List.getElem?_eq_getElem (by omega)⟩
            obtain ⟨w, hw⟩ : ∃ w, m[k]? = some w := ⟨m[k], List.getElem?_eq_getElem (by omega)⟩
            have helk := has_el (f := tmC) (fun _ => rfl) (by decide) hs hy
            have hfw := has_u32 ht hw
            have hnext : (y = x → w = v) → ∀ k', k' < k + 1 → l[k']? = some x → m[k']? = some v := fun h k' hk' he => by
              rcases Nat.lt_or_ge k' k with h1 | h1
              · exact hall k' h1 he
              · rw [show k' = k by omega] at he ⊢
                rw [hy] at he
                rw [hw, h (Option.some.inj he)]
            refine m_run ?_
            refine TK.drawS mixed rfl ?_
            refine m_take (At.mk : At 0) ?_; refine m_take (At.mk : At 1) ?_; refine m_take (At.mk : At 2) ?_; refine m_take (At.mk : At 3) ?_; refine m_take (At.mk : At 4) ?_; refine m_take (At.mk : At 5) ?_
            refine TA.isT 59 rfl rfl ?_
            refine m_take (At.mk : At 6) ?_; refine m_take (At.mk : At 7) ?_; refine m_take (At.mk : At 8) ?_; refine m_take (At.mk : At 9) ?_; refine m_take (At.mk : At 10) ?_; refine m_take (At.mk : At 11) ?_; refine m_take (At.mk : At 12) ?_; refine m_take (At.mk : At 13) ?_; refine m_take (At.mk : At 14) ?_; refine m_take (At.mk : At 15) ?_; refine m_take (At.mk : At 16) ?_
            (apply TA.takeY (At.mk : At 17); exact rfl; exact rfl; exact rfl; exact rfl; exact rfl; kernel_rfl; ((focus ((repeat (first | assumption | exact Ent.refl _ | apply Ent.tail)); done))); (apply PV.eqSt (xs := tmC y) (ys := tmC x) tabs; exact rfl; exact rfl; exact rfl; exact rfl; kernel_rfl; kernel_rfl; exact congrArg some (tm_eq y x)))
            by_cases hyx : y = x
            · refine TA.isT 71 rfl (decide_eq_true hyx) ?_
              refine m_take (At.mk : At 18) ?_; refine m_take (At.mk : At 19) ?_; refine m_take (At.mk : At 20) ?_; refine m_take (At.mk : At 21) ?_; refine m_take (At.mk : At 22) ?_; refine m_take (At.mk : At 23) ?_; refine m_take (At.mk : At 24) ?_; refine m_take (At.mk : At 25) ?_; refine m_take (At.mk : At 26) ?_; refine m_take (At.mk : At 27) ?_; refine m_take (At.mk : At 28) ?_; refine m_take (At.mk : At 29) ?_; refine m_take (At.mk : At 30) ?_
              by_cases hwv : w = v
              · refine TA.isF 84 rfl (bne_eq_false_iff_eq.2 (by omega)) ?_
                refine m_take (At.mk : At 31) ?_
                refine TA.done (by kernel_rfl) ?_
                refine m_run ?_
                exact IH2 (r - 1) _ _ (by omega) ⟨k + 1, by omega, hnext fun _ => hwv, rfl, rfl, rfl, congrArg (Value.int .i64) (i64_succ k (by omega)), rfl⟩
              · refine TA.isT 84 rfl (bne_iff_ne.2 (by omega)) ?_
                refine m_take (At.mk : At 31) ?_
                refine TA.done (by kernel_rfl) ?_
                have := bad (by
                  rw [hval]
                  refine List.all_eq_false.2 ⟨k, List.mem_range.2 hk, ?_⟩
                  rw [hy, hw, hyx]; simpa using hwv)
                refine m_run ?_
                (apply TK.retS1; exact rfl; exact rfl; (exact m_val))
                · exact ⟨_, rfl, congrArg Value.bool this.symm, rfl⟩
                · (repeat (first | exact List.Sublist.refl _ | apply List.Sublist.cons_cons | apply List.Sublist.cons))
            · refine TA.isF 71 rfl (decide_eq_false hyx) ?_
              refine m_take (At.mk : At 18) ?_; refine m_take (At.mk : At 19) ?_; refine m_take (At.mk : At 20) ?_; refine m_take (At.mk : At 21) ?_; refine m_take (At.mk : At 22) ?_; refine m_take (At.mk : At 23) ?_; refine m_take (At.mk : At 24) ?_; refine m_take (At.mk : At 25) ?_; refine m_take (At.mk : At 26) ?_; refine m_take (At.mk : At 27) ?_; refine m_take (At.mk : At 28) ?_; refine m_take (At.mk : At 29) ?_; refine m_take (At.mk : At 30) ?_; refine m_take (At.mk : At 31) ?_
              refine TA.done (by kernel_rfl) ?_
              refine m_run ?_
              exact IH2 (r - 1) _ _ (by omega) ⟨k + 1, by omega, hnext fun h => absurd h hyx, rfl, rfl, rfl, congrArg (Value.int .i64) (i64_succ k (by omega)), rfl⟩
          · obtain rfl : k = i := by omega
            have hgood : matOk l m k = true := by
              rw [hval]
              refine List.all_eq_true.2 fun k' hk' => ?_
              by_cases he : l[k']? = some x
              · rw [hall k' (List.mem_range.1 hk') he]; simp
              · simp [he]
            refine m_run ?_
            refine IH (j - 1) _ _ (by omega) ⟨k + 1, by omega, fun k2 hk2 => ?_, rfl, rfl, congrArg (Value.int .i64) (i64_succ k (by omega)), rfl⟩
            rcases Nat.lt_or_ge k2 k with h1 | h1
            · exact hok k2 h1
            · rw [show k2 = k by omega]; exact hgood
      obtain rfl : i = l.length := by omega
      have hall : matL l m = true := List.all_eq_true.2 fun k hk => hok k (List.mem_range.1 hk)
      refine m_run ?_
      (apply TK.retS1; exact rfl; exact rfl; (exact m_val))
      · exact ⟨_, rfl, congrArg Value.bool (by simp [matA, hpq, hlm, hall]), rfl⟩
      · (repeat (first | exact List.Sublist.refl _ | apply List.Sublist.cons_cons | apply List.Sublist.cons))
    · refine m_run ?_
      (apply TK.retS1; exact rfl; exact rfl; (exact m_val))
      · exact ⟨_, rfl, congrArg Value.bool (by simp [matA, hlm]), rfl⟩
      · (repeat (first | exact List.Sublist.refl _ | apply List.Sublist.cons_cons | apply List.Sublist.cons))
  · refine m_run ?_
    (apply TK.retS1; exact rfl; exact rfl; (exact m_val))
    · exact ⟨_, rfl, congrArg Value.bool (by simp [matA, hpq]), rfl⟩
    · (repeat (first | exact List.Sublist.refl _ | apply List.Sublist.cons_cons | apply List.Sublist.cons))
end Go.Proofs.Ytokggdgagfmacaa.E
