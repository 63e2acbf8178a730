/- The document on which clauses are safe, walked (taken from the texts on programs). -/
import Derived.Test.YthbcfamfaicneaaYg
namespace Go.Proofs.Ythbcfamfaicneaa.E
open Go Go.RowKit Go.Proofs
attribute [local irreducible] TK TL TQ TA Fn PV
theorem varsOf_mem {l : List Tm} {v : Nat} : v ∈ varsOf l ↔ (⟨true, v⟩ : Tm) ∈ l := by
  unfold varsOf
  simp only [List.mem_map, List.mem_filter]
  constructor
  · rintro ⟨x, ⟨hx, hv⟩, rfl⟩
    obtain ⟨a, b⟩ := x
    simp only at hv; subst hv; exact hx
  · intro h
    exact ⟨_, ⟨h, rfl⟩, rfl⟩
set_option maxRecDepth 100000 in
set_option maxHeartbeats 1000000 in
theorem in_t (a : Atm) (v : Nat) (Γ : List HP) (h : a.ok Γ) (hn : a.l.length ≤ 1000000) : FnV Try.prog 126 [.agg a.cells.toArray, .int .u32 (v : Int)] Γ fun r Γ' => r = .bool (decide (v ∈ varsOf a.l)) ∧ Γ' = Γ := by
  refine Fn.enter Try.func126 rfl rfl rfl fun E => ?_
  obtain ⟨p, A, c, l⟩ := a
  have hs0 : has Γ (srcAt 2 A l.length (tmsC l)) := h.1
  replace hn : l.length ≤ 1000000 := hn
  refine m_run ?_
  (apply TL.box; exact rfl; exact rfl; (exact m_lst))
  intro b1
  refine m_run ?_
  refine TK.imp (Δ := row b1 [.int .u32 (p : Int), .slice A l.length c] 41 :: Γ) (fun _ h => h) ?_
  apply TK.iter (fun j ρ' Γ' => ∃ i : Nat, i + j = l.length ∧ v ∉ varsOf (l.take i) ∧ lk ρ' 1 = .int .u32 (v : Int) ∧ lk ρ' 2 = .pointer (some ⟨b1, 0, none⟩) ∧ lk ρ' 5 = .int .i64 (i : Int) ∧ Γ' = row b1 [.int .u32 (p : Int), .slice A l.length c] 41 :: Γ) l.length
  · exact ⟨0, Nat.zero_add _, by simp [varsOf], rfl, rfl, rfl, rfl⟩
  rintro j IH ρ' _ ⟨i, hij, hno, e1, e2, e5, rfl⟩
  refine TK.know3 e1 e2 e5 ?_
  by_cases hi : i < l.length
  · obtain ⟨x, hx⟩ : ∃ x, l[i]? = some x := ⟨l[i], List.getElem?_eq_getElem hi⟩
    refine TK.mem fun m0 hm0 => ?_
    obtain ⟨b, o, rfl⟩ := src_some (has_tls hs0 m0 hm0) (by rw [tmsC_len]; omega)
    clear hm0 m0
    have hel := has_el (f := tmC) (fun _ => rfl) (by decide) hs0 hx
    have hv := has_cell hel 0 (v := .bool x.v) rfl
    have hk := has_cell hel 1 (v := .int .u32 (x.n : Int)) rfl
    have hsn := varsOf_snoc (l.take i) x
    rw [show l.take i ++ [x] = l.take (i + 1) by rw [List.take_add_one, hx]; rfl] at hsn
    cases hxv : x.v with
    | false =>
      rw [hxv] at hv hsn
      refine m_run ?_
      exact IH (j - 1) _ _ (by omega) ⟨i + 1, by omega, by rw [hsn]; exact hno, rfl, rfl, congrArg (Value.int .i64) (i64_succ i (by omega)), rfl⟩
    | true =>
      rw [hxv] at hv hsn
      by_cases hxn : x.n = v
      · have hyes : v ∈ varsOf l := varsOf_mem.2 (by
          have := List.mem_of_getElem? hx
          obtain ⟨x1, x2⟩ := x
          simp only at hxv hxn
          subst hxv; subst hxn; exact this)
        refine m_run ?_
        (apply TK.retS1; exact rfl; exact rfl; (exact m_val))
        exact ⟨_, rfl, congrArg Value.bool (decide_eq_true hyes).symm, rfl⟩
        (repeat (first | exact List.Sublist.refl _ | apply List.Sublist.cons_cons | apply List.Sublist.cons))
      · refine m_run ?_
        refine IH (j - 1) _ _ (by omega) ⟨i + 1, by omega, ?_, rfl, rfl, congrArg (Value.int .i64) (i64_succ i (by omega)), rfl⟩
        rw [hsn, if_pos rfl, List.mem_append, not_or]
        exact ⟨hno, by simp; omega⟩
  obtain rfl : i = l.length := by omega
  rw [List.take_length] at hno
  refine m_run ?_
  (apply TK.retS1; exact rfl; exact rfl; (exact m_val))
  exact ⟨_, rfl, congrArg Value.bool (decide_eq_false hno).symm, rfl⟩
  (repeat (first | exact List.Sublist.refl _ | apply List.Sublist.cons_cons | apply List.Sublist.cons))
theorem posV_snoc {l : List Lt} {i : Nat} {x : Lt} (h : l[i]? = some x) : posV (l.take (i + 1)) = if x.no then posV (l.take i) else posV (l.take i) ++ varsOf x.a.l := by
  unfold posV
  rw [litsOf_snoc h]
  cases x.no <;> simp
set_option maxRecDepth 100000 in
set_option maxHeartbeats 4000000 in
theorem rheld_t (c : Cl) (a : Atm) (Γ : List HP) (h : c.ok Γ) (ha : a.ok Γ) (hn : c.small) (hna : a.l.length ≤ 1000000) : FnV Try.prog 118 [.agg c.cells.toArray, .agg a.cells.toArray] Γ fun r Γ' => r = .bool (heldA (posV c.l) a.l) ∧ Γ' = Γ := by
  refine Fn.enter Try.func118 rfl rfl rfl fun E => ?_
  obtain ⟨⟨hp, hA, hc, hl⟩, C, k, L⟩ := c
  obtain ⟨p, A, c, l⟩ := a
  have hs0 : has Γ (srcAt 2 A l.length (tmsC l)) := ha.1
  have hL0 : has Γ (srcAt 3 C L.length (ltsC L)) := h.2.1
  have hb0 : ∀ x ∈ L, x.a.ok Γ := h.2.2.2
  have hn1 : L.length ≤ 1000000 := hn.1
  have hn3 : ∀ x ∈ L, x.a.l.length ≤ 1000000 := hn.2.2
  replace hna : l.length ≤ 1000000 := hna
  refine m_run ?_
  (apply TL.box; exact rfl; exact rfl; (exact m_lst))
  intro b2
  refine m_run ?_
  (apply TL.box; exact rfl; exact rfl; (exact m_lst))
  intro b3
  refine TL.imp (Δ := row b3 [.int .u32 (p : Int), .slice A l.length c] 41 :: row b2 [.int .u32 (hp : Int), .slice hA hl.length hc, .slice C L.length k] 68 :: Γ) (fun _ h => h) ?_
  refine m_run ?_
  apply TK.iter (fun j ρ' Γ' => ∃ i : Nat, i + j = l.length ∧ heldA (posV L) (l.take i) = true ∧ lk ρ' 2 = .pointer (some ⟨b2, 0, none⟩) ∧ lk ρ' 3 = .pointer (some ⟨b3, 0, none⟩) ∧ lk ρ' 5 = .int .i64 (i : Int) ∧ Γ' = row b3 [.int .u32 (p : Int), .slice A l.length c] 41 :: row b2 [.int .u32 (hp : Int), .slice hA hl.length hc, .slice C L.length k] 68 :: Γ) l.length
  · exact ⟨0, Nat.zero_add _, rfl, rfl, rfl, rfl, rfl⟩
  rintro j IH ρ' _ ⟨i, hij, hall, e2, e3, e5, rfl⟩
  refine TK.know3 e2 e3 e5 ?_
  by_cases hi : i < l.length
  · obtain ⟨x, hx⟩ : ∃ x, l[i]? = some x := ⟨l[i], List.getElem?_eq_getElem hi⟩
    refine TK.mem fun m0 hm0 => ?_
    obtain ⟨b, o, rfl⟩ := src_some (has_tls (has_tls hs0) m0 hm0) (by rw [tmsC_len]; omega)
    clear hm0 m0
    have hel := has_el (f := tmC) (fun _ => rfl) (by decide) hs0 hx
    have hv := has_cell hel 0 (v := .bool x.v) rfl
    have hk := has_cell hel 1 (v := .int .u32 (x.n : Int)) rfl
    have hsn := varsOf_snoc (l.take i) x
    rw [show l.take i ++ [x] = l.take (i + 1) by rw [List.take_add_one, hx]; rfl] at hsn
    cases hxv : x.v with
    | false =>
      rw [hxv] at hv hsn
      refine m_run ?_
      exact IH (j - 1) _ _ (by omega) ⟨i + 1, by omega, by unfold heldA; rw [hsn]; exact hall, rfl, rfl, congrArg (Value.int .i64) (i64_succ i (by omega)), rfl⟩
    | true =>
      rw [hxv] at hv hsn
      refine m_run ?_
      apply TK.iter (fun j ρ' Γ' => ∃ q : Nat, q + j = L.length ∧ lk ρ' 2 = .pointer (some ⟨b2, 0, none⟩) ∧ lk ρ' 3 = .pointer (some ⟨b3, 0, none⟩) ∧ lk ρ' 5 = .int .i64 (i : Int) ∧ lk ρ' 6 = .bool (decide (x.n ∈ posV (L.take q))) ∧ lk ρ' 7 = .int .i64 (q : Int) ∧ Γ' = row b3 [.int .u32 (p : Int), .slice (some ⟨b, o, none⟩) l.length c] 41 :: row b2 [.int .u32 (hp : Int), .slice hA hl.length hc, .slice C L.length k] 68 :: Γ) L.length
      · exact ⟨0, Nat.zero_add _, rfl, rfl, rfl, rfl, rfl, rfl⟩
      rintro j2 IH2 ρ2 _ ⟨q, hq, f2, f3, f5, f6, f7, rfl⟩
      by_cases hql : q < L.length
      · obtain ⟨y, hy⟩ : ∃ y, L[q]? = some y := ⟨L[q], List.getElem?_eq_getElem hql⟩
        have hym := List.mem_of_getElem? hy
        refine TK.mem fun m0 hm0 => ?_
        obtain ⟨g, u, rfl⟩ := src_some (has_tls (has_tls hL0) m0 hm0) (by rw [ltsC_len]; omega)
        clear hm0 m0
        obtain ⟨_, hno, hat⟩ := has_lit hL0 hy
        have hps := posV_snoc hy
        cases hB : decide (x.n ∈ posV (L.take q)) with
        | true =>
          rw [hB] at f6
          refine TK.know5 f2 f3 f5 f6 f7 ?_
          have hnext : decide (x.n ∈ posV (L.take (q + 1))) = true := by
            rw [hps]
            have := of_decide_eq_true hB
            split
            · exact hB
            · exact decide_eq_true (List.mem_append_left _ this)
          refine m_run ?_
          refine TK.drawS mixed rfl ?_
          refine m_take (At.mk : At 0) ?_; refine m_take (At.mk : At 1) ?_; refine m_take (At.mk : At 2) ?_; refine m_take (At.mk : At 3) ?_; refine m_take (At.mk : At 4) ?_; refine m_take (At.mk : At 5) ?_; refine m_take (At.mk : At 6) ?_; refine m_take (At.mk : At 7) ?_; refine m_take (At.mk : At 8) ?_; refine m_take (At.mk : At 9) ?_; refine m_take (At.mk : At 10) ?_; refine m_take (At.mk : At 11) ?_; refine m_take (At.mk : At 12) ?_; refine m_take (At.mk : At 13) ?_; refine m_take (At.mk : At 14) ?_; refine m_take (At.mk : At 15) ?_; refine m_take (At.mk : At 16) ?_; refine m_take (At.mk : At 17) ?_; refine m_take (At.mk : At 18) ?_; refine m_take (At.mk : At 19) ?_; refine m_take (At.mk : At 20) ?_; refine m_take (At.mk : At 21) ?_; refine m_take (At.mk : At 22) ?_; refine m_take (At.mk : At 23) ?_; refine m_take (At.mk : At 24) ?_; refine m_take (At.mk : At 25) ?_
          refine TA.done (by kernel_rfl) ?_
          refine m_run ?_
          exact IH2 (j2 - 1) _ _ (by omega) ⟨q + 1, by omega, rfl, rfl, rfl, congrArg Value.bool hnext.symm, congrArg (Value.int .i64) (i64_succ q (by omega)), rfl⟩
        | false =>
          rw [hB] at f6
          refine TK.know5 f2 f3 f5 f6 f7 ?_
          cases hyn : y.no with
          | true =>
            rw [hyn] at hno hps
            have hnext : decide (x.n ∈ posV (L.take (q + 1))) = false := by rw [hps, if_pos rfl]; exact hB
            refine m_run ?_
            refine TK.drawS mixed rfl ?_
            refine m_take (At.mk : At 0) ?_; refine m_take (At.mk : At 1) ?_; refine m_take (At.mk : At 2) ?_; refine m_take (At.mk : At 3) ?_; refine m_take (At.mk : At 4) ?_; refine m_take (At.mk : At 5) ?_; refine m_take (At.mk : At 6) ?_; refine m_take (At.mk : At 7) ?_; refine m_take (At.mk : At 8) ?_; refine m_take (At.mk : At 9) ?_; refine m_take (At.mk : At 10) ?_; refine m_take (At.mk : At 11) ?_; refine m_take (At.mk : At 12) ?_; refine m_take (At.mk : At 13) ?_; refine m_take (At.mk : At 14) ?_; refine m_take (At.mk : At 15) ?_; refine m_take (At.mk : At 16) ?_; refine m_take (At.mk : At 17) ?_; refine m_take (At.mk : At 18) ?_; refine m_take (At.mk : At 19) ?_; refine m_take (At.mk : At 20) ?_; refine m_take (At.mk : At 21) ?_; refine m_take (At.mk : At 22) ?_; refine m_take (At.mk : At 23) ?_; refine m_take (At.mk : At 24) ?_; refine m_take (At.mk : At 25) ?_
            refine TA.done (by kernel_rfl) ?_
            refine m_run ?_
            exact IH2 (j2 - 1) _ _ (by omega) ⟨q + 1, by omega, rfl, rfl, rfl, congrArg Value.bool hnext.symm, congrArg (Value.int .i64) (i64_succ q (by omega)), rfl⟩
          | false =>
            rw [hyn] at hno hps
            have hnext : decide (x.n ∈ posV (L.take (q + 1))) = decide (x.n ∈ varsOf y.a.l) := by
              rw [hps, if_neg (by decide)]
              refine decide_eq_decide.2 ?_
              rw [List.mem_append]
              exact ⟨fun h => h.resolve_left (of_decide_eq_false hB), .inr⟩
            refine m_run ?_
            refine TK.drawS mixed rfl ?_
            refine m_take (At.mk : At 0) ?_; refine m_take (At.mk : At 1) ?_; refine m_take (At.mk : At 2) ?_; refine m_take (At.mk : At 3) ?_; refine m_take (At.mk : At 4) ?_; refine m_take (At.mk : At 5) ?_; refine m_take (At.mk : At 6) ?_; refine m_take (At.mk : At 7) ?_; refine m_take (At.mk : At 8) ?_; refine m_take (At.mk : At 9) ?_; refine m_take (At.mk : At 10) ?_; refine m_take (At.mk : At 11) ?_; refine m_take (At.mk : At 12) ?_; refine m_take (At.mk : At 13) ?_; refine m_take (At.mk : At 14) ?_; refine m_take (At.mk : At 15) ?_; refine m_take (At.mk : At 16) ?_; refine m_take (At.mk : At 17) ?_; refine m_take (At.mk : At 18) ?_; refine m_take (At.mk : At 19) ?_; refine m_take (At.mk : At 20) ?_; refine m_take (At.mk : At 21) ?_
            (apply TA.one 22; kernel_rfl; exact rfl)
            refine m_rrun ?_
            (apply TL.callV; exact rfl; exact callB_of (by kernel_rfl); exact rfl; exact fun _ h => h)
            exact in_t y.a x.n _ (Atm.ok_tl (Atm.ok_tl (hb0 y hym))) (hn3 y hym)
            rintro _ _ ⟨rfl, rfl⟩
            refine TL.back (by (focus ((repeat (first | assumption | exact Ent.refl _ | apply Ent.tail)); done))) ?_
            refine m_take (At.mk : At 23) ?_; refine m_take (At.mk : At 24) ?_; refine m_take (At.mk : At 25) ?_
            refine TA.done (by kernel_rfl) ?_
            refine m_run ?_
            exact IH2 (j2 - 1) _ _ (by omega) ⟨q + 1, by omega, rfl, rfl, rfl, congrArg Value.bool hnext.symm, congrArg (Value.int .i64) (i64_succ q (by omega)), rfl⟩
      · rw [List.take_of_length_le (l := L) (by omega)] at f6
        cases hB : decide (x.n ∈ posV L) with
        | true =>
          rw [hB] at f6
          refine TK.know5 f2 f3 f5 f6 f7 ?_
          refine m_run ?_
          refine IH (j - 1) _ _ (by omega) ⟨i + 1, by omega, ?_, rfl, rfl, congrArg (Value.int .i64) (i64_succ i (by omega)), rfl⟩
          unfold heldA at hall ⊢
          rw [hsn, if_pos rfl, List.all_append, hall]
          simpa using of_decide_eq_true hB
        | false =>
          rw [hB] at f6
          refine TK.know5 f2 f3 f5 f6 f7 ?_
          have hfalse : heldA (posV L) l = false := by
            unfold heldA
            rw [← Bool.not_eq_true, List.all_eq_true]
            intro hf
            have := hf x.n (varsOf_mem.2 (by
              have := List.mem_of_getElem? hx
              obtain ⟨x1, x2⟩ := x
              simp only at hxv
              subst hxv; exact this))
            rw [hB] at this
            cases this
          refine m_run ?_
          (apply TK.retS1; exact rfl; exact rfl; (exact m_val))
          exact ⟨_, rfl, congrArg Value.bool hfalse.symm, rfl⟩
          (repeat (first | exact List.Sublist.refl _ | apply List.Sublist.cons_cons | apply List.Sublist.cons))
  obtain rfl : i = l.length := by omega
  rw [List.take_length] at hall
  refine m_run ?_
  (apply TK.retS1; exact rfl; exact rfl; (exact m_val))
  exact ⟨_, rfl, congrArg Value.bool hall.symm, rfl⟩
  (repeat (first | exact List.Sublist.refl _ | apply List.Sublist.cons_cons | apply List.Sublist.cons))
set_option maxRecDepth 100000 in
set_option maxHeartbeats 4000000 in
theorem rsafe_t (c : Cl) (Γ : List HP) (h : c.ok Γ) (hn : c.small) : FnV Try.prog 95 [.agg c.cells.toArray] Γ fun r Γ' => r = .bool (heldC c) ∧ Γ' = Γ := by
  refine Fn.enter Try.func95 rfl rfl rfl fun E => ?_
  have hL0 : has Γ (srcAt 3 c.A c.l.length (ltsC c.l)) := h.2.1
  have hb0 : ∀ x ∈ c.l, x.a.ok Γ := h.2.2.2
  have hn1 : c.l.length ≤ 1000000 := hn.1
  have hn3 : ∀ x ∈ c.l, x.a.l.length ≤ 1000000 := hn.2.2
  refine m_run ?_
  (apply TL.box; exact rfl; exact rfl; (exact m_lst))
  intro b1
  refine TL.imp (Δ := row b1 [.int .u32 (c.h.p : Int), .slice c.h.A c.h.l.length c.h.c, .slice c.A c.l.length c.c] 68 :: Γ) (fun _ h => h) ?_
  have hb1 : has (row b1 [.int .u32 (c.h.p : Int), .slice c.h.A c.h.l.length c.h.c, .slice c.A c.l.length c.c] 68 :: Γ) (fun m => cellsAt m b1 0 [.int .u32 (c.h.p : Int), .slice c.h.A c.h.l.length c.h.c]) := has_rows 0 rfl rfl
  refine m_run ?_
  (apply TL.callV; exact rfl; exact callB_of (by kernel_rfl); exact rfl; exact fun _ h => h)
  exact rheld_t c c.h _ (Cl.ok_tl h) (Atm.ok_tl h.1) hn hn.2.1
  rintro _ _ ⟨rfl, rfl⟩
  cases hh : heldA (posV c.l) c.h.l with
  | false =>
    refine m_run ?_
    (apply TK.retS1; exact rfl; exact rfl; (exact m_val))
    exact ⟨_, rfl, congrArg Value.bool (by rw [heldC, hh]; rfl), rfl⟩
    (repeat (first | exact List.Sublist.refl _ | apply List.Sublist.cons_cons | apply List.Sublist.cons))
  | true =>
  refine m_run ?_
  apply TK.iter (fun j ρ' Γ' => ∃ i : Nat, i + j = c.l.length ∧ (litsOf true (c.l.take i)).all (fun x => heldA (posV c.l) x.a.l) = true ∧ lk ρ' 1 = .pointer (some ⟨b1, 0, none⟩) ∧ lk ρ' 3 = .int .i64 (i : Int) ∧ Γ' = row b1 [.int .u32 (c.h.p : Int), .slice c.h.A c.h.l.length c.h.c, .slice c.A c.l.length c.c] 68 :: Γ) c.l.length
  · exact ⟨0, Nat.zero_add _, rfl, rfl, rfl, rfl⟩
  rintro j IH ρ' _ ⟨i, hij, hall, e1, e3, rfl⟩
  refine TK.know2 e1 e3 ?_
  by_cases hi : i < c.l.length
  · obtain ⟨x, hx⟩ : ∃ x, c.l[i]? = some x := ⟨c.l[i], List.getElem?_eq_getElem hi⟩
    have hxm := List.mem_of_getElem? hx
    refine TK.mem fun m0 hm0 => ?_
    obtain ⟨b, o, hA⟩ := src_some (has_tls hL0 m0 hm0) (by rw [ltsC_len]; omega)
    clear hm0 m0
    have hL1 := hL0
    rw [hA] at hL1
    obtain ⟨_, hno, hat⟩ := has_lit hL1 hx
    have hsn := litsOf_snoc (no := true) hx
    have hc2 : has (row b1 [.int .u32 (c.h.p : Int), .slice c.h.A c.h.l.length c.h.c, .slice c.A c.l.length c.c] 68 :: Γ) (fun m => cellAt m b1 2 (.slice (some ⟨b, o, none⟩) c.l.length c.c)) := by rw [← hA]; exact has_row 0 rfl rfl
    cases hxn : x.no with
    | false =>
      rw [hxn] at hno hsn
      refine m_run ?_
      refine TK.drawS mixed rfl ?_
      refine m_take (At.mk : At 0) ?_; refine m_take (At.mk : At 1) ?_; refine m_take (At.mk : At 2) ?_; refine m_take (At.mk : At 3) ?_; refine m_take (At.mk : At 4) ?_; refine m_take (At.mk : At 5) ?_; refine m_take (At.mk : At 6) ?_; refine m_take (At.mk : At 7) ?_; refine m_take (At.mk : At 8) ?_; refine m_take (At.mk : At 9) ?_; refine m_take (At.mk : At 10) ?_; refine m_take (At.mk : At 11) ?_; refine m_take (At.mk : At 12) ?_; refine m_take (At.mk : At 13) ?_; refine m_take (At.mk : At 14) ?_; refine m_take (At.mk : At 15) ?_; refine m_take (At.mk : At 16) ?_
      refine TA.done (by kernel_rfl) ?_
      refine m_run ?_
      exact IH (j - 1) _ _ (by omega) ⟨i + 1, by omega, by rw [hsn]; exact hall, rfl, congrArg (Value.int .i64) (i64_succ i (by omega)), rfl⟩
    | true =>
      rw [hxn] at hno hsn
      refine m_run ?_
      refine TK.drawS mixed rfl ?_
      refine m_take (At.mk : At 0) ?_; refine m_take (At.mk : At 1) ?_; refine m_take (At.mk : At 2) ?_; refine m_take (At.mk : At 3) ?_; refine m_take (At.mk : At 4) ?_; refine m_take (At.mk : At 5) ?_; refine m_take (At.mk : At 6) ?_; refine m_take (At.mk : At 7) ?_; refine m_take (At.mk : At 8) ?_; refine m_take (At.mk : At 9) ?_; refine m_take (At.mk : At 10) ?_; refine m_take (At.mk : At 11) ?_; refine m_take (At.mk : At 12) ?_; refine m_take (At.mk : At 13) ?_
      (apply TA.one 14; kernel_rfl; exact rfl)
      refine m_rrun ?_
      (apply TL.callV; exact rfl; exact callB_of (by kernel_rfl); exact rfl; exact fun _ h => h)
      exact rheld_t c x.a _ (Cl.ok_tl h) (Atm.ok_tl (hb0 x hxm)) hn (hn3 x hxm)
      rintro _ _ ⟨rfl, rfl⟩
      refine TL.back (by (focus ((repeat (first | assumption | exact Ent.refl _ | apply Ent.tail)); done))) ?_
      refine m_take (At.mk : At 15) ?_; refine m_take (At.mk : At 16) ?_
      refine TA.done (by kernel_rfl) ?_
      cases hx1 : heldA (posV c.l) x.a.l with
      | true =>
        refine m_run ?_
        refine IH (j - 1) _ _ (by omega) ⟨i + 1, by omega, ?_, rfl, congrArg (Value.int .i64) (i64_succ i (by omega)), rfl⟩
        rw [hsn]
        simp [hall, hx1]
      | false =>
        have hfalse : (litsOf true c.l).all (fun x => heldA (posV c.l) x.a.l) = false := by
          rw [← Bool.not_eq_true, List.all_eq_true]
          intro hf
          have := hf x (List.mem_filter.2 ⟨hxm, by simp [hxn]⟩)
          rw [hx1] at this
          cases this
        refine m_run ?_
        (apply TK.retS1; exact rfl; exact rfl; (exact m_val))
        exact ⟨_, rfl, congrArg Value.bool (by rw [heldC, hfalse, Bool.and_false]), rfl⟩
        (repeat (first | exact List.Sublist.refl _ | apply List.Sublist.cons_cons | apply List.Sublist.cons))
  · rw [List.take_of_length_le (by omega)] at hall
    refine m_run ?_
    (apply TK.retS1; exact rfl; exact rfl; (exact m_val))
    exact ⟨_, rfl, congrArg Value.bool (by rw [heldC, hh, hall]; rfl), rfl⟩
    (repeat (first | exact List.Sublist.refl _ | apply List.Sublist.cons_cons | apply List.Sublist.cons))
end Go.Proofs.Ythbcfamfaicneaa.E
