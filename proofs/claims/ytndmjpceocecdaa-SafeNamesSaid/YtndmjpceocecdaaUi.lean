/- The document on which programs may be: Safe, Atoms, lengths, walked. -/
import Derived.Test.YtndmjpceocecdaaUh
namespace Go.Proofs.Ytndmjpceocecdaa.E
open Go Go.RowKit Go.Proofs
attribute [local irreducible] TK TL TQ TA Fn PV
set_option maxRecDepth 100000 in
set_option maxHeartbeats 4000000 in
theorem rsafe_t (c : Cl) (Γ : List HP) (h : c.ok Γ) (hn : c.small) : FnV Try.prog 46 [.agg c.cells.toArray] Γ fun r Γ' => r = .bool (heldC c) ∧ Γ' = Γ := by
  refine Fn.enter Try.func46 rfl rfl rfl fun E => ?_
  have hL0 : has Γ (srcAt 3 c.A c.l.length (ltsC c.l)) := h.2.1
  have hb0 : ∀ x ∈ c.l, x.a.ok Γ := h.2.2.2
  have hn1 : c.l.length ≤ 1000000 := hn.1
  have hn3 : ∀ x ∈ c.l, x.a.l.length ≤ 1000000 := hn.2.2
  refine m_run ?_
  (apply TL.box; exact rfl; exact rfl; (exact m_lst))
  intro b1
  refine TL.imp (Δ := row b1 [.int .u32 (c.h.p : Int), .slice c.h.A c.h.l.length c.h.c, .slice c.A c.l.length c.c] 36 :: Γ) (fun _ h => h) ?_
  have hb1 : has (row b1 [.int .u32 (c.h.p : Int), .slice c.h.A c.h.l.length c.h.c, .slice c.A c.l.length c.c] 36 :: Γ) (fun m => cellsAt m b1 0 [.int .u32 (c.h.p : Int), .slice c.h.A c.h.l.length c.h.c]) := has_rows 0 rfl rfl
  refine m_run ?_
  (apply TL.callV; exact rfl; exact callB_of (by kernel_rfl); exact rfl; exact fun _ h => h)
  exact rheld_t c c.h _ (Cl.ok_tl h) (Atm.ok_tl h.1) hn hn.2.1
  rintro _ _ ⟨rfl, rfl⟩
  cases hh : heldA (posV c.l) c.h.l with
  | false =>
    refine m_run ?_
    (apply TK.retS1; exact rfl; exact rfl; (exact m_val))
    exact ⟨_, rfl, congrArg Value.bool (by rw [heldC, hh]; rfl), rfl⟩
    (repeat (first | exact List.Sublist.refl _ | apply List.Sublist.cons_cons | apply List.Sublist.cons))
  | true =>
  refine m_run ?_
  apply TK.iter (fun j ρ' Γ' => ∃ i : Nat, i + j = c.l.length ∧ (litsOf true (c.l.take i)).all (fun x => heldA (posV c.l) x.a.l) = true ∧ lk ρ' 1 = .pointer (some ⟨b1, 0, none⟩) ∧ lk ρ' 3 = .int .i64 (i : Int) ∧ Γ' = row b1 [.int .u32 (c.h.p : Int), .slice c.h.A c.h.l.length c.h.c, .slice c.A c.l.length c.c] 36 :: Γ) c.l.length
  · exact ⟨0, Nat.zero_add _, rfl, rfl, rfl, rfl⟩
  rintro j IH ρ' _ ⟨i, hij, hall, e1, e3, rfl⟩
  refine TK.know2 e1 e3 ?_
  by_cases hi : i < c.l.length
  · obtain ⟨x, hx⟩ : ∃ x, c.l[i]? = some x := ⟨c.l[i], List.getElem?_eq_getElem hi⟩
    have hxm := List.mem_of_getElem? hx
    refine TK.mem fun m0 hm0 => ?_
    obtain ⟨b, o, hA⟩ := src_some (has_tls hL0 m0 hm0) (by rw [ltsC_len]; omega)
    clear hm0 m0
    have hL1 := hL0
    rw [hA] at hL1
    obtain ⟨_, hno, hat⟩ := has_lit hL1 hx
    have hsn := litsOf_snoc (no := true) hx
    have hc2 : has (row b1 [.int .u32 (c.h.p : Int), .slice c.h.A c.h.l.length c.h.c, .slice c.A c.l.length c.c] 36 :: Γ) (fun m => cellAt m b1 2 (.slice (some ⟨b, o, none⟩) c.l.length c.c)) := by rw [← hA]; exact has_row 0 rfl rfl
    cases hxn : x.no with
    | false =>
      rw [hxn] at hno hsn
      refine m_run ?_
      refine TK.drawS mixed rfl ?_
      refine m_take (At.mk : At 0) ?_; refine m_take (At.mk : At 1) ?_; refine m_take (At.mk : At 2) ?_; refine m_take (At.mk : At 3) ?_; refine m_take (At.mk : At 4) ?_; refine m_take (At.mk : At 5) ?_; refine m_take (At.mk : At 6) ?_; refine m_take (At.mk : At 7) ?_; refine m_take (At.mk : At 8) ?_; refine m_take (At.mk : At 9) ?_; refine m_take (At.mk : At 10) ?_; refine m_take (At.mk : At 11) ?_; refine m_take (At.mk : At 12) ?_; refine m_take (At.mk : At 13) ?_; refine m_take (At.mk : At 14) ?_; refine m_take (At.mk : At 15) ?_; refine m_take (At.mk : At 16) ?_
      refine TA.done (by kernel_rfl) ?_
      refine m_run ?_
      exact IH (j - 1) _ _ (by omega) ⟨i + 1, by omega, by rw [hsn]; exact hall, rfl, congrArg (Value.int .i64) (i64_succ i (by omega)), rfl⟩
    | true =>
      rw [hxn] at hno hsn
      refine m_run ?_
      refine TK.drawS mixed rfl ?_
      refine m_take (At.mk : At 0) ?_; refine m_take (At.mk : At 1) ?_; refine m_take (At.mk : At 2) ?_; refine m_take (At.mk : At 3) ?_; refine m_take (At.mk : At 4) ?_; refine m_take (At.mk : At 5) ?_; refine m_take (At.mk : At 6) ?_; refine m_take (At.mk : At 7) ?_; refine m_take (At.mk : At 8) ?_; refine m_take (At.mk : At 9) ?_; refine m_take (At.mk : At 10) ?_; refine m_take (At.mk : At 11) ?_; refine m_take (At.mk : At 12) ?_; refine m_take (At.mk : At 13) ?_
      (apply TA.one 14; kernel_rfl; exact rfl)
      refine m_rrun ?_
      (apply TL.callV; exact rfl; exact callB_of (by kernel_rfl); exact rfl; exact fun _ h => h)
      exact rheld_t c x.a _ (Cl.ok_tl h) (Atm.ok_tl (hb0 x hxm)) hn (hn3 x hxm)
      rintro _ _ ⟨rfl, rfl⟩
      refine TL.back (by (focus ((repeat (first | assumption | exact Ent.refl _ | apply Ent.tail)); done))) ?_
      refine m_take (At.mk : At 15) ?_; refine m_take (At.mk : At 16) ?_
      refine TA.done (by kernel_rfl) ?_
      cases hx1 : heldA (posV c.l) x.a.l with
      | true =>
        refine m_run ?_
        refine IH (j - 1) _ _ (by omega) ⟨i + 1, by omega, ?_, rfl, congrArg (Value.int .i64) (i64_succ i (by omega)), rfl⟩
        rw [hsn]
        simp [hall, hx1]
      | false =>
        have hfalse : (litsOf true c.l).all (fun x => heldA (posV c.l) x.a.l) = false := by
          rw [← Bool.not_eq_true, List.all_eq_true]
          intro hf
          have := hf x (List.mem_filter.2 ⟨hxm, by simp [hxn]⟩)
          rw [hx1] at this
          cases this
        refine m_run ?_
        (apply TK.retS1; exact rfl; exact rfl; (exact m_val))
        exact ⟨_, rfl, congrArg Value.bool (by rw [heldC, hfalse, Bool.and_false]), rfl⟩
        (repeat (first | exact List.Sublist.refl _ | apply List.Sublist.cons_cons | apply List.Sublist.cons))
  · rw [List.take_of_length_le (by omega)] at hall
    refine m_run ?_
    (apply TK.retS1; exact rfl; exact rfl; (exact m_val))
    exact ⟨_, rfl, congrArg Value.bool (by rw [heldC, hh, hall]; rfl), rfl⟩
    (repeat (first | exact List.Sublist.refl _ | apply List.Sublist.cons_cons | apply List.Sublist.cons))
/-! ### all atoms -/
def atomsOf (c : Cl) : List Atm := c.h :: c.l.map (·.a)
def allA (l : List Cl) : List Atm := l.flatMap atomsOf
abbrev atmsC (l : List Atm) : List Value := l.flatMap Atm.cells
theorem atmsC_len (l : List Atm) : (atmsC l).length = l.length * 2 := flat_len (f := Atm.cells) (sz := 2) (fun _ => rfl) l
theorem atmsC_one (l : List Atm) : ∀ u ∈ atmsC l, u.oneCell' = true := by
  intro u hu
  obtain ⟨p, _, hp⟩ := List.mem_flatMap.1 hu
  simp only [Atm.cells, List.mem_cons, List.not_mem_nil, or_false] at hp
  rcases hp with rfl | rfl <;> rfl
theorem allA_ats (l : List Cl) : (allA l).map (fun a => (a.p, a.l.length)) = atsL l := by
  induction l with
  | nil => rfl
  | cons c l ih =>
    simp only [allA, atsL, List.flatMap_cons, List.map_append] at ih ⊢
    rw [ih]
    congr 1
    simp [atomsOf, atsOf]
set_option maxRecDepth 100000 in
set_option maxHeartbeats 4000000 in
theorem atoms_t (c : Cl) (Γ : List HP) (h : c.ok Γ) (hn : c.small) : FnV Try.prog 49 [.agg c.cells.toArray] Γ fun r Γ' => ∃ B k, (atomsOf c).length ≤ k ∧ r = .slice B (atomsOf c).length k ∧ Γ' = own 33 2 (.slice B (atomsOf c).length k) (atomsOf c).length (atmsC (atomsOf c)) :: Γ := by
  refine Fn.enter Try.func49 rfl rfl rfl fun E => ?_
  have hL0 : has Γ (srcAt 3 c.A c.l.length (ltsC c.l)) := h.2.1
  have hn1 : c.l.length ≤ 1000000 := hn.1
  refine m_run ?_
  (apply TL.box; exact rfl; exact rfl; (exact m_lst))
  intro b1
  refine TL.imp (Δ := row b1 [.int .u32 (c.h.p : Int), .slice c.h.A c.h.l.length c.h.c, .slice c.A c.l.length c.c] 36 :: Γ) (fun _ h => h) ?_
  have hb1 : has (row b1 [.int .u32 (c.h.p : Int), .slice c.h.A c.h.l.length c.h.c, .slice c.A c.l.length c.c] 36 :: Γ) (fun m => cellsAt m b1 0 c.h.cells) := has_rows 0 rfl rfl
  refine m_run ?_
  (apply TL.buildSlice (l := c.h.cells); exact rfl; exact tb rfl; exact rfl; exact tb rfl; exact rfl; exact rfl; exact rfl; exact rfl; exact rfl)
  intro b7
  refine m_run ?_
  refine TK.imp (Δ := own 33 2 (.slice (some ⟨b7, 0, none⟩) 1 1) 1 (atmsC (c.h :: (c.l.take 0).map (·.a))) :: row b1 [.int .u32 (c.h.p : Int), .slice c.h.A c.h.l.length c.h.c, .slice c.A c.l.length c.c] 36 :: Γ) (fun m hm => sep_mono hm (fun _ h => own_row (by simp [atmsC, Atm.cells]) (by decide) (by simpa [atmsC] using h)) (fun _ h => h)) ?_
  apply TK.iter (fun j ρ' Γ' => ∃ (i : Nat) (B : Option Addr) (k : Nat), c.l.length = i + j ∧ i + 1 ≤ k ∧ lk ρ' 1 = .pointer (some ⟨b1, 0, none⟩) ∧ lk ρ' 3 = .slice B (i + 1) k ∧ lk ρ' 4 = .int .i64 (i : Int) ∧ Γ' = own 33 2 (.slice B (i + 1) k) (i + 1) (atmsC (c.h :: (c.l.take i).map (·.a))) :: row b1 [.int .u32 (c.h.p : Int), .slice c.h.A c.h.l.length c.h.c, .slice c.A c.l.length c.c] 36 :: Γ) c.l.length
  · exact ⟨0, some ⟨b7, 0, none⟩, 1, by omega, Nat.le_refl _, rfl, rfl, rfl, rfl⟩
  rintro j IH ρ' _ ⟨i, B, k, hj, hk, e1, e3, e4, rfl⟩
  refine TK.know3 e1 e3 e4 ?_
  by_cases hi : i < c.l.length
  · obtain ⟨x, hx⟩ : ∃ x, c.l[i]? = some x := ⟨c.l[i], List.getElem?_eq_getElem hi⟩
    refine TK.mem fun m0 hm0 => ?_
    obtain ⟨b, o, hA⟩ := src_some (has_tls (has_tls hL0) m0 hm0) (by rw [ltsC_len]; omega)
    clear hm0 m0
    have hL1 := hL0
    rw [hA] at hL1
    obtain ⟨_, _, hat⟩ := has_lit hL1 hx
    have hc2 : has (own 33 2 (.slice B (i + 1) k) (i + 1) (atmsC (c.h :: (c.l.take i).map (·.a))) :: row b1 [.int .u32 (c.h.p : Int), .slice c.h.A c.h.l.length c.h.c, .slice c.A c.l.length c.c] 36 :: Γ) (fun m => cellAt m b1 2 (.slice (some ⟨b, o, none⟩) c.l.length c.c)) := by rw [← hA]; exact has_row 1 rfl rfl
    refine m_run ?_
    (apply TL.buildSlice (l := x.a.cells); exact rfl; exact tb rfl; exact rfl; exact tb rfl; exact rfl; exact rfl; exact rfl; exact rfl; exact rfl)
    intro b22
    refine m_run ?_
    (apply TL.append 1; exact rfl; exact rfl; exact tb rfl; exact rfl; exact tb rfl; exact rfl; exact rfl; exact rfl)
    · exact fun _ h => h
    · exact rfl
    · exact has_src_row 0 rfl rfl
    · exact atmsC_one [x.a]
    · show (i + 1 + 1) * 32 ≤ _; omega
    · show i + 1 + 1 ≤ maxLen; unfold maxLen; omega
    · exact fun _ => (rfl : _ = _ :: _ :: _)
    intro B2 k2 hk2
    rw [show atmsC (c.h :: (c.l.take i).map (·.a)) ++ x.a.cells = atmsC (c.h :: (c.l.take (i + 1)).map (·.a)) by rw [List.take_add_one, hx]; simp [atmsC]]
    refine m_run ?_
    refine TK.drop ?_
    exact IH (j - 1) _ _ (by omega) ⟨i + 1, B2, k2, by omega, hk2, rfl, rfl, congrArg (Value.int .i64) (i64_succ i (by omega)), rfl⟩
  · obtain rfl : i = c.l.length := by omega
    have hlen : (atomsOf c).length = c.l.length + 1 := by simp [atomsOf]
    rw [List.take_length]
    rw [← hlen] at hk ⊢
    refine m_run ?_
    (apply TK.retS1; exact rfl; exact rfl; (exact m_val))
    exact ⟨_, rfl, B, k, hk, rfl, rfl⟩
    (repeat (first | exact List.Sublist.refl _ | apply List.Sublist.cons_cons | apply List.Sublist.cons))
end Go.Proofs.Ytndmjpceocecdaa.E
