/- held: whether a clause holds all that must be held, walked. -/
import Derived.Test.YtndmjpceocecdaaUf
namespace Go.Proofs.Ytndmjpceocecdaa.E
open Go Go.RowKit Go.Proofs
attribute [local irreducible] TK TL TQ TA Fn PV
theorem holds_mem {es : List (Nat × Unit)} {V W : List Nat} (h : Holds es V) (hm : ∀ v, v ∈ V ↔ v ∈ W) : Holds es W := fun v => by
  rw [h v]; exact decide_eq_decide.2 (hm v)
theorem holds_put {es : List (Nat × Unit)} {V : List Nat} (h : Holds es V) (x : Nat) : Holds (setE es x ()) (V ++ [x]) := fun v => by
  rw [lookE_set]
  by_cases hv : v = x
  · simp [hv]
  · rw [if_neg hv, h v]; simp [hv]
theorem behind1 {L A B C : HP} {Γ : List HP} : (L :: C :: A :: B :: Γ).Perm (L :: A :: B :: C :: Γ) := .cons _ (List.perm_middle (a := C) (l₁ := [A, B]) (l₂ := Γ)).symm
set_option maxRecDepth 100000 in
set_option maxHeartbeats 4000000 in
theorem held_t (c : Cl) (Γ : List HP) (h : c.ok Γ) (hn : c.small) : FnV Try.prog 43 [.agg c.cells.toArray] Γ fun v Γ' => v = .bool (heldC c) ∧ Γ' = Γ := by
  refine Fn.enter Try.func43 rfl rfl rfl fun E => ?_
  refine m_run ?_
  (apply TL.box; exact rfl; exact rfl; (exact m_lst))
  intro b1
  refine m_run ?_
  (apply TL.alloc; exact rfl; exact tb rfl; exact (rfl : _ = [_]))
  intro b2
  refine m_run ?_
  (apply TL.makeMap u32N oneN; exact rfl)
  intro mb
  refine m_run ?_
  (apply TL.alloc; exact rfl; exact tb rfl; exact (rfl : _ = [_]))
  intro b3
  refine TL.imp (Δ := row b3 [.map none] 75 :: mapA u32N oneN mb [] :: row b2 [.bool false] 4 :: clRow b1 c :: Γ) (fun _ h => h) ?_
  refine m_run ?_
  (apply TL.callV; exact rfl; exact callB_of (by kernel_rfl); exact rfl; exact fun _ h => h)
  exact literals_t c false _
  rintro _ _ ⟨q, q', rfl, rfl⟩
  refine m_run ?_
  apply TK.rangeF (first := []) (cap := [.pointer (some ⟨q, 0, none⟩), .pointer (some ⟨q', 0, none⟩)]) (RI := fun l r D _ Γ' => ∃ es, Holds es (posV c.l) ∧ Γ' = loopA l D .ready none :: row q' [.bool false] 4 :: clRow q c :: dfA r :: row b3 [.map (some mb)] 75 :: mapA u32N oneN mb es :: row b2 [.bool false] 4 :: clRow b1 c :: Γ)
  · exact rfl
  · exact rfl
  · exact callB_of (by kernel_rfl)
  · intro l r D hD
    refine Fn.mono (Fn.imp (literals1_t l D (by rw [hD]; rfl) q q' c false (fun pre Δ => ∃ es, Holds es (pre.flatMap fun x => varsOf x.a.l) ∧ Δ = dfA r :: row b3 [.map (some mb)] 75 :: mapA u32N oneN mb es :: row b2 [.bool false] 4 :: clRow b1 c :: Γ) (fun _ => False) hn.1 ?_ ?_ _ ⟨[], ?_, rfl⟩) (fun m hm => all_perm behind1 hm)) ?_
    · rintro pre _ ⟨es, _, rfl⟩
      exact has_tls (has_tls (has_tls (has_tls (has_tls h.2.1))))
    · rintro i x _ hx hxn ⟨es, hH, rfl⟩
      have hxm := List.mem_of_getElem? hx
      have hxo := h.2.2.2 x hxm
      refine Rnd.enterD hD Try.func43 rfl fun E2 => ?_
      refine m_run ?_
      (apply TL.alloc; exact rfl; exact tb rfl; exact (rfl : _ = [_, _]))
      intro b4
      refine m_run ?_
      (apply TK.begin 1; exact rfl; exact rfl; exact (rfl : _ = _ :: _ :: _))
      refine m_run ?_
      (apply TL.callV; exact rfl; exact callB_of (by kernel_rfl); exact rfl; exact fun _ h => h)
      exact varsG_t x.a _ (Atm.ok_tl (Atm.ok_tl (Atm.ok_tl (Atm.ok_tl (Atm.ok_tl (Atm.ok_tl (Atm.ok_tl (Atm.ok_tl (Atm.ok_tl hxo))))))))) (hn.2.2 x hxm)
      rintro _ _ ⟨Dv, B, k, hp, hs, hk, rfl, rfl⟩
      have hmem : ∀ v, v ∈ compL Dv ↔ v ∈ varsOf x.a.l := fun v => (compL_mem Dv v).trans hp.mem_iff
      have hlen : (compL Dv).length ≤ 1000000 := by
        have h1 := compL_len Dv
        have h2 := hp.length_eq
        have h3 := varsOf_len x.a.l
        have h4 := hn.2.2 x hxm
        omega
      generalize compL Dv = C at *
      refine m_run ?_
      apply TK.iter (fun j ρ' Γ' => ∃ (i2 : Nat) (es2 : List (Nat × Unit)), C.length = i2 + j ∧ Holds es2 (((litsOf false (c.l.take i)).flatMap fun x => varsOf x.a.l) ++ C.take i2) ∧ lk ρ' 3 = .pointer (some ⟨b3, 0, none⟩) ∧ lk ρ' 14 = .slice B C.length k ∧ lk ρ' 15 = .int .i64 (C.length : Int) ∧ lk ρ' 16 = .int .i64 (i2 : Int) ∧ Γ' = own 30 1 (.slice B C.length k) C.length (u32s C) :: row b4 x.a.cells 33 :: loopA l D .busy none :: row q' [.bool false] 4 :: clRow q c :: dfA r :: row b3 [.map (some mb)] 75 :: mapA u32N oneN mb es2 :: row b2 [.bool false] 4 :: clRow b1 c :: Γ) C.length
      · exact ⟨0, es, by omega, by simpa using hH, rfl, rfl, rfl, rfl, rfl⟩
      rintro j IH ρ' _ ⟨i2, es2, hj, hH2, e3, e14, e15, e16, rfl⟩
      refine TK.know4 e3 e14 e15 e16 ?_
      by_cases hi2 : i2 < C.length
      · obtain ⟨y, hy⟩ : ∃ y, C[i2]? = some y := ⟨C[i2], List.getElem?_eq_getElem hi2⟩
        refine TK.mem fun m0 hm0 => ?_
        obtain ⟨g, rfl⟩ := own_addr hm0 (by omega)
        clear hm0 m0
        have hown : has (own 30 1 (.slice (some ⟨g, 0, none⟩) C.length k) C.length (u32s C) :: row b4 x.a.cells 33 :: loopA l D .busy none :: row q' [.bool false] 4 :: clRow q c :: dfA r :: row b3 [.map (some mb)] 75 :: mapA u32N oneN mb es2 :: row b2 [.bool false] 4 :: clRow b1 c :: Γ) (srcAt 1 (some ⟨g, 0, none⟩) C.length (u32s C)) := has_at (up_src _ _ _ _) 0 rfl fun _ h => own_src h
        have hw := has_u32 hown hy
        rw [Nat.zero_add] at hw
        refine m_run ?_
        (apply TL.mapPut 7 (kv := u32N) (vv := oneN) (k := y) (nv := ()); exact rfl; exact keyU; exact tb rfl; exact rfl; exact ⟨_, (tb rfl : TabOk Try.prog 30 _).1⟩; exact rfl; exact (rfl : _ = u32N y); exact rfl; exact rfl)
        refine m_run ?_
        refine IH (j - 1) _ _ (by omega) ⟨i2 + 1, setE es2 y (), by omega, ?_, rfl, rfl, rfl, congrArg (Value.int .i64) (i64_succ i2 (by omega)), rfl⟩
        rw [List.take_add_one, hy, ← List.append_assoc]
        exact holds_put hH2 y
      · rw [List.take_of_length_le (l := C) (by omega)] at hH2
        refine m_run ?_
        refine TK.sub (Δ := loopA l D .busy none :: row q' [.bool false] 4 :: clRow q c :: dfA r :: row b3 [.map (some mb)] 75 :: mapA u32N oneN mb es2 :: row b2 [.bool false] 4 :: clRow b1 c :: Γ) (by (repeat (first | exact List.Sublist.refl _ | apply List.Sublist.cons_cons | apply List.Sublist.cons))) ?_
        (apply TK.roundEnd 0; exact rfl; exact rfl)
        refine ⟨true, rfl, .inl ⟨rfl, _, ⟨es2, holds_mem hH2 fun v => ?_, rfl⟩, rfl⟩⟩
        rw [List.flatMap_append, List.mem_append, List.mem_append, hmem]
        simp
    · exact fun v => by simp [lookE]
    · rintro e Γ' ⟨v, rfl, ⟨_, ⟨es, hH, rfl⟩, rfl⟩ | hf⟩
      · exact ⟨v, rfl, es, hH, rfl⟩
      · exact hf.elim
  rintro l r D v Γ' hD ⟨es, hH, rfl⟩
  refine ⟨0, _, _, rfl, by simp, ?_⟩
  refine TK.sub (Δ := dfA r :: row b3 [.map (some mb)] 75 :: mapA u32N oneN mb es :: row b2 [.bool false] 4 :: clRow b1 c :: Γ) (by (repeat (first | exact List.Sublist.refl _ | apply List.Sublist.cons_cons | apply List.Sublist.cons))) ?_
  refine TK.perm (Δ := row b2 [.bool false] 4 :: clRow b1 c :: dfA r :: row b3 [.map (some mb)] 75 :: mapA u32N oneN mb es :: Γ) ((List.perm_append_comm (l₁ := [dfA r, row b3 [.map (some mb)] 75, mapA u32N oneN mb es]) (l₂ := [row b2 [.bool false] 4, clRow b1 c])).append_right Γ) ?_
  refine TK.know3 (t0 := 1) (t1 := 2) (t2 := 3) rfl rfl rfl ?_
  refine m_run ?_
  (apply TL.pv; exact rfl; (apply PV.makeFunc; exact rfl; exact rfl))
  refine m_run ?_
  (apply TL.alloc; exact rfl; exact tb rfl; exact (rfl : _ = [_]))
  intro b7
  refine m_run ?_
  (apply TL.callV; exact rfl; exact callB_of (by kernel_rfl); exact rfl; exact fun _ h => h)
  exact literals_t c true _
  rintro _ _ ⟨p, p', rfl, rfl⟩
  refine m_run ?_
  have hV : Holds es (posV c.l) := hH
  apply TK.rangeF (first := []) (cap := [.pointer (some ⟨p, 0, none⟩), .pointer (some ⟨p', 0, none⟩)]) (RI := fun l r2 D _ Γ' => ((litsOf true c.l).all (fun x => heldA (posV c.l) x.a.l) = true ∧ Γ' = loopA l D .ready none :: row p' [.bool true] 4 :: clRow p c :: dfA r2 :: row b7 [.func (.func 65) #[] #[.pointer (some ⟨b3, 0, none⟩)]] 102 :: row b2 [.bool false] 4 :: clRow b1 c :: dfA r :: row b3 [.map (some mb)] 75 :: mapA u32N oneN mb es :: Γ) ∨ ((litsOf true c.l).all (fun x => heldA (posV c.l) x.a.l) = false ∧ Γ' = loopA l D .done (some .ret) :: row p' [.bool true] 4 :: clRow p c :: dfA r2 :: row b7 [.func (.func 65) #[] #[.pointer (some ⟨b3, 0, none⟩)]] 102 :: row b2 [.bool false] 4 :: clRow b1 c :: dfA r :: row b3 [.map (some mb)] 75 :: mapA u32N oneN mb es :: Γ))
  · exact rfl
  · exact rfl
  · exact callB_of (by kernel_rfl)
  · intro l r2 D hD
    refine Fn.mono (Fn.imp (literals1_t l D (by rw [hD]; rfl) p p' c true (fun pre Δ => pre.all (fun x => heldA (posV c.l) x.a.l) = true ∧ Δ = dfA r2 :: row b7 [.func (.func 65) #[] #[.pointer (some ⟨b3, 0, none⟩)]] 102 :: row b2 [.bool false] 4 :: clRow b1 c :: dfA r :: row b3 [.map (some mb)] 75 :: mapA u32N oneN mb es :: Γ) (fun Γ' => (litsOf true c.l).all (fun x => heldA (posV c.l) x.a.l) = false ∧ Γ' = loopA l D .done (some .ret) :: row p' [.bool true] 4 :: clRow p c :: dfA r2 :: row b7 [.func (.func 65) #[] #[.pointer (some ⟨b3, 0, none⟩)]] 102 :: row b2 [.bool false] 4 :: clRow b1 c :: dfA r :: row b3 [.map (some mb)] 75 :: mapA u32N oneN mb es :: Γ) hn.1 ?_ ?_ _ ⟨rfl, rfl⟩) (fun m hm => all_perm behind1 hm)) ?_
    · rintro pre _ ⟨_, rfl⟩
      exact has_tls (has_tls (has_tls (has_tls (has_tls (has_tls (has_tls h.2.1))))))
    · rintro i x _ hx hxn ⟨hpre, rfl⟩
      have hxm := List.mem_of_getElem? hx
      have hxo := h.2.2.2 x hxm
      refine Rnd.enterD hD Try.func43 rfl fun E2 => ?_
      refine m_run ?_
      (apply TL.alloc; exact rfl; exact tb rfl; exact (rfl : _ = [_, _]))
      intro b8
      refine m_run ?_
      (apply TK.begin 1; exact rfl; exact rfl; exact (rfl : _ = _ :: _ :: _))
      have h7 : has (row b8 x.a.cells 33 :: loopA l D .busy none :: row p' [.bool true] 4 :: clRow p c :: dfA r2 :: row b7 [.func (.func 65) #[] #[.pointer (some ⟨b3, 0, none⟩)]] 102 :: row b2 [.bool false] 4 :: clRow b1 c :: dfA r :: row b3 [.map (some mb)] 75 :: mapA u32N oneN mb es :: Γ) (fun m => cellAt m b7 0 (.func (.func 65) #[] #[.pointer (some ⟨b3, 0, none⟩)])) := has_row 5 rfl rfl
      refine m_run ?_
      (apply TL.callFV (fs := []) (cs := [.pointer (some ⟨b3, 0, none⟩)]) (vs := [.agg x.a.cells.toArray, .pointer (some ⟨b3, 0, none⟩)]); exact rfl; exact rfl; exact callB_of (by kernel_rfl); exact rfl; exact fun _ h => h)
      exact all_t b3 mb (posV c.l) es x.a _ (Atm.ok_tl (Atm.ok_tl (Atm.ok_tl (Atm.ok_tl (Atm.ok_tl (Atm.ok_tl (Atm.ok_tl (Atm.ok_tl (Atm.ok_tl (Atm.ok_tl (Atm.ok_tl hxo))))))))))) (hn.2.2 x hxm) (has_row 9 rfl rfl) (has_at (up_map _ _ _ _) 10 rfl fun _ h => mapA_at h) hV
      rintro _ _ ⟨rfl, rfl⟩
      cases hx1 : heldA (posV c.l) x.a.l with
      | true =>
        refine m_run ?_
        refine TK.drop ?_
        (apply TK.roundEnd 0; exact rfl; exact rfl)
        exact ⟨true, rfl, .inl ⟨rfl, _, ⟨by rw [List.all_append, hpre]; simp [hx1], rfl⟩, rfl⟩⟩
      | false =>
        refine TL.drop ?_
        refine m_run ?_
        (apply TK.roundRet 0; exact rfl; exact rfl)
        refine ⟨false, rfl, .inr ⟨rfl, ?_, rfl⟩⟩
        rw [← Bool.not_eq_true, List.all_eq_true]
        intro hf
        have := hf x (List.mem_filter.2 ⟨hxm, hxn⟩)
        rw [hx1] at this
        cases this
    · rintro e Γ' ⟨v, rfl, ⟨_, ⟨h1, rfl⟩, rfl⟩ | ⟨h1, rfl⟩⟩
      · exact ⟨v, rfl, .inl ⟨h1, rfl⟩⟩
      · exact ⟨v, rfl, .inr ⟨h1, rfl⟩⟩
  rintro l r2 D v Γ' hD (⟨hall, rfl⟩ | ⟨hall, rfl⟩)
  · refine ⟨0, _, _, rfl, by simp, ?_⟩
    have hb1 : has (row p' [.bool true] 4 :: clRow p c :: dfA r2 :: row b7 [.func (.func 65) #[] #[.pointer (some ⟨b3, 0, none⟩)]] 102 :: row b2 [.bool false] 4 :: clRow b1 c :: dfA r :: row b3 [.map (some mb)] 75 :: mapA u32N oneN mb es :: Γ) (fun m => cellsAt m b1 0 [.int .u32 (c.h.p : Int), .slice c.h.A c.h.l.length c.h.c]) := has_rows 5 rfl rfl
    refine m_run ?_
    (apply TL.callFV (fs := []) (cs := [.pointer (some ⟨b3, 0, none⟩)]) (vs := [.agg c.h.cells.toArray, .pointer (some ⟨b3, 0, none⟩)]); exact rfl; exact rfl; exact callB_of (by kernel_rfl); exact rfl; exact fun _ h => h)
    exact all_t b3 mb (posV c.l) es c.h _ (Atm.ok_tl (Atm.ok_tl (Atm.ok_tl (Atm.ok_tl (Atm.ok_tl (Atm.ok_tl (Atm.ok_tl (Atm.ok_tl (Atm.ok_tl h.1))))))))) hn.2.1 (has_row 7 rfl rfl) (has_at (up_map _ _ _ _) 8 rfl fun _ h => mapA_at h) hV
    rintro _ _ ⟨rfl, rfl⟩
    refine m_run ?_
    (apply TK.unmark 2; exact rfl; (rintro _ ⟨_, h, _⟩; cases h); exact rfl)
    (apply TK.unmark 5; exact rfl; (rintro _ ⟨_, h, _⟩; cases h); exact rfl)
    refine TK.retSub (Δ := Γ) (fun R' hR' => TK.rets rfl rfl (.cons (.cell rfl (tb rfl) rfl (has_row 3 rfl rfl)) .nil) (hR' _ (by (repeat (first | exact List.Sublist.refl _ | apply List.Sublist.cons_cons | apply List.Sublist.cons))))) ⟨_, rfl, ?_, rfl⟩
    show Value.bool _ = Value.bool _
    rw [heldC, hall, Bool.and_true]
  · refine ⟨0, _, _, rfl, by simp, ?_⟩
    refine m_run ?_
    (apply TK.unmark 2; exact rfl; (rintro _ ⟨_, h, _⟩; cases h); exact rfl)
    (apply TK.unmark 5; exact rfl; (rintro _ ⟨_, h, _⟩; cases h); exact rfl)
    refine TK.retSub (Δ := Γ) (fun R' hR' => TK.rets rfl rfl (.cons (.cell rfl (tb rfl) rfl (has_row 3 rfl rfl)) .nil) (hR' _ (by (repeat (first | exact List.Sublist.refl _ | apply List.Sublist.cons_cons | apply List.Sublist.cons))))) ⟨_, rfl, ?_, rfl⟩
    show Value.bool _ = Value.bool _
    rw [heldC, hall, Bool.and_false]
end Go.Proofs.Ytndmjpceocecdaa.E
