/- Match, with variables of whatever numbers: walked. -/
import Derived.Test.YtokggdgagfmacaaD1
namespace Go.Proofs.Ytokggdgagfmacaa.E
open Go Go.RowKit Go.Proofs
attribute [local irreducible] TK TL TQ TA TB Fn PV
theorem mat_some {l : List Tm} {m : List Nat} {i k N v w : Nat} (hlm : l.length = m.length) (hc : ∀ p, p < i → matOk l m p = true) (hx : l[i]? = some ⟨true, N⟩) (hv : m[i]? = some v) (hk : k < i) (hlk : l[k]? = some ⟨true, N⟩) (hw : m[k]? = some w) : matOk l m i = decide (w = v) := by
  unfold matOk
  rw [hx, hv]
  simp only [if_pos]
  by_cases hwv : w = v
  · rw [decide_eq_true hwv]
    refine List.all_eq_true.2 fun k' hk' => ?_
    have hk' := List.mem_range.1 hk'
    by_cases h1 : l[k']? = some ⟨true, N⟩
    · have h2 : m[k']? = some v := by
        rcases Nat.le_total k k' with h | h
        · rw [← mat_same hlm hc k k' hk hk' h hlk h1, hw, hwv]
        · rw [mat_same hlm hc k' k hk' hk h h1 hlk, hw, hwv]
      simp [h2]
    · simp [h1]
  · rw [decide_eq_false hwv]
    refine List.all_eq_false.2 ⟨k, List.mem_range.2 hk, ?_⟩
    have : m[k]? ≠ some v := by
      rw [hw]
      simpa using hwv
    simp [hlk, this]
theorem mat_none {l : List Tm} {m : List Nat} {i N v : Nat} (hx : l[i]? = some ⟨true, N⟩) (hv : m[i]? = some v) (hno : ∀ k, k < i → l[k]? ≠ some ⟨true, N⟩) : matOk l m i = true := by
  unfold matOk
  rw [hx, hv]
  simp only [if_pos]
  refine List.all_eq_true.2 fun k hk => ?_
  have := hno k (List.mem_range.1 hk)
  simp [this]
/-- What is known of the places ahead, of variables of great numbers. -/
def manyOk (l : List Tm) (m : List Nat) (i : Nat) (mv : List Tm) (ms : List Nat) : Prop := ms.length = mv.length ∧ mv.length ≤ i ∧
  (∀ (q : Nat) (t : Tm), mv[q]? = some t → ∃ k : Nat, k < i ∧ l[k]? = some t ∧ ms[q]? = m[k]?) ∧ ∀ k : Nat, k < i → ∀ N : Nat, 16 ≤ N → l[k]? = some ⟨true, N⟩ → (⟨true, N⟩ : Tm) ∈ mv
theorem many_next {l : List Tm} {m : List Nat} {i : Nat} {mv : List Tm} {ms : List Nat} (h : manyOk l m i mv ms) (hx : ∀ N, 16 ≤ N → l[i]? = some ⟨true, N⟩ → (⟨true, N⟩ : Tm) ∈ mv) : manyOk l m (i + 1) mv ms := by
  obtain ⟨h1, h2, h3, h4⟩ := h
  refine ⟨h1, by omega, fun q t hq => ?_, fun k hk N hN hlk => ?_⟩
  · obtain ⟨k, hk, h5⟩ := h3 q t hq
    exact ⟨k, by omega, h5⟩
  · rcases Nat.lt_or_ge k i with h5 | h5
    · exact h4 k h5 N hN hlk
    · rw [show k = i by omega] at hlk; exact hx N hN hlk
theorem many_put {l : List Tm} {m : List Nat} {i v : Nat} {t : Tm} {mv : List Tm} {ms : List Nat} (h : manyOk l m i mv ms) (hx : l[i]? = some t) (hv : m[i]? = some v) : manyOk l m (i + 1) (mv ++ [t]) (ms ++ [v]) := by
  obtain ⟨h1, h2, h3, h4⟩ := h
  refine ⟨by simp [h1], by simp; omega, fun q u hq => ?_, fun k hk N hN hlk => ?_⟩
  · rcases Nat.lt_or_ge q mv.length with h5 | h5
    · rw [List.getElem?_append_left h5] at hq
      obtain ⟨k, hk, h6, h7⟩ := h3 q u hq
      exact ⟨k, by omega, h6, by rw [List.getElem?_append_left (by omega)]; exact h7⟩
    · rw [List.getElem?_append_right h5] at hq
      have h6 : q = mv.length := by
        have := (List.getElem?_eq_some_iff.1 hq).1
        simp at this; omega
      subst h6
      rw [Nat.sub_self] at hq
      simp only [List.getElem?_cons_zero, Option.some.injEq] at hq
      subst hq
      exact ⟨i, by omega, hx, by rw [List.getElem?_append_right (by omega), h1, Nat.sub_self, hv]; rfl⟩
  · rcases Nat.lt_or_ge k i with h5 | h5
    · exact List.mem_append_left _ (h4 k h5 N hN hlk)
    · rw [show k = i by omega, hx] at hlk
      injection hlk with hlk
      rw [← hlk]; simp
theorem held_great {l : List Tm} {m : List Nat} {i N : Nat} {F : List Nat} {I : List Bool} (hh : heldOk l m i F I) (hx : l[i]? = some ⟨true, N⟩) (hN : 16 ≤ N) : heldOk l m (i + 1) F I := by
  refine ⟨hh.1, hh.2.1, fun M hM => ⟨fun h k hk => ?_, fun h => ?_⟩⟩
  · rcases Nat.lt_or_ge k i with h1 | h1
    · exact (hh.2.2 M hM).1 h k h1
    · rw [show k = i by omega, hx]
      intro e
      injection e with e
      injection e with _ e
      omega
  · obtain ⟨k, hk, h1, h2⟩ := (hh.2.2 M hM).2 h
    exact ⟨k, by omega, h1, h2⟩
set_option maxRecDepth 100000 in
set_option maxHeartbeats 4000000 in
theorem matchG_t (a : Atm) (f : Fct) (Γ : List HP) (ha : a.ok Γ) (hf : f.ok Γ) (hn : a.l.length ≤ 10000) :
    FnV Try.prog 41 [.agg a.cells.toArray, .agg f.cells.toArray] Γ fun v Γ' => v = .bool (matA a f) ∧ Γ' = Γ := by
  refine Fn.enter Try.func41 rfl rfl rfl fun E => ?_
  obtain ⟨p, A, c, l⟩ := a
  obtain ⟨q, B, d, m⟩ := f
  have hs : has Γ (srcAt 2 A l.length (tmsC l)) := ha.1
  have ht : has Γ (srcAt 1 B m.length (u32s m)) := hf.1
  replace hn : l.length ≤ 10000 := hn
  refine m_run ?_
  (apply TL.box; exact rfl; exact rfl; (exact m_lst))
  intro b2
  refine m_run ?_
  (apply TL.box; exact rfl; exact rfl; (exact m_lst))
  intro b3
  refine TL.imp (Δ := row b3 [.int .u32 (q : Int), .slice B m.length d] 26 :: row b2 [.int .u32 (p : Int), .slice A l.length c] 42 :: Γ) (fun _ h => h) ?_
  by_cases hpq : p = q
  · by_cases hlm : l.length = m.length
    · refine m_run ?_
      (apply TL.alloc; exact rfl; exact tb rfl; exact (by kernel_rfl : _ = zeroC))
      intro b5
      refine m_run ?_
      refine TK.sub (Δ := row b5 zeroC 123 :: row b3 [.int .u32 (q : Int), .slice B m.length d] 26 :: Γ) (by (repeat (first | exact List.Sublist.refl _ | apply List.Sublist.cons_cons | apply List.Sublist.cons))) ?_
      refine TK.free (H := own 23 1 (.slice none 0 0) 0 []) (fun m h => own_nil _ _ h) ?_
      refine TK.free (H := own 54 2 (.slice none 0 0) 0 []) (fun m h => own_nil _ _ h) ?_
      apply TK.iter (fun j ρ' Γ' => ∃ (i : Nat) (F : List Nat) (I : List Bool) (mv : List Tm) (ms : List Nat) (A' B' : Option Addr) (c' d' : Nat), i + j = l.length ∧ (∀ p, p < i → matOk l m p = true) ∧ heldOk l m i F I ∧ manyOk l m i mv ms ∧ lk ρ' 3 = .pointer (some ⟨b3, 0, none⟩) ∧ lk ρ' 5 = .pointer (some ⟨b5, 0, none⟩) ∧ lk ρ' 24 = .slice A l.length c ∧ lk ρ' 25 = .int .i64 (l.length : Int) ∧ lk ρ' 26 = .int .i64 (i : Int) ∧ Γ' = heldA b5 F I A' B' c' d' mv ms ++ row b3 [.int .u32 (q : Int), .slice B m.length d] 26 :: Γ) l.length
      · refine ⟨0, List.replicate 16 0, List.replicate 16 false, [], [], none, none, 0, 0, Nat.zero_add _, fun p h => absurd h (Nat.not_lt_zero p), ⟨rfl, rfl, fun N hN => ⟨fun _ k h => absurd h (Nat.not_lt_zero k), fun h => ?_⟩⟩, ⟨rfl, Nat.le_refl _, fun q t h => (by simp at h), fun k h => absurd h (Nat.not_lt_zero k)⟩, rfl, rfl, rfl, rfl, rfl, rfl⟩
        rw [List.getElem?_replicate, if_pos hN] at h
        cases h
      rintro j IH ρ' _ ⟨i, F, I, mv, ms, A', B', c', d', hij, hok, hh, hmm, e3, e5, e24, e25, e26, rfl⟩
      refine TK.know5 e3 e5 e24 e25 e26 ?_
      by_cases hi : i < l.length
      · obtain ⟨x, hx⟩ : ∃ x, l[i]? = some x := ⟨l[i], List.getElem?_eq_getElem hi⟩
        obtain ⟨v, hv⟩ : ∃ v, m[i]? = some v := ⟨m[i], List.getElem?_eq_getElem (by omega)⟩
        refine TK.mem fun m0 hm0 => ?_
        obtain ⟨b, o, rfl⟩ := src_some (has_tls (has_tls (has_tls (has_tls hs))) m0 hm0) (by rw [tmsC_len]; omega)
        obtain ⟨b', o', rfl⟩ := src_some (has_tls (has_tls (has_tls (has_tls ht))) m0 hm0) (by rw [u32s_len]; omega)
        clear hm0 m0
        have hel := has_el (f := tmC) (fun _ => rfl) (by decide) hs hx
        have hfv := has_u32 ht hv
        refine m_run ?_
        (apply TL.alloc; exact rfl; exact tb rfl; exact (rfl : _ = [_, _]))
        intro b7
        refine m_run ?_
        refine TK.imp (Δ := row b7 (tmC x) 54 :: (heldA b5 F I A' B' c' d' mv ms ++ row b3 [.int .u32 (q : Int), .slice (some ⟨b', o', none⟩) m.length d] 26 :: Γ)) (fun _ h => h) ?_
        refine TK.drawS mixed rfl ?_
        refine m_take (At.mk : At 0) ?_; refine m_take (At.mk : At 1) ?_; refine m_take (At.mk : At 2) ?_; refine m_take (At.mk : At 3) ?_; refine m_take (At.mk : At 4) ?_; refine m_take (At.mk : At 5) ?_
        (apply TA.one 6; kernel_rfl; exact rfl)
        (apply TL.callV; exact rfl; exact callB_of (by kernel_rfl); exact rfl; exact fun _ h => h)
        exact kind_t x v _
        rintro _ _ ⟨rfl, rfl⟩
        refine TL.back (by (focus ((repeat (first | assumption | exact Ent.refl _ | apply Ent.tail)); done))) ?_
        refine TA.done (by kernel_rfl) ?_
        cases hxv : x.v with
        | true =>
          have hk : kindT x v = 2 := by simp [kindT, hxv]
          rw [hk]
          have hxe : x = ⟨true, x.n⟩ := by rw [← hxv]
          have hent : ∀ H1 H2 H3, Ent (H1 :: H2 :: H3 :: row b7 (tmC x) 54 :: row b3 [.int .u32 (q : Int), .slice (some ⟨b', o', none⟩) m.length d] 26 :: Γ) (row b7 (tmC x) 54 :: row b3 [.int .u32 (q : Int), .slice (some ⟨b', o', none⟩) m.length d] 26 :: Γ) := fun _ _ _ => .tail (.tail (.tail (.refl _)))
          refine TK.perm (Δ := heldA b5 F I A' B' c' d' mv ms ++ row b7 (tmC x) 54 :: row b3 [.int .u32 (q : Int), .slice (some ⟨b', o', none⟩) m.length d] 26 :: Γ) (List.perm_middle (l₁ := heldA b5 F I A' B' c' d' mv ms)).symm ?_
          rcases Nat.lt_or_ge x.n 16 with hN | hN
          · obtain ⟨hF, hI, _⟩ := id hh
            obtain ⟨w, hw⟩ : ∃ w, F[x.n]? = some w := ⟨F[x.n], List.getElem?_eq_getElem (by omega)⟩
            obtain ⟨s, hsI⟩ : ∃ s, I[x.n]? = some s := ⟨I[x.n], List.getElem?_eq_getElem (by omega)⟩
            obtain ⟨hmv, hnext⟩ := mat_var (N := x.n) hlm hok hh hN (by rw [hx, ← hxe]) hv hw hsI
            have hmm2 : manyOk l m (i + 1) mv ms := many_next hmm fun N hN2 h => by
              rw [hx] at h
              injection h with h
              have e : x.n = N := congrArg Tm.n h
              omega
            refine m_run ?_
            refine TK.drawE mixed rfl (row b7 (tmC x) 54 :: row b3 [.int .u32 (q : Int), .slice (some ⟨b', o', none⟩) m.length d] 26 :: Γ) ?_
            refine m_take (At.mk : At 0) ?_; refine m_take (At.mk : At 1) ?_; refine m_take (At.mk : At 2) ?_; refine m_take (At.mk : At 3) ?_; refine m_take (At.mk : At 4) ?_; refine m_take (At.mk : At 5) ?_
            (apply TA.one 6; kernel_rfl; exact rfl)
            (apply TL.callV (Δ := row b5 (heldC F I (.slice A' mv.length c') (.slice B' ms.length d')) 123 :: own 54 2 (.slice A' mv.length c') mv.length (tmsC mv) :: own 23 1 (.slice B' ms.length d') ms.length (u32s ms) :: row b7 (tmC x) 54 :: row b3 [.int .u32 (q : Int), .slice (some ⟨b', o', none⟩) m.length d] 26 :: Γ); exact rfl; exact callB_of (by kernel_rfl); exact rfl; exact fun _ h => all_perm (List.perm_middle (l₁ := [_, _])) h)
            exact stands_t b5 F I _ _ x v w s _ hF hI hN hw hsI
            rintro _ _ ⟨rfl, rfl⟩
            rw [← hmv]
            refine TL.back (by (focus ((repeat (first | assumption | exact Ent.refl _ | apply Ent.tail)); done))) ?_
            refine m_take (At.mk : At 7) ?_
            refine TA.done (by kernel_rfl) ?_
            cases hmo : matOk l m i with
            | true =>
              have hh2 := hnext hmo
              refine m_run ?_
              refine TK.perm (List.perm_middle (l₁ := [_, _])).symm ?_
              refine TK.sub (Δ := heldA b5 (F.set x.n v) (I.set x.n true) A' B' c' d' mv ms ++ row b3 [.int .u32 (q : Int), .slice (some ⟨b', o', none⟩) m.length d] 26 :: Γ) (by (repeat (first | exact List.Sublist.refl _ | apply List.Sublist.cons_cons | apply List.Sublist.cons))) ?_
              refine IH (j - 1) _ _ (by omega) ⟨i + 1, F.set x.n v, I.set x.n true, mv, ms, A', B', c', d', by omega, fun p hp => ?_, hh2, hmm2, rfl, rfl, rfl, rfl, congrArg (Value.int .i64) (i64_succ i (by omega)), rfl⟩
              rcases Nat.lt_or_ge p i with h1 | h1
              · exact hok p h1
              · rw [show p = i by omega]; exact hmo
            | false =>
              have hbad := mat_bad hi hmo
              refine m_run ?_
              (apply TK.retS1; exact rfl; exact rfl; (exact m_val))
              · exact ⟨_, rfl, congrArg Value.bool (by simp [matA, hbad]), rfl⟩
              · (repeat (first | exact List.Sublist.refl _ | apply List.Sublist.cons_cons | apply List.Sublist.cons))
          · have hh2 := held_great hh (by rw [hx, ← hxe]) hN
            refine m_run ?_
            refine TK.drawE mixed rfl (row b7 (tmC x) 54 :: row b3 [.int .u32 (q : Int), .slice (some ⟨b', o', none⟩) m.length d] 26 :: Γ) ?_
            refine m_take (At.mk : At 0) ?_; refine m_take (At.mk : At 1) ?_; refine m_take (At.mk : At 2) ?_; refine m_take (At.mk : At 3) ?_; refine m_take (At.mk : At 4) ?_; refine m_take (At.mk : At 5) ?_
            (apply TA.one 6; kernel_rfl; exact rfl)
            (apply TL.callV; exact rfl; exact callB_of (by kernel_rfl); exact rfl; exact fun _ h => h)
            exact standsB_t b5 F I A' B' c' d' mv ms x v _ hh.1 hh.2.1 hN hmm.1 (by have := hmm.2.1; omega)
            rintro _ _ (⟨k, w, hk, hw, rfl, rfl⟩ | ⟨hno, rfl, A2, B2, c2, d2, rfl⟩)
            · obtain ⟨k', hk', hlk, hmk⟩ := hmm.2.2.1 k x hk
              have hmv : matOk l m i = decide (w = v) := mat_some hlm hok (N := x.n) (by rw [hx, ← hxe]) hv hk' (by rw [hlk, ← hxe]) (by rw [← hmk, hw])
              rw [← hmv]
              refine TL.back (by (focus ((repeat (first | assumption | exact Ent.refl _ | apply Ent.tail)); done))) ?_
              refine m_take (At.mk : At 7) ?_
              refine TA.done (by kernel_rfl) ?_
              have hmm2 : manyOk l m (i + 1) mv ms := many_next hmm fun N hN2 h => by
                rw [hx] at h
                injection h with h
                rw [← h]
                exact List.mem_of_getElem? hk
              cases hmo : matOk l m i with
              | true =>
                refine m_run ?_
                refine TK.sub (Δ := heldA b5 F I A' B' c' d' mv ms ++ row b3 [.int .u32 (q : Int), .slice (some ⟨b', o', none⟩) m.length d] 26 :: Γ) (by (repeat (first | exact List.Sublist.refl _ | apply List.Sublist.cons_cons | apply List.Sublist.cons))) ?_
                refine IH (j - 1) _ _ (by omega) ⟨i + 1, F, I, mv, ms, A', B', c', d', by omega, fun p hp => ?_, hh2, hmm2, rfl, rfl, rfl, rfl, congrArg (Value.int .i64) (i64_succ i (by omega)), rfl⟩
                rcases Nat.lt_or_ge p i with h1 | h1
                · exact hok p h1
                · rw [show p = i by omega]; exact hmo
              | false =>
                have hbad := mat_bad hi hmo
                refine m_run ?_
                (apply TK.retS1; exact rfl; exact rfl; (exact m_val))
                · exact ⟨_, rfl, congrArg Value.bool (by simp [matA, hbad]), rfl⟩
                · (repeat (first | exact List.Sublist.refl _ | apply List.Sublist.cons_cons | apply List.Sublist.cons))
            · have hmv : matOk l m i = true := mat_none (N := x.n) (by rw [hx, ← hxe]) hv fun k hk h => hno (by rw [hxe]; exact hmm.2.2.2 k hk x.n hN h)
              refine TL.back (by (focus ((repeat (first | assumption | exact Ent.refl _ | apply Ent.tail)); done))) ?_
              refine m_take (At.mk : At 7) ?_
              refine TA.done (by kernel_rfl) ?_
              have hmm2 := many_put hmm hx hv
              refine m_run ?_
              refine TK.sub (Δ := heldA b5 F I A2 B2 c2 d2 (mv ++ [x]) (ms ++ [v]) ++ row b3 [.int .u32 (q : Int), .slice (some ⟨b', o', none⟩) m.length d] 26 :: Γ) (by (repeat (first | exact List.Sublist.refl _ | apply List.Sublist.cons_cons | apply List.Sublist.cons))) ?_
              refine IH (j - 1) _ _ (by omega) ⟨i + 1, F, I, mv ++ [x], ms ++ [v], A2, B2, c2, d2, by omega, fun p hp => ?_, hh2, hmm2, rfl, rfl, rfl, rfl, congrArg (Value.int .i64) (i64_succ i (by omega)), rfl⟩
              rcases Nat.lt_or_ge p i with h1 | h1
              · exact hok p h1
              · rw [show p = i by omega]; exact hmv
        | false =>
          obtain ⟨hmc, hh2⟩ := mat_const hh hx hxv hv
          have hmm2 : manyOk l m (i + 1) mv ms := many_next hmm fun N hN2 h => by
            rw [hx] at h
            injection h with h
            rw [h] at hxv
            cases hxv
          by_cases hnv : x.n = v
          · have hk : kindT x v = 1 := by simp [kindT, hxv, hnv]
            rw [hk]
            rw [decide_eq_true hnv] at hmc
            refine m_run ?_
            refine TK.sub (Δ := heldA b5 F I A' B' c' d' mv ms ++ row b3 [.int .u32 (q : Int), .slice (some ⟨b', o', none⟩) m.length d] 26 :: Γ) (by (repeat (first | exact List.Sublist.refl _ | apply List.Sublist.cons_cons | apply List.Sublist.cons))) ?_
            refine IH (j - 1) _ _ (by omega) ⟨i + 1, F, I, mv, ms, A', B', c', d', by omega, fun p hp => ?_, hh2, hmm2, rfl, rfl, rfl, rfl, congrArg (Value.int .i64) (i64_succ i (by omega)), rfl⟩
            rcases Nat.lt_or_ge p i with h1 | h1
            · exact hok p h1
            · rw [show p = i by omega]; exact hmc
          · have hk : kindT x v = 0 := by simp [kindT, hxv, hnv]
            rw [hk]
            rw [decide_eq_false hnv] at hmc
            have hbad := mat_bad hi hmc
            refine m_run ?_
            (apply TK.retS1; exact rfl; exact rfl; (exact m_val))
            · exact ⟨_, rfl, congrArg Value.bool (by simp [matA, hbad]), rfl⟩
            · (repeat (first | exact List.Sublist.refl _ | apply List.Sublist.cons_cons | apply List.Sublist.cons))
      obtain rfl : i = l.length := by omega
      have hall : matL l m = true := List.all_eq_true.2 fun k hk => hok k (List.mem_range.1 hk)
      refine m_run ?_
      (apply TK.retS1; exact rfl; exact rfl; (exact m_val))
      · exact ⟨_, rfl, congrArg Value.bool (by simp [matA, hpq, hlm, hall]), rfl⟩
      · (repeat (first | exact List.Sublist.refl _ | apply List.Sublist.cons_cons | apply List.Sublist.cons))
    · refine m_run ?_
      (apply TK.retS1; exact rfl; exact rfl; (exact m_val))
      · exact ⟨_, rfl, congrArg Value.bool (by simp [matA, hlm]), rfl⟩
      · (repeat (first | exact List.Sublist.refl _ | apply List.Sublist.cons_cons | apply List.Sublist.cons))
  · refine m_run ?_
    (apply TK.retS1; exact rfl; exact rfl; (exact m_val))
    · exact ⟨_, rfl, congrArg Value.bool (by simp [matA, hpq]), rfl⟩
    · (repeat (first | exact List.Sublist.refl _ | apply List.Sublist.cons_cons | apply List.Sublist.cons))
end Go.Proofs.Ytokggdgagfmacaa.E
