/- Match, with variables of small numbers: walked. -/
import Derived.Test.YtokggdgagfmacaaB8
namespace Go.Proofs.Ytokggdgagfmacaa.E
open Go Go.RowKit Go.Proofs
attribute [local irreducible] TK TL TQ TA Fn PV
/-- What variables of small numbers stand for, in memory. -/
def heldC (F : List Nat) (I : List Bool) (V W : Value) : List Value := u32s F ++ I.map Value.bool ++ [V, W]
theorem heldC_len {F : List Nat} {I : List Bool} {V W : Value} (hF : F.length = 16) (hI : I.length = 16) : (heldC F I V W).length = 34 := by simp [heldC, u32s_len, hF, hI]
theorem heldC_few {F : List Nat} {I : List Bool} {V W : Value} {N w : Nat} (h : F[N]? = some w) : (heldC F I V W)[N]? = some (.int .u32 (w : Int)) := by
  have hN := (List.getElem?_eq_some_iff.1 h).1
  unfold heldC
  rw [List.append_assoc, List.getElem?_append_left (by rw [u32s_len]; exact hN), u32s, List.getElem?_map, h]; rfl
theorem heldC_is {F : List Nat} {I : List Bool} {V W : Value} {N : Nat} {s : Bool} (hF : F.length = 16) (h : I[N]? = some s) : (heldC F I V W)[16 + N]? = some (.bool s) := by
  have hN := (List.getElem?_eq_some_iff.1 h).1
  unfold heldC
  rw [List.append_assoc, List.getElem?_append_right (by rw [u32s_len]; omega), u32s_len, hF, Nat.add_sub_cancel_left, List.getElem?_append_left (by simpa using hN), List.getElem?_map, h]; rfl
theorem heldC_set {F : List Nat} {I : List Bool} {V W : Value} {N n : Nat} (hF : F.length = 16) (hI : I.length = 16) (hN : N < 16) : ((heldC F I V W).set N (.int .u32 (n : Int))).set (16 + N) (.bool true) = heldC (F.set N n) (I.set N true) V W := by
  unfold heldC
  rw [List.append_assoc, List.set_append_left _ _ (by rw [u32s_len]; omega), u32s_set, List.set_append_right _ _ (by rw [u32s_len, List.length_set]; omega), u32s_len, List.length_set, hF, Nat.add_sub_cancel_left, List.set_append_left _ _ (by simp; omega), List.append_assoc, List.map_set]
set_option maxRecDepth 100000 in
set_option maxHeartbeats 1000000 in
theorem stands_t (b : Nat) (F : List Nat) (I : List Bool) (V W : Value) (t : Tm) (n w : Nat) (s : Bool) (Γ : List HP) (hF : F.length = 16) (hI : I.length = 16) (hN : t.n < 16) (hw : F[t.n]? = some w) (hs : I[t.n]? = some s) :
    FnV Try.prog 92 [.pointer (some ⟨b, 0, none⟩), .agg (tmC t).toArray, .int .u32 (n : Int)] (row b (heldC F I V W) 123 :: Γ)
      fun v Γ' => v = .bool (!s || decide (w = n)) ∧ Γ' = row b (heldC (F.set t.n n) (I.set t.n true) V W) 123 :: Γ := by
  refine Fn.enter Try.func92 rfl rfl rfl fun E => ?_
  obtain ⟨tv, N⟩ := t
  replace hN : N < 16 := hN
  replace hw : F[N]? = some w := hw
  replace hs : I[N]? = some s := hs
  refine m_run ?_
  (apply TL.box; exact rfl; exact rfl; (exact m_lst))
  intro b4
  refine TL.imp (Δ := row b4 [.bool tv, .int .u32 (N : Int)] 54 :: row b (heldC F I V W) 123 :: Γ) (fun _ h => h) ?_
  have h1 : has (row b4 [.bool tv, .int .u32 (N : Int)] 54 :: row b (heldC F I V W) 123 :: Γ) (fun m => cellAt m b N (.int .u32 (w : Int))) := has_row 1 rfl (heldC_few hw)
  have h2 : has (row b4 [.bool tv, .int .u32 (N : Int)] 54 :: row b (heldC F I V W) 123 :: Γ) (fun m => cellAt m b (16 + N) (.bool s)) := has_row 1 rfl (heldC_is hF hs)
  refine m_run ?_
  refine TK.drawS mixed rfl ?_
  refine m_take (At.mk : At 0) ?_; refine m_take (At.mk : At 1) ?_; refine m_take (At.mk : At 2) ?_; refine m_take (At.mk : At 3) ?_; refine m_take (At.mk : At 4) ?_; refine m_take (At.mk : At 5) ?_; refine m_take (At.mk : At 6) ?_; refine m_take (At.mk : At 7) ?_
  refine TA.done (by kernel_rfl) ?_
  refine m_run ?_
  refine TK.drawS mixed rfl ?_
  refine m_take (At.mk : At 0) ?_; refine m_take (At.mk : At 1) ?_; refine m_take (At.mk : At 2) ?_; refine m_take (At.mk : At 3) ?_; refine m_take (At.mk : At 4) ?_; refine m_take (At.mk : At 5) ?_; refine m_take (At.mk : At 6) ?_; refine m_take (At.mk : At 7) ?_
  refine TA.done (by kernel_rfl) ?_
  refine m_run ?_
  refine TK.drawE mixed rfl (row b4 [.bool tv, .int .u32 (N : Int)] 54 :: Γ) ?_
  have hent : ∀ H, Ent (row b4 [.bool tv, .int .u32 (N : Int)] 54 :: H :: Γ) (row b4 [.bool tv, .int .u32 (N : Int)] 54 :: Γ) := fun H => .cons (fun _ h => h) (.tail (.refl _))
  have hent0 := hent (row b (heldC F I V W) 123)
  refine m_take (At.mk : At 0) ?_; refine m_take (At.mk : At 1) ?_; refine m_take (At.mk : At 2) ?_; refine m_take (At.mk : At 3) ?_; refine m_take (At.mk : At 4) ?_; refine m_take (At.mk : At 5) ?_; refine m_take (At.mk : At 6) ?_; refine m_take (At.mk : At 7) ?_; refine m_take (At.mk : At 8) ?_; refine m_take (At.mk : At 9) ?_; refine m_take (At.mk : At 11) ?_; refine m_take (At.mk : At 12) ?_
  (apply TA.one 10; kernel_rfl; exact rfl)
  (apply TL.storeE 1 (l' := (heldC F I V W).set N (.int .u32 (n : Int))); exact rfl; exact rfl; exact rfl; exact rfl; exact tb rfl; exact rfl; exact (by rw [heldC_len hF hI]; omega); exact rfl; exact rfl)
  refine TL.back (hent _) ?_
  have hent1 := hent (row b ((heldC F I V W).set N (.int .u32 (n : Int))) 123)
  refine m_take (At.mk : At 13) ?_
  (apply TA.one 14; kernel_rfl; exact rfl)
  (apply TL.storeE 1 (l' := heldC (F.set N n) (I.set N true) V W); exact rfl; exact rfl; exact rfl; exact rfl; exact tb rfl; exact rfl; exact (by rw [List.length_set, heldC_len hF hI]; omega); exact heldC_set hF hI hN; exact rfl)
  refine TL.back (hent _) ?_
  refine TA.done (by kernel_rfl) ?_
  cases s with
  | false =>
    refine m_run ?_
    (apply TK.retS1; exact rfl; exact rfl; (exact m_val))
    · exact ⟨_, rfl, rfl, rfl⟩
    · (repeat (first | exact List.Sublist.refl _ | apply List.Sublist.cons_cons | apply List.Sublist.cons))
  | true =>
    refine m_run ?_
    (apply TK.retS1; exact rfl; exact rfl; (exact m_val))
    · exact ⟨_, rfl, congrArg Value.bool (by
        by_cases h : w = n
        · subst h; simp
        · have : (w : Int) ≠ (n : Int) := by omega
          simp [h, this]), rfl⟩
    · (repeat (first | exact List.Sublist.refl _ | apply List.Sublist.cons_cons | apply List.Sublist.cons))
/-! ### what matches -/
def matOk (l : List Tm) (m : List Nat) (i : Nat) : Bool := match l[i]?, m[i]? with
  | some x, some v => if x.v then (List.range i).all fun k => !decide (l[k]? = some x) || decide (m[k]? = some v) else decide (x.n = v)
  | _, _ => false
def matL (l : List Tm) (m : List Nat) : Bool := (List.range l.length).all (matOk l m)
def matA (a : Atm) (f : Fct) : Bool := decide (a.p = f.p) && (decide (a.l.length = f.l.length) && matL a.l f.l)
/-- What is known of the places ahead. -/
def heldOk (l : List Tm) (m : List Nat) (i : Nat) (F : List Nat) (I : List Bool) : Prop := F.length = 16 ∧ I.length = 16 ∧
  ∀ N, N < 16 → (I[N]? = some false → ∀ k, k < i → l[k]? ≠ some ⟨true, N⟩) ∧ (I[N]? = some true → ∃ k, k < i ∧ l[k]? = some ⟨true, N⟩ ∧ F[N]? = m[k]?)
theorem mat_same {l : List Tm} {m : List Nat} {i N : Nat} (hlm : l.length = m.length) (hc : ∀ p, p < i → matOk l m p = true) : ∀ k k', k < i → k' < i → k ≤ k' → l[k]? = some ⟨true, N⟩ → l[k']? = some ⟨true, N⟩ → m[k]? = m[k']? := by
  intro k k' hk hk' hle h1 h2
  rcases Nat.eq_or_lt_of_le hle with rfl | hlt
  · rfl
  · have h3 := hc k' hk'
    have hk'l : k' < m.length := by rw [← hlm]; exact (List.getElem?_eq_some_iff.1 h2).1
    unfold matOk at h3
    rw [h2, List.getElem?_eq_getElem hk'l] at h3
    simp only [if_pos, List.all_eq_true, List.mem_range, Bool.or_eq_true, Bool.not_eq_true', decide_eq_false_iff_not, decide_eq_true_eq] at h3
    rcases h3 k hlt with h4 | h4
    · exact absurd h1 h4
    · rw [h4, List.getElem?_eq_getElem hk'l]
theorem mat_var {l : List Tm} {m : List Nat} {i N v w : Nat} {s : Bool} {F : List Nat} {I : List Bool} (hlm : l.length = m.length) (hc : ∀ p, p < i → matOk l m p = true) (hh : heldOk l m i F I) (hN : N < 16) (hx : l[i]? = some ⟨true, N⟩) (hv : m[i]? = some v) (hw : F[N]? = some w) (hs : I[N]? = some s) :
    matOk l m i = (!s || decide (w = v)) ∧ (matOk l m i = true → heldOk l m (i + 1) (F.set N v) (I.set N true)) := by
  obtain ⟨hF, hI, hh⟩ := hh
  have hval : matOk l m i = (!s || decide (w = v)) := by
    unfold matOk
    rw [hx, hv]
    cases s with
    | false =>
      have := (hh N hN).1 hs
      simp only [if_pos, Bool.not_false, Bool.true_or]
      refine List.all_eq_true.2 fun k hk => ?_
      have := this k (List.mem_range.1 hk)
      simp [this]
    | true =>
      obtain ⟨k, hk, hlk, hFk⟩ := (hh N hN).2 hs
      rw [hw] at hFk
      simp only [if_pos, Bool.not_true, Bool.false_or]
      by_cases hwv : w = v
      · rw [decide_eq_true hwv]
        refine List.all_eq_true.2 fun k' hk' => ?_
        have hk' := List.mem_range.1 hk'
        by_cases h1 : l[k']? = some ⟨true, N⟩
        · have h2 : m[k']? = some v := by
            rcases Nat.le_total k k' with h | h
            · rw [← mat_same hlm hc k k' hk hk' h hlk h1, ← hFk, hwv]
            · rw [mat_same hlm hc k' k hk' hk h h1 hlk, ← hFk, hwv]
          simp [h2]
        · simp [h1]
      · rw [decide_eq_false hwv]
        refine List.all_eq_false.2 ⟨k, List.mem_range.2 hk, ?_⟩
        have : m[k]? ≠ some v := by
          rw [← hFk]
          simpa using hwv
        simp [hlk, this]
  refine ⟨hval, fun hok => ⟨by rw [List.length_set]; exact hF, by rw [List.length_set]; exact hI, fun M hM => ?_⟩⟩
  by_cases hMN : M = N
  · subst hMN
    rw [List.getElem?_set_self (by omega), List.getElem?_set_self (by omega)]
    exact ⟨fun h => (by cases h), fun _ => ⟨i, by omega, hx, hv.symm⟩⟩
  · rw [List.getElem?_set_ne (Ne.symm hMN), List.getElem?_set_ne (Ne.symm hMN)]
    refine ⟨fun h k hk => ?_, fun h => ?_⟩
    · rcases Nat.lt_or_ge k i with h1 | h1
      · exact (hh M hM).1 h k h1
      · have : k = i := by omega
        subst this
        rw [hx]
        intro e
        injection e with e
        injection e with _ e
        exact hMN e.symm
    · obtain ⟨k, hk, h1, h2⟩ := (hh M hM).2 h
      exact ⟨k, by omega, h1, h2⟩
theorem mat_const {l : List Tm} {m : List Nat} {i v : Nat} {x : Tm} {F : List Nat} {I : List Bool} (hh : heldOk l m i F I) (hx : l[i]? = some x) (hxv : x.v = false) (hv : m[i]? = some v) : matOk l m i = decide (x.n = v) ∧ heldOk l m (i + 1) F I := by
  refine ⟨by unfold matOk; rw [hx, hv]; simp [hxv], hh.1, hh.2.1, fun N hN => ⟨fun h k hk => ?_, fun h => ?_⟩⟩
  · rcases Nat.lt_or_ge k i with h1 | h1
    · exact (hh.2.2 N hN).1 h k h1
    · have : k = i := by omega
      subst this
      rw [hx]
      intro e
      injection e with e
      rw [e] at hxv
      cases hxv
  · obtain ⟨k, hk, h1, h2⟩ := (hh.2.2 N hN).2 h
    exact ⟨k, by omega, h1, h2⟩
theorem mat_bad {l : List Tm} {m : List Nat} {i : Nat} (hi : i < l.length) (h : matOk l m i = false) : matL l m = false := List.all_eq_false.2 ⟨i, List.mem_range.2 hi, by rw [h]; simp⟩
def zeroC : List Value := heldC (List.replicate 16 0) (List.replicate 16 false) (.slice none 0 0) (.slice none 0 0)
set_option maxRecDepth 100000 in
set_option maxHeartbeats 4000000 in
theorem match_t (a : Atm) (f : Fct) (Γ : List HP) (ha : a.ok Γ) (hf : f.ok Γ) (hn : a.l.length ≤ 1000000) (hsm : ∀ t ∈ a.l, t.v = true → t.n < 16) :
    FnV Try.prog 41 [.agg a.cells.toArray, .agg f.cells.toArray] Γ fun v Γ' => v = .bool (matA a f) ∧ Γ' = Γ := by
  refine Fn.enter Try.func41 rfl rfl rfl fun E => ?_
  obtain ⟨p, A, c, l⟩ := a
  obtain ⟨q, B, d, m⟩ := f
  have hs : has Γ (srcAt 2 A l.length (tmsC l)) := ha.1
  have ht : has Γ (srcAt 1 B m.length (u32s m)) := hf.1
  replace hn : l.length ≤ 1000000 := hn
  replace hsm : ∀ t ∈ l, t.v = true → t.n < 16 := hsm
  refine m_run ?_
  (apply TL.box; exact rfl; exact rfl; (exact m_lst))
  intro b2
  refine m_run ?_
  (apply TL.box; exact rfl; exact rfl; (exact m_lst))
  intro b3
  refine TL.imp (Δ := row b3 [.int .u32 (q : Int), .slice B m.length d] 26 :: row b2 [.int .u32 (p : Int), .slice A l.length c] 42 :: Γ) (fun _ h => h) ?_
  by_cases hpq : p = q
  · by_cases hlm : l.length = m.length
    · refine m_run ?_
      (apply TL.alloc; exact rfl; exact tb rfl; exact (by kernel_rfl : _ = zeroC))
      intro b5
      refine m_run ?_
      refine TK.sub (Δ := row b5 zeroC 123 :: row b3 [.int .u32 (q : Int), .slice B m.length d] 26 :: Γ) (by (repeat (first | exact List.Sublist.refl _ | apply List.Sublist.cons_cons | apply List.Sublist.cons))) ?_
      apply TK.iter (fun j ρ' Γ' => ∃ (i : Nat) (F : List Nat) (I : List Bool), i + j = l.length ∧ (∀ p, p < i → matOk l m p = true) ∧ heldOk l m i F I ∧ lk ρ' 3 = .pointer (some ⟨b3, 0, none⟩) ∧ lk ρ' 5 = .pointer (some ⟨b5, 0, none⟩) ∧ lk ρ' 24 = .slice A l.length c ∧ lk ρ' 25 = .int .i64 (l.length : Int) ∧ lk ρ' 26 = .int .i64 (i : Int) ∧ Γ' = row b5 (heldC F I (.slice none 0 0) (.slice none 0 0)) 123 :: row b3 [.int .u32 (q : Int), .slice B m.length d] 26 :: Γ) l.length
      · refine ⟨0, List.replicate 16 0, List.replicate 16 false, Nat.zero_add _, fun p h => absurd h (Nat.not_lt_zero p), ⟨rfl, rfl, fun N hN => ⟨fun _ k h => absurd h (Nat.not_lt_zero k), fun h => ?_⟩⟩, rfl, rfl, rfl, rfl, rfl, rfl⟩
        rw [List.getElem?_replicate, if_pos hN] at h
        cases h
      rintro j IH ρ' _ ⟨i, F, I, hij, hok, hh, e3, e5, e24, e25, e26, rfl⟩
      refine TK.know5 e3 e5 e24 e25 e26 ?_
      by_cases hi : i < l.length
      · obtain ⟨x, hx⟩ : ∃ x, l[i]? = some x := ⟨l[i], List.getElem?_eq_getElem hi⟩
        obtain ⟨v, hv⟩ : ∃ v, m[i]? = some v := ⟨m[i], List.getElem?_eq_getElem (by omega)⟩
        refine TK.mem fun m0 hm0 => ?_
        obtain ⟨b, o, rfl⟩ := src_some (has_tls (has_tls hs) m0 hm0) (by rw [tmsC_len]; omega)
        obtain ⟨b', o', rfl⟩ := src_some (has_tls (has_tls ht) m0 hm0) (by rw [u32s_len]; omega)
        clear hm0 m0
        have hel := has_el (f := tmC) (fun _ => rfl) (by decide) hs hx
        have hfv := has_u32 ht hv
        refine m_run ?_
        (apply TL.alloc; exact rfl; exact tb rfl; exact (rfl : _ = [_, _]))
        intro b7
        refine m_run ?_
        refine TK.imp (Δ := row b7 (tmC x) 54 :: row b5 (heldC F I (.slice none 0 0) (.slice none 0 0)) 123 :: row b3 [.int .u32 (q : Int), .slice (some ⟨b', o', none⟩) m.length d] 26 :: Γ) (fun _ h => h) ?_
        refine TK.drawS mixed rfl ?_
        refine m_take (At.mk : At 0) ?_; refine m_take (At.mk : At 1) ?_; refine m_take (At.mk : At 2) ?_; refine m_take (At.mk : At 3) ?_; refine m_take (At.mk : At 4) ?_; refine m_take (At.mk : At 5) ?_
        (apply TA.one 6; kernel_rfl; exact rfl)
        (apply TL.callV; exact rfl; exact callB_of (by kernel_rfl); exact rfl; exact fun _ h => h)
        exact kind_t x v _
        rintro _ _ ⟨rfl, rfl⟩
        refine TL.back (by (focus ((repeat (first | assumption | exact Ent.refl _ | apply Ent.tail)); done))) ?_
        refine TA.done (by kernel_rfl) ?_
        cases hxv : x.v with
        | true =>
          have hk : kindT x v = 2 := by simp [kindT, hxv]
          rw [hk]
          have hN := hsm x (List.mem_of_getElem? hx) hxv
          obtain ⟨hF, hI, _⟩ := id hh
          obtain ⟨w, hw⟩ : ∃ w, F[x.n]? = some w := ⟨F[x.n], List.getElem?_eq_getElem (by omega)⟩
          obtain ⟨s, hsI⟩ : ∃ s, I[x.n]? = some s := ⟨I[x.n], List.getElem?_eq_getElem (by omega)⟩
          have hxe : x = ⟨true, x.n⟩ := by rw [← hxv]
          obtain ⟨hmv, hnext⟩ := mat_var (N := x.n) hlm hok hh hN (by rw [hx, ← hxe]) hv hw hsI
          refine m_run ?_
          refine TK.drawE mixed rfl (row b7 (tmC x) 54 :: row b3 [.int .u32 (q : Int), .slice (some ⟨b', o', none⟩) m.length d] 26 :: Γ) ?_
          have hent : Ent (row b7 (tmC x) 54 :: row b5 (heldC F I (.slice none 0 0) (.slice none 0 0)) 123 :: row b3 [.int .u32 (q : Int), .slice (some ⟨b', o', none⟩) m.length d] 26 :: Γ) (row b7 (tmC x) 54 :: row b3 [.int .u32 (q : Int), .slice (some ⟨b', o', none⟩) m.length d] 26 :: Γ) := .cons (fun _ h => h) (.tail (.refl _))
          refine m_take (At.mk : At 0) ?_; refine m_take (At.mk : At 1) ?_; refine m_take (At.mk : At 2) ?_; refine m_take (At.mk : At 3) ?_; refine m_take (At.mk : At 4) ?_; refine m_take (At.mk : At 5) ?_
          (apply TA.one 6; kernel_rfl; exact rfl)
          (apply TL.callV (Δ := row b5 (heldC F I (.slice none 0 0) (.slice none 0 0)) 123 :: row b7 (tmC x) 54 :: row b3 [.int .u32 (q : Int), .slice (some ⟨b', o', none⟩) m.length d] 26 :: Γ); exact rfl; exact callB_of (by kernel_rfl); exact rfl; exact fun _ h => all_perm (List.Perm.swap _ _ _) h)
          exact stands_t b5 F I _ _ x v w s _ hF hI hN hw hsI
          rintro _ _ ⟨rfl, rfl⟩
          rw [← hmv]
          refine TL.back (by (focus ((repeat (first | assumption | exact Ent.refl _ | apply Ent.tail)); done))) ?_
          refine m_take (At.mk : At 7) ?_
          refine TA.done (by kernel_rfl) ?_
          cases hmo : matOk l m i with
          | true =>
            have hh2 := hnext hmo
            refine m_run ?_
            refine TK.sub (Δ := row b5 (heldC (F.set x.n v) (I.set x.n true) (.slice none 0 0) (.slice none 0 0)) 123 :: row b3 [.int .u32 (q : Int), .slice (some ⟨b', o', none⟩) m.length d] 26 :: Γ) (by (repeat (first | exact List.Sublist.refl _ | apply List.Sublist.cons_cons | apply List.Sublist.cons))) ?_
            refine IH (j - 1) _ _ (by omega) ⟨i + 1, F.set x.n v, I.set x.n true, by omega, fun p hp => ?_, hh2, rfl, rfl, rfl, rfl, congrArg (Value.int .i64) (i64_succ i (by omega)), rfl⟩
            rcases Nat.lt_or_ge p i with h1 | h1
            · exact hok p h1
            · rw [show p = i by omega]; exact hmo
          | false =>
            have hbad := mat_bad hi hmo
            refine m_run ?_
            (apply TK.retS1; exact rfl; exact rfl; (exact m_val))
            · exact ⟨_, rfl, congrArg Value.bool (by simp [matA, hbad]), rfl⟩
            · (repeat (first | exact List.Sublist.refl _ | apply List.Sublist.cons_cons | apply List.Sublist.cons))
        | false =>
          obtain ⟨hmc, hh2⟩ := mat_const hh hx hxv hv
          by_cases hnv : x.n = v
          · have hk : kindT x v = 1 := by simp [kindT, hxv, hnv]
            rw [hk]
            rw [decide_eq_true hnv] at hmc
            refine m_run ?_
            refine TK.sub (Δ := row b5 (heldC F I (.slice none 0 0) (.slice none 0 0)) 123 :: row b3 [.int .u32 (q : Int), .slice (some ⟨b', o', none⟩) m.length d] 26 :: Γ) (by (repeat (first | exact List.Sublist.refl _ | apply List.Sublist.cons_cons | apply List.Sublist.cons))) ?_
            refine IH (j - 1) _ _ (by omega) ⟨i + 1, F, I, by omega, fun p hp => ?_, hh2, rfl, rfl, rfl, rfl, congrArg (Value.int .i64) (i64_succ i (by omega)), rfl⟩
            rcases Nat.lt_or_ge p i with h1 | h1
            · exact hok p h1
            · rw [show p = i by omega]; exact hmc
          · have hk : kindT x v = 0 := by simp [kindT, hxv, hnv]
            rw [hk]
            rw [decide_eq_false hnv] at hmc
            have hbad := mat_bad hi hmc
            refine m_run ?_
            (apply TK.retS1; exact rfl; exact rfl; (exact m_val))
            · exact ⟨_, rfl, congrArg Value.bool (by simp [matA, hbad]), rfl⟩
            · (repeat (first | exact List.Sublist.refl _ | apply List.Sublist.cons_cons | apply List.Sublist.cons))
      obtain rfl : i = l.length := by omega
      have hall : matL l m = true := List.all_eq_true.2 fun k hk => hok k (List.mem_range.1 hk)
      refine m_run ?_
      (apply TK.retS1; exact rfl; exact rfl; (exact m_val))
      · exact ⟨_, rfl, congrArg Value.bool (by simp [matA, hpq, hlm, hall]), rfl⟩
      · (repeat (first | exact List.Sublist.refl _ | apply List.Sublist.cons_cons | apply List.Sublist.cons))
    · refine m_run ?_
      (apply TK.retS1; exact rfl; exact rfl; (exact m_val))
      · exact ⟨_, rfl, congrArg Value.bool (by simp [matA, hlm]), rfl⟩
      · (repeat (first | exact List.Sublist.refl _ | apply List.Sublist.cons_cons | apply List.Sublist.cons))
  · refine m_run ?_
    (apply TK.retS1; exact rfl; exact rfl; (exact m_val))
    · exact ⟨_, rfl, congrArg Value.bool (by simp [matA, hpq]), rfl⟩
    · (repeat (first | exact List.Sublist.refl _ | apply List.Sublist.cons_cons | apply List.Sublist.cons))
end Go.Proofs.Ytokggdgagfmacaa.E
