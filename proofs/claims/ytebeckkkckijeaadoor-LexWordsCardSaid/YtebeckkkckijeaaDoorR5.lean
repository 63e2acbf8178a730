/- The reader of package lex: next, walked. -/
import Derived.Test.YtebeckkkckijeaaDoorR4
namespace Go.Proofs.YtebeckkkckijeaaDoor.E
open Go Go.RowKit Go.Proofs
attribute [local irreducible] TK TL TQ TA Fn PV
/-- What next answers, where c stands ahead of s. -/
def NextR (b : Nat) (text : List UInt8) (p : Nat) (A : Option Addr) (cap : Nat) (l : List Wrd) (Γ : List HP) (c : UInt8) (s : List UInt8) (v : Value) (Γ' : List HP) : Prop :=
  (c = 37 ∧ v = .bool true ∧ Γ' = rdR b text (p + (s.length + 1 - (skipC s).length)) (.slice A l.length cap) :: ownW (.slice A l.length cap) l :: Γ) ∨
  (c ≠ 37 ∧ isB c = true ∧ v = .bool true ∧ Γ' = rdR b text (p + 1) (.slice A l.length cap) :: ownW (.slice A l.length cap) l :: Γ) ∨
  (c ≠ 37 ∧ isB c = false ∧ ∃ k n, tok (c :: s) = some (k, n) ∧ v = .bool true ∧ ∃ A' c', (l ++ [nw k text p n]).length ≤ c' ∧ Γ' = rdR b text (p + n) (.slice A' (l ++ [nw k text p n]).length c') :: ownW (.slice A' (l ++ [nw k text p n]).length c') (l ++ [nw k text p n]) :: Γ) ∨
  (c ≠ 37 ∧ isB c = false ∧ tok (c :: s) = none ∧ v = .bool false ∧ Γ' = rdR b text p (.slice A l.length cap) :: ownW (.slice A l.length cap) l :: Γ)
theorem idx_skip (s : List UInt8) : (idxI (37 :: s) = -1 ∧ s.length + 1 - (skipC s).length = s.length + 1) ∨ ∃ k, idxI (37 :: s) = ((k + 1 : Nat) : Int) ∧ k < s.length ∧ s.length + 1 - (skipC s).length = k + 2 := by
  have h := nlI_skip s
  have e : nlI (37 :: s) = (nlI s).map (· + 1) := rfl
  unfold idxI
  rw [e]
  cases hn : nlI s with
  | none =>
    rw [hn] at h
    exact .inl ⟨rfl, by rw [h.1]; rfl⟩
  | some k =>
    rw [hn] at h
    refine .inr ⟨k, rfl, h.1, ?_⟩
    rw [h.2, List.length_drop]; omega
theorem u8_ne {c : UInt8} {n : Nat} (h : c ≠ UInt8.ofNat n) : c.toNat ≠ n := fun e => h (by rw [← e]; simp)
set_option maxRecDepth 100000 in
set_option maxHeartbeats 4000000 in
theorem next_t (b : Nat) (text : List UInt8) (p : Nat) (A : Option Addr) (cap : Nat) (l : List Wrd) (Γ : List HP) (c : UInt8) (s : List UInt8) (hs : text.drop p = c :: s) (hp : p < text.length) (ht : text.length ≤ 1000000) (hl : l.length ≤ 1000000) (hc : l.length ≤ cap) (hM : gMeans Γ) (hK : gMarks Γ) :
    FnV Tryd.prog 14 [.pointer (some ⟨b, 0, none⟩)] (rdR b text p (.slice A l.length cap) :: ownW (.slice A l.length cap) l :: Γ) (NextR b text p A cap l Γ c s) := by
  refine Fn.enter Tryd.func14 rfl rfl rfl fun E => ?_
  have hget : text[p]? = some c := by
    have := congrArg (fun x => x[0]?) hs
    simpa using this
  have hsl : text.length = p + (s.length + 1) := by
    have := congrArg List.length hs
    rw [List.length_drop, List.length_cons] at this; omega
  refine m_run ?_
  refine TK.drawS mixed rfl ?_
  refine m_take (At.mk : At 0) ?_; refine m_take (At.mk : At 1) ?_; refine m_take (At.mk : At 2) ?_; refine m_take (At.mk : At 3) ?_; refine m_take (At.mk : At 4) ?_; refine m_take (At.mk : At 5) ?_; refine m_take (At.mk : At 6) ?_; refine m_take (At.mk : At 7) ?_; refine m_take (At.mk : At 8) ?_; refine m_take (At.mk : At 9) ?_
  refine TA.done (by kernel_rfl) ?_
  by_cases h37 : c = 37
  · subst h37
    refine m_run ?_
    refine TK.drawS mixed rfl ?_
    refine m_take (At.mk : At 0) ?_; refine m_take (At.mk : At 1) ?_; refine m_take (At.mk : At 2) ?_; refine m_take (At.mk : At 3) ?_; refine m_take (At.mk : At 4) ?_; refine m_take (At.mk : At 5) ?_; refine m_take (At.mk : At 6) ?_; refine m_take (At.mk : At 7) ?_
    (apply TA.takeA (At.mk : At 8); exact rfl; exact rfl; kernel_rfl; ((focus ((repeat (first | assumption | exact Ent.refl _ | apply Ent.tail)); done))); (apply PV.sliceStr (i := p) (j := text.length) (l := text); exact rfl; exact tb rfl; exact rfl; exact .some rfl; exact .none; exact (by omega); exact Nat.le_refl _))
    refine TA.know (t := 37) (v := .string (S (37 :: s))) (congrArg (fun z => Value.string (S z)) (by rw [List.take_of_length_le (by rw [List.length_drop]; exact Nat.le_refl _)]; exact hs)) ?_
    (apply TA.one 9; kernel_rfl; exact rfl)
    (apply TL.callV; exact rfl; exact callB_of (by kernel_rfl); exact rfl; exact fun _ h => h)
    exact indexByte_t _ _
    rintro _ _ ⟨rfl, rfl⟩
    refine TL.back (by (focus ((repeat (first | assumption | exact Ent.refl _ | apply Ent.tail)); done))) ?_
    refine m_take (At.mk : At 10) ?_
    refine TA.done (by kernel_rfl) ?_
    rcases idx_skip s with ⟨h1, h2⟩ | ⟨k, h1, h3, h2⟩
    · rw [h1]
      refine m_run ?_
      refine TK.imp (Δ := row b [.string (S text), .int .i64 (IntKind.i64.wrap (IntKind.i64.wrap ((text.length : Int) - 1) + 1)), .slice A l.length cap] 44 :: ownW (.slice A l.length cap) l :: Γ) (fun _ h => h) ?_
      rw [show IntKind.i64.wrap (IntKind.i64.wrap ((text.length : Int) - 1) + 1) = ((p + (s.length + 1) : Nat) : Int) from by rw [i64_in (x := (text.length : Int) - 1) (by omega) (by omega), i64_in (by omega) (by omega)]; omega]
      (apply TK.ret1; exact rfl; exact rfl; (exact m_val))
      refine ⟨_, rfl, .inl ⟨rfl, rfl, ?_⟩⟩
      rw [h2]
    · rw [h1]
      refine m_run ?_
      refine TK.imp (Δ := row b [.string (S text), .int .i64 (IntKind.i64.wrap (IntKind.i64.wrap ((p : Int) + ((k + 1 : Nat) : Int)) + 1)), .slice A l.length cap] 44 :: ownW (.slice A l.length cap) l :: Γ) (fun _ h => h) ?_
      rw [show IntKind.i64.wrap (IntKind.i64.wrap ((p : Int) + ((k + 1 : Nat) : Int)) + 1) = ((p + (k + 2) : Nat) : Int) from by rw [i64_in (x := (p : Int) + ((k + 1 : Nat) : Int)) (by omega) (by omega), i64_in (by omega) (by omega)]; omega]
      (apply TK.ret1; exact rfl; exact rfl; (exact m_val))
      refine ⟨_, rfl, .inl ⟨rfl, rfl, ?_⟩⟩
      rw [h2]
  have n37 := u8_ne (n := 37) h37
  cases hb : isB c with
  | true =>
    have hb0 := hb
    simp only [isB, Bool.or_eq_true, beq_iff_eq] at hb
    rcases hb with ((rfl | rfl) | rfl) | rfl
    all_goals
      refine m_run ?_
      refine TK.imp (Δ := row b [.string (S text), .int .i64 (IntKind.i64.wrap ((p : Int) + 1)), .slice A l.length cap] 44 :: ownW (.slice A l.length cap) l :: Γ) (fun _ h => h) ?_
      rw [show IntKind.i64.wrap ((p : Int) + 1) = ((p + 1 : Nat) : Int) from by rw [i64_in (by omega) (by omega)]; omega]
      (apply TK.ret1; exact rfl; exact rfl; (exact m_val))
      exact ⟨_, rfl, .inr (.inl ⟨h37, hb0, rfl, rfl⟩)⟩
  | false =>
  have hb0 := hb
  simp only [isB, Bool.or_eq_false_iff, beq_eq_false_iff_ne] at hb
  obtain ⟨⟨⟨n32, n9⟩, n10⟩, n13⟩ := hb
  replace n32 := u8_ne (n := 32) n32
  replace n9 := u8_ne (n := 9) n9
  replace n10 := u8_ne (n := 10) n10
  replace n13 := u8_ne (n := 13) n13
  obtain ⟨bm, hm1, hm2⟩ := gMarks_tail (H := rdR b text p (.slice A l.length cap)) (gMarks_tail (H := ownW (.slice A l.length cap) l) hK)
  by_cases hmark : c = 40 ∨ c = 41 ∨ c = 44 ∨ c = 46
  · rcases hmark with rfl | rfl | rfl | rfl
    · have hlk := hm2 40 5 rfl
      refine m_run ?_
      (apply TL.pv; exact rfl; (apply PV.lookH; exact rfl; exact rfl; exact hlk))
      refine m_run ?_
      (apply TL.callV; exact rfl; exact callB_of (by kernel_rfl); exact rfl; exact fun _ h => h)
      exact word_t b text p 1 5 A cap l Γ (by omega) ht hl hc
      rintro _ _ (⟨h0, _⟩ | ⟨_, rfl, A', c', hc', rfl⟩)
      · omega
      · refine m_run ?_
        (apply TK.ret1; exact rfl; exact rfl; (exact m_val))
        exact ⟨_, rfl, .inr (.inr (.inl ⟨h37, hb0, 5, 1, rfl, rfl, A', c', hc', rfl⟩))⟩
    · have hlk := hm2 41 6 rfl
      refine m_run ?_
      (apply TL.pv; exact rfl; (apply PV.lookH; exact rfl; exact rfl; exact hlk))
      refine m_run ?_
      (apply TL.callV; exact rfl; exact callB_of (by kernel_rfl); exact rfl; exact fun _ h => h)
      exact word_t b text p 1 6 A cap l Γ (by omega) ht hl hc
      rintro _ _ (⟨h0, _⟩ | ⟨_, rfl, A', c', hc', rfl⟩)
      · omega
      · refine m_run ?_
        (apply TK.ret1; exact rfl; exact rfl; (exact m_val))
        exact ⟨_, rfl, .inr (.inr (.inl ⟨h37, hb0, 6, 1, rfl, rfl, A', c', hc', rfl⟩))⟩
    · have hlk := hm2 44 7 rfl
      refine m_run ?_
      (apply TL.pv; exact rfl; (apply PV.lookH; exact rfl; exact rfl; exact hlk))
      refine m_run ?_
      (apply TL.callV; exact rfl; exact callB_of (by kernel_rfl); exact rfl; exact fun _ h => h)
      exact word_t b text p 1 7 A cap l Γ (by omega) ht hl hc
      rintro _ _ (⟨h0, _⟩ | ⟨_, rfl, A', c', hc', rfl⟩)
      · omega
      · refine m_run ?_
        (apply TK.ret1; exact rfl; exact rfl; (exact m_val))
        exact ⟨_, rfl, .inr (.inr (.inl ⟨h37, hb0, 7, 1, rfl, rfl, A', c', hc', rfl⟩))⟩
    · have hlk := hm2 46 8 rfl
      refine m_run ?_
      (apply TL.pv; exact rfl; (apply PV.lookH; exact rfl; exact rfl; exact hlk))
      refine m_run ?_
      (apply TL.callV; exact rfl; exact callB_of (by kernel_rfl); exact rfl; exact fun _ h => h)
      exact word_t b text p 1 8 A cap l Γ (by omega) ht hl hc
      rintro _ _ (⟨h0, _⟩ | ⟨_, rfl, A', c', hc', rfl⟩)
      · omega
      · refine m_run ?_
        (apply TK.ret1; exact rfl; exact rfl; (exact m_val))
        exact ⟨_, rfl, .inr (.inr (.inl ⟨h37, hb0, 8, 1, rfl, rfl, A', c', hc', rfl⟩))⟩
  simp only [not_or] at hmark
  obtain ⟨m40, m41, m44, m46⟩ := hmark
  have hmk : markK c = none := by unfold markK; rw [if_neg m40, if_neg m41, if_neg m44, if_neg m46]
  replace m40 := u8_ne (n := 40) m40
  replace m41 := u8_ne (n := 41) m41
  replace m44 := u8_ne (n := 44) m44
  replace m46 := u8_ne (n := 46) m46
  by_cases h58 : c = 58
  · subst h58
    have htok : tok (58 :: s) = if s.head? = some 45 then some (9, 2) else none := by simp [tok, hmk]
    refine m_run ?_
    refine TK.drawE mixed rfl ((fun m => cellAt m b 0 (.string (S text))) :: Γ) ?_
    have g0 : has ((fun m => cellAt m b 0 (.string (S text))) :: Γ) (fun m => cellAt m b 0 (.string (S text))) := has_at (up_cell _ _ _) 0 rfl fun _ h => h
    have hent : ∀ q V H, Ent (rdR b text q V :: H :: Γ) ((fun m => cellAt m b 0 (.string (S text))) :: Γ) := fun q V H => .cons (fun m h => row_cellR h rfl) (.tail (.refl _))
    have hent0 := hent p (.slice A l.length cap) (ownW (.slice A l.length cap) l)
    refine m_take (At.mk : At 0) ?_; refine m_take (At.mk : At 1) ?_; refine m_take (At.mk : At 2) ?_; refine m_take (At.mk : At 3) ?_; refine m_take (At.mk : At 4) ?_; refine m_take (At.mk : At 5) ?_; refine m_take (At.mk : At 6) ?_
    (apply TA.one 7; kernel_rfl; exact rfl)
    refine m_rrun ?_
    refine TL.back hent0 ?_
    (apply TA.takeA (At.mk : At 8); exact rfl; exact rfl; kernel_rfl; ((focus ((repeat (first | assumption | exact Ent.refl _ | apply Ent.tail)); done))); (apply PV.sliceStr (i := p) (j := text.length) (l := text); exact rfl; exact tb rfl; exact rfl; exact .some rfl; exact .none; exact (by omega); exact Nat.le_refl _))
    refine TA.know (t := 78) (v := .string (S (58 :: s))) (congrArg (fun z => Value.string (S z)) (by rw [List.take_of_length_le (by rw [List.length_drop]; exact Nat.le_refl _)]; exact hs)) ?_
    (apply TA.one 9; kernel_rfl; exact rfl)
    (apply TL.callV; exact rfl; exact callB_of (by kernel_rfl); exact rfl; exact fun _ h => h)
    exact hasPrefix_t _ _
    rintro _ _ ⟨rfl, rfl⟩
    refine TL.back (by (focus ((repeat (first | assumption | exact Ent.refl _ | apply Ent.tail)); done))) ?_
    by_cases h45 : s.head? = some 45
    · rw [if_pos h45] at htok
      have hs1 : 1 ≤ s.length := by
        cases s with
        | nil => simp at h45
        | cons d s => simp
      refine m_take (At.mk : At 10) ?_
      refine TA.isT 80 rfl (decide_eq_true ⟨rfl, h45⟩) ?_
      refine m_take (At.mk : At 11) ?_
      (apply TA.one 12; kernel_rfl; exact rfl)
      refine m_rrun ?_
      (apply TL.callV; exact rfl; exact callB_of (by kernel_rfl); exact rfl; exact fun _ h => h)
      exact word_t b text p 2 9 A cap l Γ (by omega) ht hl hc
      rintro _ _ (⟨h0, _⟩ | ⟨_, rfl, A', c', hc', rfl⟩)
      · omega
      · have hent1 := hent (p + 2) (.slice A' (l ++ [nw 9 text p 2]).length c') (ownW (.slice A' (l ++ [nw 9 text p 2]).length c') (l ++ [nw 9 text p 2]))
        refine TL.back hent1 ?_
        refine m_take (At.mk : At 13) ?_; refine m_take (At.mk : At 14) ?_
        refine TA.done (by kernel_rfl) ?_
        refine m_run ?_
        (apply TK.ret1; exact rfl; exact rfl; (exact m_val))
        exact ⟨_, rfl, .inr (.inr (.inl ⟨h37, hb0, 9, 2, htok, rfl, A', c', hc', rfl⟩))⟩
    · rw [if_neg h45] at htok
      refine m_take (At.mk : At 10) ?_
      refine TA.isF 80 rfl (decide_eq_false (fun h => h45 h.2)) ?_
      refine m_take (At.mk : At 11) ?_; refine m_take (At.mk : At 12) ?_; refine m_take (At.mk : At 13) ?_; refine m_take (At.mk : At 14) ?_
      refine TA.done (by kernel_rfl) ?_
      refine m_run ?_
      (apply TK.ret1; exact rfl; exact rfl; (exact m_val))
      exact ⟨_, rfl, .inr (.inr (.inr ⟨h37, hb0, htok, rfl, rfl⟩))⟩
  have n58 := u8_ne (n := 58) h58
  have htok : tok (c :: s) = if ((c :: s).takeWhile isL).length = 0 ∨ 32 < ((c :: s).takeWhile isL).length then none else some (kindW ((c :: s).takeWhile isL), ((c :: s).takeWhile isL).length) := by simp only [tok, hmk, if_neg h58]
  refine m_run ?_
  (apply TL.callV; exact rfl; exact callB_of (by kernel_rfl); exact rfl; exact fun _ h => h)
  exact named_t b text p A cap l Γ (by omega) ht hl hc hM
  rw [hs]
  rintro _ _ (⟨h0, rfl, rfl⟩ | ⟨h0, rfl, A', c', hc', rfl⟩)
  · rw [if_pos h0] at htok
    refine m_run ?_
    (apply TK.ret1; exact rfl; exact rfl; (exact m_val))
    exact ⟨_, rfl, .inr (.inr (.inr ⟨h37, hb0, htok, rfl, rfl⟩))⟩
  · rw [if_neg h0] at htok
    refine m_run ?_
    (apply TK.ret1; exact rfl; exact rfl; (exact m_val))
    exact ⟨_, rfl, .inr (.inr (.inl ⟨h37, hb0, _, _, htok, rfl, A', c', hc', rfl⟩))⟩
end Go.Proofs.YtebeckkkckijeaaDoor.E
