/- The reader of package lex: named, walked. -/
import Derived.Test.YtebeckkkckijeaaDoorR3
import Derived.Test.YtebeckkkckijeaaDoorL2
namespace Go.Proofs.YtebeckkkckijeaaDoor.E
open Go Go.RowKit Go.Proofs
attribute [local irreducible] TK TL TQ TA Fn PV
def meanK (s : List UInt8) : Nat := if s = [110, 111, 116] then 3 else if s = [115, 97, 121, 115] then 4 else 0
def meanB (s : List UInt8) : Bool := if s = [110, 111, 116] then true else if s = [115, 97, 121, 115] then true else false
/-- What stands in the two maps. -/
def gMeans (Γ : List HP) : Prop := ∃ bn, has Γ (fun m => cellAt m 1 0 (.map (some bn))) ∧ ∀ s : List UInt8, s.length ≤ 64 → lookHas 65 bn (.string (S s)) true (.tuple #[.int .u8 (meanK s : Int), .bool (meanB s)]) Γ
def gMarks (Γ : List HP) : Prop := ∃ bm, has Γ (fun m => cellAt m 0 0 (.map (some bm))) ∧ ∀ (c : UInt8) (k : Nat), markK c = some k → lookHas 53 bm (.int .u8 (c.toNat : Int)) false (.int .u8 (k : Int)) Γ
theorem gMeans_tail {Γ : List HP} {H : HP} (h : gMeans Γ) : gMeans (H :: Γ) := by
  obtain ⟨b, h1, h2⟩ := h
  exact ⟨b, has_tlc h1, fun s hs => lookHas_tail (h2 s hs)⟩
theorem gMarks_tail {Γ : List HP} {H : HP} (h : gMarks Γ) : gMarks (H :: Γ) := by
  obtain ⟨b, h1, h2⟩ := h
  exact ⟨b, has_tlc h1, fun c k hk => lookHas_tail (h2 c k hk)⟩
theorem kindW_up {c : UInt8} {r : List UInt8} (h : meanB (c :: r) = false) : kindW (c :: r) = if 65 ≤ c.toNat ∧ c.toNat ≤ 90 then 2 else 1 := by
  unfold meanB at h
  unfold kindW
  split at h
  · cases h
  · rename_i h1
    split at h
    · cases h
    · rename_i h2
      rw [if_neg h1, if_neg h2]
      have e : (decide (65 ≤ c) && decide (c ≤ 90)) = true ↔ (65 ≤ c.toNat ∧ c.toNat ≤ 90) := by
        simp only [Bool.and_eq_true, decide_eq_true_eq]
        rw [UInt8.le_iff_toNat_le, UInt8.le_iff_toNat_le]
        rfl
      by_cases hc : 65 ≤ c.toNat ∧ c.toNat ≤ 90
      · rw [if_pos hc]; simp only [e.2 hc, if_true]
      · rw [if_neg hc]
        have : (decide (65 ≤ c) && decide (c ≤ 90)) = false := by
          rw [← Bool.not_eq_true]; exact fun h => hc (e.1 h)
        simp only [this]; rfl
theorem kindW_mean {w : List UInt8} (h : meanB w = true) : kindW w = meanK w := by
  unfold meanB at h
  unfold kindW meanK
  split at h
  · rename_i h1; rw [if_pos h1, if_pos h1]
  · rename_i h1
    split at h
    · rename_i h2; rw [if_neg h1, if_neg h1, if_pos h2, if_pos h2]
    · cases h
set_option maxRecDepth 100000 in
set_option maxHeartbeats 1000000 in
theorem named_t (b : Nat) (text : List UInt8) (p : Nat) (A : Option Addr) (c : Nat) (l : List Wrd) (Γ : List HP) (hp : p ≤ text.length) (ht : text.length ≤ 1000000) (hl : l.length ≤ 1000000) (hc : l.length ≤ c) (hM : gMeans Γ) :
    FnV Tryd.prog 23 [.pointer (some ⟨b, 0, none⟩)] (rdR b text p (.slice A l.length c) :: ownW (.slice A l.length c) l :: Γ) fun v Γ' =>
      ((((text.drop p).takeWhile isL).length = 0 ∨ 32 < ((text.drop p).takeWhile isL).length) ∧ v = .bool false ∧ Γ' = rdR b text p (.slice A l.length c) :: ownW (.slice A l.length c) l :: Γ) ∨
      (¬ (((text.drop p).takeWhile isL).length = 0 ∨ 32 < ((text.drop p).takeWhile isL).length) ∧ v = .bool true ∧ ∃ A' c', (l ++ [nw (kindW ((text.drop p).takeWhile isL)) text p ((text.drop p).takeWhile isL).length]).length ≤ c' ∧
        Γ' = rdR b text (p + ((text.drop p).takeWhile isL).length) (.slice A' (l ++ [nw (kindW ((text.drop p).takeWhile isL)) text p ((text.drop p).takeWhile isL).length]).length c') :: ownW (.slice A' (l ++ [nw (kindW ((text.drop p).takeWhile isL)) text p ((text.drop p).takeWhile isL).length]).length c') (l ++ [nw (kindW ((text.drop p).takeWhile isL)) text p ((text.drop p).takeWhile isL).length]) :: Γ) := by
  refine Fn.enter Tryd.func23 rfl rfl rfl fun E => ?_
  have htl := takeW_len isL (text.drop p)
  have htk := takeW_take isL (text.drop p)
  rw [List.length_drop] at htl
  obtain ⟨w, hw⟩ : ∃ w, (text.drop p).takeWhile isL = w := ⟨_, rfl⟩
  refine m_run ?_
  (apply TL.callV; exact rfl; exact callB_of (by kernel_rfl); exact rfl; exact fun _ h => h)
  exact letters_t b text p _ _ hp ht
  rintro _ _ ⟨rfl, rfl⟩
  rw [hw] at htl htk ⊢
  by_cases h32 : 32 < w.length
  · refine m_run ?_
    (apply TK.ret1; exact rfl; exact rfl; (exact m_val))
    exact ⟨_, rfl, .inl ⟨.inr h32, rfl, rfl⟩⟩
  refine m_run ?_
  refine TK.drawS mixed rfl ?_
  refine m_take (At.mk : At 0) ?_; refine m_take (At.mk : At 1) ?_; refine m_take (At.mk : At 2) ?_; refine m_take (At.mk : At 3) ?_; refine m_take (At.mk : At 4) ?_; refine m_take (At.mk : At 5) ?_; refine m_take (At.mk : At 6) ?_; refine m_take (At.mk : At 7) ?_; refine m_take (At.mk : At 8) ?_; refine m_take (At.mk : At 9) ?_; refine m_take (At.mk : At 10) ?_; refine m_take (At.mk : At 11) ?_; refine m_take (At.mk : At 12) ?_; refine m_take (At.mk : At 13) ?_
  refine TA.know (t := 24) (v := .int .i64 ((p + w.length : Nat) : Int)) (congrArg (Value.int .i64) (by rw [i64_in (by omega) (by omega)]; omega)) ?_
  (apply TA.takeA (At.mk : At 14); exact rfl; exact rfl; kernel_rfl; ((focus ((repeat (first | assumption | exact Ent.refl _ | apply Ent.tail)); done))); (apply PV.sliceStr (i := p) (j := p + w.length) (l := text); exact rfl; exact tb rfl; exact rfl; exact .some rfl; exact .some rfl; exact (by omega); exact (by omega)))
  refine TA.know (t := 25) (v := .string (S w)) (congrArg (fun z => Value.string (S z)) (by rw [Nat.add_sub_cancel_left]; exact htk)) ?_
  refine m_take (At.mk : At 15) ?_
  refine TA.done (by kernel_rfl) ?_
  obtain ⟨bn, hn1, hn2⟩ := gMeans_tail (H := rdR b text p (.slice A l.length c)) (gMeans_tail (H := ownW (.slice A l.length c) l) hM)
  have hlk := hn2 w (by omega)
  refine m_run ?_
  (apply TL.pv; exact rfl; (apply PV.lookH; exact rfl; exact rfl; exact hlk))
  cases hmb : meanB w with
  | true =>
    have hkm := kindW_mean hmb
    rw [hkm]
    refine m_run ?_
    (apply TL.callV; exact rfl; exact callB_of (by kernel_rfl); exact rfl; exact fun _ h => h)
    exact word_t b text p w.length (meanK w) A c l Γ (by omega) ht hl hc
    rintro _ _ (⟨h0, rfl, rfl⟩ | ⟨h0, rfl, A', c', hc', rfl⟩)
    · refine m_run ?_
      (apply TK.ret1; exact rfl; exact rfl; (exact m_val))
      exact ⟨_, rfl, .inl ⟨.inl h0, rfl, rfl⟩⟩
    · refine m_run ?_
      (apply TK.ret1; exact rfl; exact rfl; (exact m_val))
      exact ⟨_, rfl, .inr ⟨by omega, rfl, A', c', hc', rfl⟩⟩
  | false =>
    cases w with
    | nil =>
      refine m_run ?_
      (apply TL.callV; exact rfl; exact callB_of (by kernel_rfl); exact rfl; exact fun _ h => h)
      exact word_t b text p 0 1 A c l Γ (by omega) ht hl hc
      rintro _ _ (⟨h0, rfl, rfl⟩ | ⟨h0, rfl, A', c', hc', rfl⟩)
      · refine m_run ?_
        (apply TK.ret1; exact rfl; exact rfl; (exact m_val))
        exact ⟨_, rfl, .inl ⟨.inl rfl, rfl, rfl⟩⟩
      · omega
    | cons d r =>
      have hku := kindW_up hmb
      have hd0 : (d :: r)[0]? = some d := rfl
      have hrl : (d :: r).length = r.length + 1 := rfl
      by_cases hup : 65 ≤ d.toNat ∧ d.toNat ≤ 90
      · rw [if_pos hup] at hku
        obtain ⟨hu1, hu2⟩ := hup
        rw [hku]
        refine m_run ?_
        (apply TL.callV; exact rfl; exact callB_of (by kernel_rfl); exact rfl; exact fun _ h => h)
        exact word_t b text p (d :: r).length 2 A c l Γ (by omega) ht hl hc
        rintro _ _ (⟨h0, rfl, rfl⟩ | ⟨h0, rfl, A', c', hc', rfl⟩)
        · omega
        · refine m_run ?_
          (apply TK.ret1; exact rfl; exact rfl; (exact m_val))
          exact ⟨_, rfl, .inr ⟨by omega, rfl, A', c', hc', rfl⟩⟩
      · rw [if_neg hup] at hku
        rw [hku]
        by_cases h65 : 65 ≤ d.toNat
        · have h90 : ¬ d.toNat ≤ 90 := fun h => hup ⟨h65, h⟩
          refine m_run ?_
          (apply TL.callV; exact rfl; exact callB_of (by kernel_rfl); exact rfl; exact fun _ h => h)
          exact word_t b text p (d :: r).length 1 A c l Γ (by omega) ht hl hc
          rintro _ _ (⟨h0, rfl, rfl⟩ | ⟨h0, rfl, A', c', hc', rfl⟩)
          · omega
          · refine m_run ?_
            (apply TK.ret1; exact rfl; exact rfl; (exact m_val))
            exact ⟨_, rfl, .inr ⟨by omega, rfl, A', c', hc', rfl⟩⟩
        · refine m_run ?_
          (apply TL.callV; exact rfl; exact callB_of (by kernel_rfl); exact rfl; exact fun _ h => h)
          exact word_t b text p (d :: r).length 1 A c l Γ (by omega) ht hl hc
          rintro _ _ (⟨h0, rfl, rfl⟩ | ⟨h0, rfl, A', c', hc', rfl⟩)
          · omega
          · refine m_run ?_
            (apply TK.ret1; exact rfl; exact rfl; (exact m_val))
            exact ⟨_, rfl, .inr ⟨by omega, rfl, A', c', hc', rfl⟩⟩
end Go.Proofs.YtebeckkkckijeaaDoor.E
