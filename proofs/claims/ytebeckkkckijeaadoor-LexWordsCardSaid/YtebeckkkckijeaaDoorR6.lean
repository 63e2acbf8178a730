/- lex.Words, walked. -/
import Derived.Test.YtebeckkkckijeaaDoorR5
namespace Go.Proofs.YtebeckkkckijeaaDoor.E
open Go Go.RowKit Go.Proofs
attribute [local irreducible] TK TL TQ TA Fn PV
theorem skip_drop : ∀ s : List UInt8, s.drop (s.length - (skipC s).length) = skipC s
  | [] => rfl
  | c :: s => by
    have ih := skip_drop s
    have hl := skipC_len s
    unfold skipC
    by_cases hc : c = 10
    · rw [if_pos hc, List.length_cons, Nat.add_sub_cancel_left]; rfl
    · rw [if_neg hc, List.length_cons, show s.length + 1 - (skipC s).length = s.length - (skipC s).length + 1 by omega, List.drop_succ_cons]
      exact ih
theorem both_ok_map (l : List Wrd) (w : Wrd) (r : Except Nat (List Wrd)) : both (.ok l) (r.map (w :: ·)) = both (.ok (l ++ [w])) r := by
  cases r with
  | error e => rfl
  | ok m => simp [both, Except.map]
/-- What Words answers. -/
def WordsR (Γ : List HP) (r : Except Nat (List Wrd)) (v : Value) (Γ' : List HP) : Prop := match r with
  | .ok l => ∃ A c, l.length ≤ c ∧ v = .tuple #[.slice A l.length c, .int .i64 0, .int .i64 0] ∧ Γ' = ownW (.slice A l.length c) l :: Γ
  | .error e => v = .tuple #[.slice none 0 0, .int .i64 (e : Int), .int .i64 5] ∧ Γ' = Γ
theorem ownW_nil {m : Mem} (h : emp m) : ownW (.slice none 0 0) [] m := own_nil _ _ h
set_option maxRecDepth 100000 in
theorem words_many (text : List UInt8) (Γ : List HP) (ht : 65536 < text.length) :
    FnV Tryd.prog 9 [.string (S text)] Γ fun v Γ' => v = .tuple #[.slice none 0 0, .int .i64 0, .int .i64 6] ∧ Γ' = Γ := by
  refine Fn.enter Tryd.func9 rfl rfl rfl fun E => ?_
  refine m_run ?_
  (apply TK.ret3; exact rfl; exact rfl; (exact m_val); (exact m_val); (exact m_val))
  exact ⟨_, rfl, rfl, rfl⟩
set_option maxRecDepth 100000 in
set_option maxHeartbeats 1000000 in
theorem words_t (text : List UInt8) (Γ : List HP) (ht : text.length ≤ 65536) (hM : gMeans Γ) (hK : gMarks Γ) :
    FnV Tryd.prog 9 [.string (S text)] Γ (WordsR Γ (lexA 0 text)) := by
  refine Fn.enter Tryd.func9 rfl rfl rfl fun E => ?_
  refine m_run ?_
  (apply TL.build tabs; exact rfl; exact rfl; exact rfl; exact rfl; exact rfl; exact rfl; exact (rfl : _ = [_, _, _]))
  (apply TL.box; exact rfl; exact rfl; exact (rfl : _ = [_, _, _]))
  intro b
  refine m_run ?_
  refine TK.imp (Δ := rdR b text 0 (.slice none 0 0) :: Γ) (fun _ h => h) ?_
  refine TK.free (H := ownW (.slice none 0 0) []) (fun m h => ownW_nil h) ?_
  refine TK.perm (List.Perm.swap _ _ _) ?_
  apply TK.iter (fun j ρ' Γ' => ∃ (p : Nat) (l : List Wrd) (A : Option Addr) (cap : Nat), p + j = text.length ∧ l.length ≤ p ∧ l.length ≤ cap ∧ lexA 0 text = both (.ok l) (lexA p (text.drop p)) ∧ lk ρ' 0 = .string (S text) ∧ lk ρ' 5 = .pointer (some ⟨b, 0, none⟩) ∧ Γ' = rdR b text p (.slice A l.length cap) :: ownW (.slice A l.length cap) l :: Γ) text.length
  · exact ⟨0, [], none, 0, Nat.zero_add _, Nat.le_refl _, Nat.le_refl _, by rw [both_ok_nil]; rfl, rfl, rfl, rfl⟩
  rintro j IH ρ' _ ⟨p, l, A, cap, hpj, hlp, hlc, hlex, e0, e5, rfl⟩
  refine TK.know2 e0 e5 ?_
  by_cases hp : p < text.length
  · obtain ⟨c, s, hs⟩ : ∃ c s, text.drop p = c :: s := by
      cases h : text.drop p with
      | nil => have := congrArg List.length h; rw [List.length_drop, List.length_nil] at this; omega
      | cons c s => exact ⟨c, s, rfl⟩
    have hsl : text.length = p + (s.length + 1) := by
      have := congrArg List.length hs
      rw [List.length_drop, List.length_cons] at this; omega
    have hdr : ∀ n, text.drop (p + n) = (c :: s).drop n := fun n => by rw [← hs, List.drop_drop]
    rw [hs] at hlex
    refine m_run ?_
    (apply TL.callV; exact rfl; exact callB_of (by kernel_rfl); exact rfl; exact fun _ h => h)
    exact next_t b text p A cap l Γ c s hs hp (by omega) (by omega) hlc hM hK
    rintro _ _ (⟨rfl, rfl, rfl⟩ | ⟨h37, hb, rfl, rfl⟩ | ⟨h37, hb, k, n, htok, rfl, A', c', hc', rfl⟩ | ⟨h37, hb, htok, rfl, rfl⟩)
    · have hsk := skipC_len s
      have hd := hdr (s.length + 1 - (skipC s).length)
      rw [show s.length + 1 - (skipC s).length = s.length - (skipC s).length + 1 by omega, List.drop_succ_cons, skip_drop] at hd
      rw [lexA_remark] at hlex
      refine m_run ?_
      refine IH (j - (s.length + 1 - (skipC s).length)) _ _ (by omega) ⟨p + (s.length + 1 - (skipC s).length), l, A, cap, by omega, by omega, hlc, ?_, rfl, rfl, rfl⟩
      rw [hlex, show s.length + 1 - (skipC s).length = s.length - (skipC s).length + 1 by omega, hd]
    · rw [lexA_blank hb h37] at hlex
      refine m_run ?_
      refine IH (j - 1) _ _ (by omega) ⟨p + 1, l, A, cap, by omega, by omega, hlc, ?_, rfl, rfl, rfl⟩
      rw [hlex, hdr 1]; rfl
    · have hn := tok_len htok
      rw [List.length_cons] at hn
      rw [lexA_word hb h37 htok, both_ok_map] at hlex
      refine m_run ?_
      refine IH (j - n) _ _ (by omega) ⟨p + n, l ++ [nw k text p n], A', c', by omega, by rw [List.length_append]; simp only [List.length_cons, List.length_nil]; omega, hc', ?_, rfl, rfl, rfl⟩
      rw [hlex, hdr n]
      unfold nw
      rw [hs]
    · rw [lexA_wrong hb h37 htok] at hlex
      rw [hlex]
      refine m_run ?_
      refine TK.drawS mixed rfl ?_
      refine m_take (At.mk : At 0) ?_; refine m_take (At.mk : At 1) ?_; refine m_take (At.mk : At 2) ?_; refine m_take (At.mk : At 3) ?_; refine m_take (At.mk : At 4) ?_; refine m_take (At.mk : At 5) ?_; refine m_take (At.mk : At 6) ?_
      refine TA.done (by kernel_rfl) ?_
      refine m_run ?_
      (apply TK.retS3; exact rfl; exact rfl; (exact m_val); (exact m_val); (exact m_val))
      · exact ⟨_, rfl, rfl, rfl⟩
      · (repeat (first | exact List.Sublist.refl _ | apply List.Sublist.cons_cons | apply List.Sublist.cons))
  · have hd : text.drop p = [] := List.drop_of_length_le (by omega)
    rw [hd, lexA_nil] at hlex
    have hle : lexA 0 text = .ok l := by rw [hlex]; simp [both, Except.map]
    rw [hle]
    refine m_run ?_
    (apply TK.retS3; exact rfl; exact rfl; (exact m_val); (exact m_val); (exact m_val))
    · exact ⟨_, rfl, A, cap, hlc, rfl, rfl⟩
    · (repeat (first | exact List.Sublist.refl _ | apply List.Sublist.cons_cons | apply List.Sublist.cons))
end Go.Proofs.YtebeckkkckijeaaDoor.E
