/- works (law 07), walked. -/
import Derived.Test.YtebeckkkckijeaaDoorR7
namespace Go.Proofs.YtebeckkkckijeaaDoor.E
open Go Go.RowKit Go.Proofs
attribute [local irreducible] TK TL TQ TA Fn PV
theorem words_ok {text : List UInt8} {l : List Wrd} (h : lexA 0 text = .ok l) (Γ : List HP) (ht : text.length ≤ 65536) (hM : gMeans Γ) (hK : gMarks Γ) :
    FnV Tryd.prog 9 [.string (S text)] Γ fun v Γ' => ∃ A c, l.length ≤ c ∧ v = .tuple #[.slice A l.length c, .int .i64 0, .int .i64 0] ∧ Γ' = ownW (.slice A l.length c) l :: Γ := by
  have := words_t text Γ ht hM hK
  rw [h] at this
  exact this
theorem words_er {text : List UInt8} {e : Nat} (h : lexA 0 text = .error e) (Γ : List HP) (ht : text.length ≤ 65536) (hM : gMeans Γ) (hK : gMarks Γ) :
    FnV Tryd.prog 9 [.string (S text)] Γ fun v Γ' => v = .tuple #[.slice none 0 0, .int .i64 (e : Int), .int .i64 5] ∧ Γ' = Γ := by
  have := words_t text Γ ht hM hK
  rw [h] at this
  exact this
def wText : List UInt8 := [112, 40, 88, 41, 58, 45, 110, 111, 116, 32, 113, 46, 37, 114]
def wWords : List Wrd := [⟨1, [112], 0⟩, ⟨5, [40], 1⟩, ⟨2, [88], 2⟩, ⟨6, [41], 3⟩, ⟨9, [58, 45], 4⟩, ⟨3, [110, 111, 116], 6⟩, ⟨1, [113], 10⟩, ⟨8, [46], 11⟩]
theorem w_text : lexA 0 wText = .ok wWords := by kernel_rfl
theorem w_two : lexA 0 [97, 32, 58, 32, 98] = .error 2 := by kernel_rfl
theorem w_one : lexA 0 [97, 63] = .error 1 := by kernel_rfl
def wKinds : List Value := [.int .u8 1, .int .u8 5, .int .u8 2, .int .u8 6, .int .u8 9, .int .u8 3, .int .u8 1, .int .u8 8]
theorem w_kinds {i : Nat} {w : Wrd} (h : wWords[i]? = some w) : wKinds[i]? = some (.int .u8 (w.kind : Int)) := by
  have : wKinds = wWords.map fun w => Value.int .u8 (w.kind : Int) := rfl
  rw [this, List.getElem?_map, h]; rfl
theorem has_wd {Γ : List HP} {b o n : Nat} {l : List Wrd} {i : Nat} {w : Wrd} (h : has Γ (srcAt 3 (some ⟨b, o, none⟩) n (wcells l))) (hi : l[i]? = some w) :
    has Γ (fun m => cellAt m b (o + i * 3) (.int .u8 (w.kind : Int))) ∧ has Γ (fun m => cellAt m b (o + i * 3 + 1) (.string (S w.text))) ∧ has Γ (fun m => cellAt m b (o + i * 3 + 2) (.int .i64 (w.pos : Int))) :=
  ⟨has_imp (has_word h hi) fun _ hm => hm 0 _ rfl, has_imp (has_word h hi) fun _ hm => hm 1 _ rfl, has_imp (has_word h hi) fun _ hm => hm 2 _ rfl⟩
set_option maxRecDepth 100000 in
set_option maxHeartbeats 1000000 in
theorem works7_t (Γ : List HP) (hM : gMeans Γ) (hK : gMarks Γ) : FnV Tryd.prog 8 [] Γ fun v Γ' => v = .bool true ∧ Γ' = Γ := by
  refine Fn.enter Tryd.func8 rfl rfl rfl fun E => ?_
  refine m_run ?_
  (apply TL.callV; exact rfl; exact callB_of (by kernel_rfl); exact rfl; exact fun _ h => h)
  exact words_ok w_text Γ (by decide) hM hK
  rintro _ _ ⟨A, c, hc, rfl, rfl⟩
  refine m_run ?_
  (apply TL.callV; exact rfl; exact callB_of (by kernel_rfl); exact rfl; exact fun _ h => h)
  exact words_er w_two _ (by decide) (gMeans_tail hM) (gMarks_tail hK)
  rintro _ _ ⟨rfl, rfl⟩
  refine m_run ?_
  (apply TL.callV; exact rfl; exact callB_of (by kernel_rfl); exact rfl; exact fun _ h => h)
  exact words_er w_one _ (by decide) (gMeans_tail hM) (gMarks_tail hK)
  rintro _ _ ⟨rfl, rfl⟩
  rw [show wWords.length = 8 from rfl] at hc ⊢
  refine m_run ?_
  (apply TL.buildSlice (l := wKinds); exact rfl; exact tb rfl; exact rfl; exact tb rfl; exact rfl; exact rfl; exact rfl; exact rfl; kernel_rfl)
  intro b50
  refine m_run ?_
  have hs : has (row b50 wKinds 5 :: ownW (.slice A 8 c) wWords :: Γ) (srcAt 3 A 8 (wcells wWords)) := has_at (up_src _ _ _ _) 1 rfl fun _ h => own_src h
  apply TK.iter (fun j ρ' Γ' => ∃ i : Nat, i + j = 8 ∧ lk ρ' 1 = .slice A 8 c ∧ lk ρ' 10 = .slice (some ⟨b50, 0, none⟩) 8 8 ∧ lk ρ' 11 = .int .i64 (i : Int) ∧ Γ' = row b50 wKinds 5 :: ownW (.slice A 8 c) wWords :: Γ) 8
  · exact ⟨0, Nat.zero_add _, rfl, rfl, rfl, rfl⟩
  rintro j IH ρ' _ ⟨i, hij, e1, e10, e11, rfl⟩
  refine TK.know3 e1 e10 e11 ?_
  by_cases hi : i < 8
  · obtain ⟨w, hw⟩ : ∃ w, wWords[i]? = some w := ⟨wWords[i], List.getElem?_eq_getElem (show i < wWords.length from hi)⟩
    refine TK.mem fun m0 hm0 => ?_
    obtain ⟨b, o, rfl⟩ := src_some (hs m0 hm0) (by show 0 < 24; decide)
    clear hm0 m0
    obtain ⟨h1, _, _⟩ := has_wd hs hw
    have h2 : has (row b50 wKinds 5 :: ownW (.slice (some ⟨b, o, none⟩) 8 c) wWords :: Γ) (fun m => cellAt m b50 i (.int .u8 (w.kind : Int))) := has_row 0 rfl (w_kinds hw)
    refine m_run ?_
    refine TK.drawS mixed rfl ?_
    refine m_take (At.mk : At 0) ?_; refine m_take (At.mk : At 1) ?_; refine m_take (At.mk : At 2) ?_; refine m_take (At.mk : At 3) ?_; refine m_take (At.mk : At 4) ?_; refine m_take (At.mk : At 5) ?_; refine m_take (At.mk : At 6) ?_; refine m_take (At.mk : At 7) ?_; refine m_take (At.mk : At 8) ?_; refine m_take (At.mk : At 9) ?_
    refine TA.isF 66 rfl (bne_self_eq_false ..) ?_
    refine TA.done (by kernel_rfl) ?_
    refine m_run ?_
    exact IH (j - 1) _ _ (by omega) ⟨i + 1, by omega, rfl, rfl, congrArg (Value.int .i64) (i64_succ i (by omega)), rfl⟩
  obtain rfl : i = 8 := by omega
  refine m_run ?_
  (apply TL.callV; exact rfl; exact callB_of (by kernel_rfl); exact rfl; exact fun _ h => h)
  exact ljoin_t A c wWords _ hs (by decide) (by decide +kernel)
  rintro _ _ ⟨rfl, rfl⟩
  refine m_run ?_
  (apply TK.retS1; exact rfl; exact rfl; (exact m_val))
  · exact ⟨_, rfl, congrArg Value.bool (by decide +kernel), rfl⟩
  · (repeat (first | exact List.Sublist.refl _ | apply List.Sublist.cons_cons | apply List.Sublist.cons))
end Go.Proofs.YtebeckkkckijeaaDoor.E
