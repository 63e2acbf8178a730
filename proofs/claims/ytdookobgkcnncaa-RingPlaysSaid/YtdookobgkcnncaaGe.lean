/- The chapter's example of rings. -/
import Derived.Test.YtdookobgkcnncaaGd
namespace Go.Proofs.Ytdookobgkcnncaa.E
open Go Go.RowKit Go.Proofs
attribute [local irreducible] TK TL TQ TA Fn PV
theorem behind3 {H A B C : HP} {Γ : List HP} : (H :: A :: B :: C :: Γ).Perm (A :: B :: C :: H :: Γ) := (List.perm_middle (a := H) (l₁ := [A, B, C]) (l₂ := Γ)).symm
set_option maxRecDepth 100000 in
set_option maxHeartbeats 1000000 in
theorem works_t (Γ : List HP) : FnV Try.prog 7 [] Γ fun v Γ' => v = .bool true ∧ Γ' = Γ := by
  refine Fn.enter Try.func7 rfl rfl rfl fun E => ?_
  refine m_run ?_
  (apply TL.callV; exact rfl; exact callB_of (by kernel_rfl); exact rfl; exact fun _ h => h)
  exact new_t Γ
  rintro _ _ ⟨br, mb, rfl, rfl⟩
  refine m_run ?_
  (apply TL.buildSlice; exact rfl; exact tb rfl; exact rfl; exact tb rfl; exact rfl; exact rfl; exact rfl; exact rfl; (exact m_lst))
  intro b1
  refine m_run ?_
  (apply TL.convConst 0; exact rfl; exact rfl; exact rfl; exact tb rfl; exact rfl; exact tb rfl; exact rfl; exact (rfl : _ = _ :: _))
  refine TL.perm behind3 ?_
  refine m_run ?_
  (apply TL.callV; exact rfl; exact callB_of (by kernel_rfl); exact rfl; exact fun _ h => h)
  exact put_t br mb 5 [] (some ⟨b1, 0, none⟩) 2 [97, 98] _ (has_roB 0 (vs := bytesV [97, 98]) rfl rfl) (by decide) (by decide)
  rintro v _ ⟨hv, es, rfl, h1, h2⟩
  obtain ⟨A1, c1, rfl⟩ := h1 rfl
  have hv' : v = .int .i64 0 := hv
  subst hv'
  clear hv h1 h2
  refine m_run ?_
  (apply TL.buildSlice; exact rfl; exact tb rfl; exact rfl; exact tb rfl; exact rfl; exact rfl; exact rfl; exact rfl; (exact m_lst))
  intro b2
  refine m_run ?_
  (apply TL.convConst 0; exact rfl; exact rfl; exact rfl; exact tb rfl; exact rfl; exact tb rfl; exact rfl; exact (rfl : _ = _ :: _))
  refine TL.perm behind3 ?_
  refine m_run ?_
  (apply TL.callV; exact rfl; exact callB_of (by kernel_rfl); exact rfl; exact fun _ h => h)
  exact put_t br mb 5 [(5, ((A1, c1), [97, 98]))] (some ⟨b2, 0, none⟩) 2 [97, 98] _ (has_roB 0 (vs := bytesV [97, 98]) rfl rfl) (by decide) (by simp)
  rintro v _ ⟨hv, es, rfl, h1, h2⟩
  obtain rfl := h2 (show (13 : Int) ≠ 0 by decide)
  have hv' : v = .int .i64 13 := hv
  subst hv'
  clear hv h1 h2
  refine m_run ?_
  (apply TL.callV; exact rfl; exact callB_of (by kernel_rfl); exact rfl; exact fun _ h => h)
  exact key_t br mb 5 [(5, ((A1, c1), [97, 98]))] _ (by simp)
  rintro v _ ⟨A2, c2, hv, rfl⟩
  have hv' : v = .tuple #[.slice A2 2 c2, .bool true] := hv
  subst hv'
  clear hv
  refine TL.perm (Δ := ringA br mb [(5, ((A1, c1), [97, 98]))] (bsA 5 (.slice A2 2 c2) [97, 98] :: roB b2 (bytesV [97, 98]) :: roB b1 (bytesV [97, 98]) :: Γ)) behind3 ?_
  refine m_run ?_
  (apply TL.callV; exact rfl; exact callB_of (by kernel_rfl); exact rfl; exact fun _ h => h)
  exact drop_t br mb 6 [(5, ((A1, c1), [97, 98]))] _ (by simp)
  rintro v _ ⟨hv, rfl⟩
  have hv' : v = .int .i64 4 := hv
  subst hv'
  clear hv
  refine TL.sub (Δ := ringA br mb [(5, ((A1, c1), [97, 98]))] (bsA 5 (.slice A2 2 c2) [97, 98] :: roB b2 (bytesV [97, 98]) :: roB b1 (bytesV [97, 98]) :: Γ)) (.refl _) ?_
  have hk : has (ringA br mb [(5, ((A1, c1), [97, 98]))] (bsA 5 (.slice A2 2 c2) [97, 98] :: roB b2 (bytesV [97, 98]) :: roB b1 (bytesV [97, 98]) :: Γ)) (srcAt 1 A2 2 (bytesV [97, 98])) := has_bs 3 rfl
  refine m_run ?_
  (apply TL.callV; exact rfl; exact callB_of (by kernel_rfl); exact rfl; exact fun _ h => h)
  exact list_t br mb [(5, ((A1, c1), [97, 98]))] _ (by simp)
  rintro _ _ ⟨A3, c3, l, rfl, hp, _, rfl⟩
  have hl : l.length = 1 := hp.length_eq
  rw [hl]
  refine m_run ?_
  (apply TK.retS1; exact rfl; exact rfl; (exact m_val))
  exact ⟨_, rfl, rfl, rfl⟩
  (repeat (first | exact List.Sublist.refl _ | apply List.Sublist.cons_cons | apply List.Sublist.cons))
end Go.Proofs.Ytdookobgkcnncaa.E
