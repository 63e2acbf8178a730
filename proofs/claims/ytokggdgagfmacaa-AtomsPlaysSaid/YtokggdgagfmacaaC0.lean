/- works (law 05), walked. -/
import Derived.Test.YtokggdgagfmacaaB9
namespace Go.Proofs.Ytokggdgagfmacaa.E
open Go Go.RowKit Go.Proofs
attribute [local irreducible] TK TL TQ TA Fn PV
theorem sorted_unique {D E : List Nat} (hp : D.Perm E) (hD : D.Pairwise (· ≤ ·)) (hE : E.Pairwise (· ≤ ·)) : D = E := hp.eq_of_pairwise (fun a b _ _ h1 h2 => Nat.le_antisymm h1 h2) hD hE
set_option maxRecDepth 100000 in
set_option maxHeartbeats 4000000 in
theorem works5_t (Γ : List HP) : FnV Try.prog 39 [] Γ fun v Γ' => v = .bool true ∧ Γ' = Γ := by
  refine Fn.enter Try.func39 rfl rfl rfl fun E => ?_
  refine m_run ?_
  (apply TL.callV; exact rfl; exact callB_of (by kernel_rfl); exact rfl; exact fun _ h => h)
  exact mkx_t 0 _
  rintro _ Γ ⟨rfl, rfl⟩
  refine m_run ?_
  (apply TL.callV; exact rfl; exact callB_of (by kernel_rfl); exact rfl; exact fun _ h => h)
  exact mks_t 1 _
  rintro _ Γ ⟨rfl, rfl⟩
  refine m_run ?_
  (apply TL.callV; exact rfl; exact callB_of (by kernel_rfl); exact rfl; exact fun _ h => h)
  exact mkx_t 0 _
  rintro _ Γ ⟨rfl, rfl⟩
  refine m_run ?_
  (apply TL.buildSlice (l := tmsC [⟨true, 0⟩, ⟨false, 1⟩, ⟨true, 0⟩]); exact rfl; exact tb rfl; exact rfl; exact tb rfl; exact rfl; exact rfl; exact rfl; exact rfl; exact rfl)
  intro b10
  (apply TL.pv; exact rfl; (apply PV.build tabs; exact rfl; exact rfl; exact rfl; exact rfl; exact rfl; exact (rfl : _ = Atm.cells ⟨1, some ⟨b10, 0, none⟩, 3, [⟨true, 0⟩, ⟨false, 1⟩, ⟨true, 0⟩]⟩)))
  refine m_run ?_
  (apply TL.alloc; exact rfl; exact tb rfl; (exact m_lst))
  intro b1
  refine m_run ?_
  (apply TL.callV; exact rfl; exact callB_of (by kernel_rfl); exact rfl; exact fun _ h => h)
  exact mkx_t 1 _
  rintro _ _ ⟨rfl, rfl⟩
  refine m_run ?_
  (apply TL.callV; exact rfl; exact callB_of (by kernel_rfl); exact rfl; exact fun _ h => h)
  exact mkx_t 0 _
  rintro _ _ ⟨rfl, rfl⟩
  refine m_run ?_
  (apply TL.callV; exact rfl; exact callB_of (by kernel_rfl); exact rfl; exact fun _ h => h)
  exact mkx_t 1 _
  rintro _ _ ⟨rfl, rfl⟩
  refine m_run ?_
  (apply TL.buildSlice (l := tmsC [⟨true, 1⟩, ⟨true, 0⟩, ⟨true, 1⟩]); exact rfl; exact tb rfl; exact rfl; exact tb rfl; exact rfl; exact rfl; exact rfl; exact rfl; exact rfl)
  intro b15
  (apply TL.pv; exact rfl; (apply PV.build tabs; exact rfl; exact rfl; exact rfl; exact rfl; exact rfl; exact (rfl : _ = Atm.cells ⟨1, some ⟨b15, 0, none⟩, 3, [⟨true, 1⟩, ⟨true, 0⟩, ⟨true, 1⟩]⟩)))
  refine m_run ?_
  (apply TL.callV; exact rfl; exact callB_of (by kernel_rfl); exact rfl; exact fun _ h => h)
  exact vars_t ⟨1, some ⟨b15, 0, none⟩, 3, [⟨true, 1⟩, ⟨true, 0⟩, ⟨true, 1⟩]⟩ _ ⟨has_src_row 0 rfl rfl, Nat.le_refl _⟩ (show 3 ≤ 1000000 by decide) (show 3 ≤ 12 by decide)
  rintro _ _ ⟨D, B, k, hp, hs, hk, rfl, rfl⟩
  have hD : D = [0, 1, 1] := sorted_unique (hp.trans (show [1, 0, 1].Perm [0, 1, 1] by decide)) hs (by decide)
  subst hD
  rw [show compL [0, 1, 1] = [0, 1] from rfl, show ([0, 1] : List Nat).length = 2 from rfl]
  refine TL.mem fun m0 hm0 => ?_
  obtain ⟨b2, rfl⟩ := own_addr hm0 (by decide)
  clear hm0 m0
  refine m_run ?_
  (apply TL.callV; exact rfl; exact callB_of (by kernel_rfl); exact rfl; exact fun _ h => h)
  exact mkx_t 0 _
  rintro _ _ ⟨rfl, rfl⟩
  refine m_run ?_
  (apply TL.buildSlice (l := tmsC [⟨true, 0⟩]); exact rfl; exact tb rfl; exact rfl; exact tb rfl; exact rfl; exact rfl; exact rfl; exact rfl; exact rfl)
  intro b20
  (apply TL.pv; exact rfl; (apply PV.build tabs; exact rfl; exact rfl; exact rfl; exact rfl; exact rfl; exact (rfl : _ = Atm.cells ⟨1, some ⟨b20, 0, none⟩, 1, [⟨true, 0⟩]⟩)))
  refine m_run ?_
  (apply TL.callV; exact rfl; exact callB_of (by kernel_rfl); exact rfl; exact fun _ h => h)
  exact of_t ⟨1, some ⟨b20, 0, none⟩, 1, [⟨true, 0⟩]⟩ _ ⟨has_src_row 0 rfl rfl, Nat.le_refl _⟩ (show 1 ≤ 1000000 by decide)
  rintro _ _ (⟨h, _⟩ | ⟨_, rfl, rfl⟩)
  · cases h
  refine m_run ?_
  (apply TL.alloc; exact rfl; exact tb rfl; (exact m_lst))
  intro b3
  refine m_run ?_
  (apply TL.buildSlice (l := u32s [2, 1, 2]); exact rfl; exact tb rfl; exact rfl; exact tb rfl; exact rfl; exact rfl; exact rfl; exact rfl; exact rfl)
  intro b25
  (apply TL.pv; exact rfl; (apply PV.build tabs; exact rfl; exact rfl; exact rfl; exact rfl; exact rfl; exact (rfl : _ = Fct.cells ⟨1, some ⟨b25, 0, none⟩, 3, [2, 1, 2]⟩)))
  refine m_run ?_
  (apply TL.alloc; exact rfl; exact tb rfl; (exact m_lst))
  intro b5
  refine m_run ?_
  (apply TL.buildSlice (l := u32s [2, 1, 1]); exact rfl; exact tb rfl; exact rfl; exact tb rfl; exact rfl; exact rfl; exact rfl; exact rfl; exact rfl)
  intro b27
  (apply TL.pv; exact rfl; (apply PV.build tabs; exact rfl; exact rfl; exact rfl; exact rfl; exact rfl; exact (rfl : _ = Fct.cells ⟨1, some ⟨b27, 0, none⟩, 3, [2, 1, 1]⟩)))
  refine m_run ?_
  (apply TL.alloc; exact rfl; exact tb rfl; (exact m_lst))
  intro b6
  refine m_run ?_
  refine TL.imp (Δ := row b6 (Fct.cells ⟨1, some ⟨b27, 0, none⟩, 3, [2, 1, 1]⟩) 26 :: row b27 (u32s [2, 1, 1]) 23 :: row b5 (Fct.cells ⟨1, some ⟨b25, 0, none⟩, 3, [2, 1, 2]⟩) 26 :: row b25 (u32s [2, 1, 2]) 23 :: row b3 (Fct.cells ⟨0, none, 0, []⟩) 26 :: row b20 (tmsC [⟨true, 0⟩]) 54 :: own 23 1 (.slice (some ⟨b2, 0, none⟩) 2 k) 2 (u32s [0, 1]) :: row b15 (tmsC [⟨true, 1⟩, ⟨true, 0⟩, ⟨true, 1⟩]) 54 :: row b1 (Atm.cells ⟨1, some ⟨b10, 0, none⟩, 3, [⟨true, 0⟩, ⟨false, 1⟩, ⟨true, 0⟩]⟩) 42 :: row b10 (tmsC [⟨true, 0⟩, ⟨false, 1⟩, ⟨true, 0⟩]) 54 :: Γ) (fun _ h => h) ?_
  obtain ⟨Δ, hΔ⟩ : ∃ Δ, row b6 (Fct.cells ⟨1, some ⟨b27, 0, none⟩, 3, [2, 1, 1]⟩) 26 :: row b27 (u32s [2, 1, 1]) 23 :: row b5 (Fct.cells ⟨1, some ⟨b25, 0, none⟩, 3, [2, 1, 2]⟩) 26 :: row b25 (u32s [2, 1, 2]) 23 :: row b3 (Fct.cells ⟨0, none, 0, []⟩) 26 :: row b20 (tmsC [⟨true, 0⟩]) 54 :: own 23 1 (.slice (some ⟨b2, 0, none⟩) 2 k) 2 (u32s [0, 1]) :: row b15 (tmsC [⟨true, 1⟩, ⟨true, 0⟩, ⟨true, 1⟩]) 54 :: row b1 (Atm.cells ⟨1, some ⟨b10, 0, none⟩, 3, [⟨true, 0⟩, ⟨false, 1⟩, ⟨true, 0⟩]⟩) 42 :: row b10 (tmsC [⟨true, 0⟩, ⟨false, 1⟩, ⟨true, 0⟩]) 54 :: Γ = Δ := ⟨_, rfl⟩
  have hA : Atm.ok ⟨1, some ⟨b10, 0, none⟩, 3, [⟨true, 0⟩, ⟨false, 1⟩, ⟨true, 0⟩]⟩ Δ := by rw [← hΔ]; exact ⟨has_src_row 9 rfl rfl, Nat.le_refl _⟩
  have hF1 : Fct.ok ⟨1, some ⟨b25, 0, none⟩, 3, [2, 1, 2]⟩ Δ := by rw [← hΔ]; exact ⟨has_src_row 3 rfl rfl, Nat.le_refl _⟩
  have hF2 : Fct.ok ⟨1, some ⟨b27, 0, none⟩, 3, [2, 1, 1]⟩ Δ := by rw [← hΔ]; exact ⟨has_src_row 1 rfl rfl, Nat.le_refl _⟩
  have gA : has Δ (fun m => cellsAt m b1 0 (Atm.cells ⟨1, some ⟨b10, 0, none⟩, 3, [⟨true, 0⟩, ⟨false, 1⟩, ⟨true, 0⟩]⟩)) := by rw [← hΔ]; exact has_rows 8 rfl rfl
  have gF1 : has Δ (fun m => cellsAt m b5 0 (Fct.cells ⟨1, some ⟨b25, 0, none⟩, 3, [2, 1, 2]⟩)) := by rw [← hΔ]; exact has_rows 2 rfl rfl
  have gF2 : has Δ (fun m => cellsAt m b6 0 (Fct.cells ⟨1, some ⟨b27, 0, none⟩, 3, [2, 1, 1]⟩)) := by rw [← hΔ]; exact has_rows 0 rfl rfl
  have hv : has Δ (srcAt 1 (some ⟨b2, 0, none⟩) 2 (u32s [0, 1])) := by rw [← hΔ]; exact has_at (up_src _ _ _ _) 6 rfl fun _ h => own_src h
  have hv0 : has Δ (fun m => cellAt m b2 0 (.int .u32 0)) := has_u32 (i := 0) hv rfl
  have hv1 : has Δ (fun m => cellAt m b2 1 (.int .u32 1)) := has_u32 (i := 1) hv rfl
  have hsub : Γ.Sublist Δ := by rw [← hΔ]; (repeat (first | exact List.Sublist.refl _ | apply List.Sublist.cons_cons | apply List.Sublist.cons))
  rw [hΔ]
  clear hΔ hp hs hk
  have hsm : ∀ t ∈ [(⟨true, 0⟩ : Tm), ⟨false, 1⟩, ⟨true, 0⟩], t.v = true → t.n < 16 := by decide
  refine m_run ?_
  (apply TL.callV; exact rfl; exact callB_of (by kernel_rfl); exact rfl; exact fun _ h => h)
  exact match_t ⟨1, some ⟨b10, 0, none⟩, 3, [⟨true, 0⟩, ⟨false, 1⟩, ⟨true, 0⟩]⟩ ⟨1, some ⟨b25, 0, none⟩, 3, [2, 1, 2]⟩ _ hA hF1 (show 3 ≤ 1000000 by decide) hsm
  rintro _ Δ ⟨rfl, rfl⟩
  rw [show matA ⟨1, some ⟨b10, 0, none⟩, 3, [⟨true, 0⟩, ⟨false, 1⟩, ⟨true, 0⟩]⟩ ⟨1, some ⟨b25, 0, none⟩, 3, [2, 1, 2]⟩ = true from rfl]
  refine m_run ?_
  (apply TL.callV; exact rfl; exact callB_of (by kernel_rfl); exact rfl; exact fun _ h => h)
  exact match_t ⟨1, some ⟨b10, 0, none⟩, 3, [⟨true, 0⟩, ⟨false, 1⟩, ⟨true, 0⟩]⟩ ⟨1, some ⟨b27, 0, none⟩, 3, [2, 1, 1]⟩ _ hA hF2 (show 3 ≤ 1000000 by decide) hsm
  rintro _ Δ ⟨rfl, rfl⟩
  rw [show matA ⟨1, some ⟨b10, 0, none⟩, 3, [⟨true, 0⟩, ⟨false, 1⟩, ⟨true, 0⟩]⟩ ⟨1, some ⟨b27, 0, none⟩, 3, [2, 1, 1]⟩ = false from rfl]
  refine m_run ?_
  (apply TL.buildSlice (l := u32s [2, 1]); exact rfl; exact tb rfl; exact rfl; exact tb rfl; exact rfl; exact rfl; exact rfl; exact rfl; exact rfl)
  intro b40
  refine m_run ?_
  (apply TL.pv; exact rfl; (apply PV.build tabs; exact rfl; exact rfl; exact rfl; exact rfl; exact rfl; exact (rfl : _ = Fct.cells ⟨1, some ⟨b40, 0, none⟩, 2, [2, 1]⟩)))
  refine m_run ?_
  (apply TL.callV; exact rfl; exact callB_of (by kernel_rfl); exact rfl; exact fun _ h => h)
  exact match_t ⟨1, some ⟨b10, 0, none⟩, 3, [⟨true, 0⟩, ⟨false, 1⟩, ⟨true, 0⟩]⟩ ⟨1, some ⟨b40, 0, none⟩, 2, [2, 1]⟩ _ (Atm.ok_tl hA) ⟨has_src_row 0 rfl rfl, Nat.le_refl _⟩ (show 3 ≤ 1000000 by decide) hsm
  rintro _ _ ⟨rfl, rfl⟩
  rw [show matA ⟨1, some ⟨b10, 0, none⟩, 3, [⟨true, 0⟩, ⟨false, 1⟩, ⟨true, 0⟩]⟩ ⟨1, some ⟨b40, 0, none⟩, 2, [2, 1]⟩ = false from rfl]
  refine TL.sub (Δ := Δ) (List.sublist_cons_self _ _) ?_
  refine m_run ?_
  (apply TL.pv; exact rfl; (apply PV.build tabs; exact rfl; exact rfl; exact rfl; exact rfl; exact rfl; exact (rfl : _ = Atm.cells ⟨1, none, 0, []⟩)))
  refine m_run ?_
  (apply TL.callV; exact rfl; exact callB_of (by kernel_rfl); exact rfl; exact fun _ h => h)
  exact ground_t ⟨1, none, 0, []⟩ _ ⟨has_srcnil _ _, Nat.le_refl _⟩ (Nat.zero_le _)
  rintro _ Δ ⟨rfl, rfl⟩
  rw [show groundA (Atm.l ⟨1, none, 0, []⟩) = true from rfl]
  refine m_run ?_
  (apply TL.callV; exact rfl; exact callB_of (by kernel_rfl); exact rfl; exact fun _ h => h)
  exact compare_t ⟨1, some ⟨b25, 0, none⟩, 3, [2, 1, 2]⟩ ⟨1, some ⟨b27, 0, none⟩, 3, [2, 1, 1]⟩ _ hF1 hF2 (show 3 ≤ 1000000 by decide)
  rintro _ Δ ⟨rfl, rfl⟩
  rw [show cmpF ⟨1, some ⟨b25, 0, none⟩, 3, [2, 1, 2]⟩ ⟨1, some ⟨b27, 0, none⟩, 3, [2, 1, 1]⟩ = 1 from rfl]
  refine m_run ?_
  (apply TL.pv; exact rfl; (apply PV.build tabs; exact rfl; exact rfl; exact rfl; exact rfl; exact rfl; exact (rfl : _ = Fct.cells ⟨2, none, 0, []⟩)))
  refine m_run ?_
  (apply TL.callV; exact rfl; exact callB_of (by kernel_rfl); exact rfl; exact fun _ h => h)
  exact compare_t ⟨2, none, 0, []⟩ ⟨1, some ⟨b25, 0, none⟩, 3, [2, 1, 2]⟩ _ ⟨has_srcnil _ _, Nat.le_refl _⟩ hF1 (Nat.zero_le _)
  rintro _ Δ ⟨rfl, rfl⟩
  rw [show cmpF ⟨2, none, 0, []⟩ ⟨1, some ⟨b25, 0, none⟩, 3, [2, 1, 2]⟩ = 1 from rfl]
  refine m_run ?_
  (apply TL.pv; exact rfl; (apply PV.build tabs; exact rfl; exact rfl; exact rfl; exact rfl; exact rfl; exact (rfl : _ = Cl.cells ⟨⟨1, some ⟨b10, 0, none⟩, 3, [⟨true, 0⟩, ⟨false, 1⟩, ⟨true, 0⟩]⟩, none, 0, []⟩)))
  refine m_run ?_
  (apply TL.callV; exact rfl; exact callB_of (by kernel_rfl); exact rfl; exact fun _ h => h)
  exact may_t ⟨⟨1, some ⟨b10, 0, none⟩, 3, [⟨true, 0⟩, ⟨false, 1⟩, ⟨true, 0⟩]⟩, none, 0, []⟩ _ ⟨hA, has_srcnil _ _, Nat.le_refl _, fun x hx => by cases hx⟩ ⟨Nat.zero_le _, show 3 ≤ 1000000 by decide, fun x hx => by cases hx⟩
  rintro _ Δ ⟨rfl, rfl⟩
  rw [show mayC ⟨⟨1, some ⟨b10, 0, none⟩, 3, [⟨true, 0⟩, ⟨false, 1⟩, ⟨true, 0⟩]⟩, none, 0, []⟩ = true from rfl]
  refine m_run ?_
  (apply TK.retS1; exact rfl; exact rfl; (exact m_val))
  · exact ⟨_, rfl, rfl, rfl⟩
  · exact hsub
end Go.Proofs.Ytokggdgagfmacaa.E
