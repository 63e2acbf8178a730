/- The document's taking of a block, walked (over a contract of its words: J2). -/
import Derived.Test.YtdookobgkcnncaaDoorJ2
import Derived.Test.YtdookobgkcnncaaDoorH6
namespace Go.Proofs.YtdookobgkcnncaaDoor.E
open Go Go.RowKit Go.Proofs
attribute [local irreducible] TK TL TQ TA Fn PV
attribute [local irreducible] rounds sched kC comp1 compN rotr
set_option maxRecDepth 100000 in
set_option maxHeartbeats 1000000 in
theorem reftake_t (v : V8) (A : Option Addr) (c : Nat) (l : List UInt8) (Γ : List HP) (hs : has Γ (srcAt 1 A l.length (bytesV l))) (hl : l.length = 64) :
    FnV Tryd.prog 29 [.agg (v.l.map w32).toArray, .slice A l.length c] Γ fun r Γ' => r = .agg ((comp1 v l).l.map w32).toArray ∧ Γ' = Γ := by
  refine Fn.enter Tryd.func29 rfl rfl rfl fun E => ?_
  obtain ⟨va, vb, vc, vd, ve, vf, vg, vh⟩ := v
  refine m_run ?_
  (apply TL.box; exact rfl; exact rfl; exact (rfl : _ = [w32 va, w32 vb, w32 vc, w32 vd, w32 ve, w32 vf, w32 vg, w32 vh]))
  intro b2
  (apply TL.alloc; exact rfl; exact tb rfl; exact (by kernel_rfl : _ = List.replicate 8 (w32 0)))
  intro b4
  refine m_run ?_
  (apply TL.callV; exact rfl; exact callB_of (by kernel_rfl); exact rfl; exact fun _ h => h)
  exact refwords_t A c l _ (has_tls (has_tls hs)) hl
  rintro _ _ ⟨A5, c5, rfl, hc5, rfl⟩
  refine m_run ?_
  (apply TL.callV; exact rfl; exact callB_of (by kernel_rfl); exact rfl; exact fun _ h => h)
  exact const_t _
  rintro _ _ ⟨b6, rfl, rfl⟩
  refine m_run ?_
  (apply TL.alloc; exact rfl; exact tb rfl; exact (by kernel_rfl : _ = List.replicate 8 (w32 0)))
  intro b7
  refine m_run ?_
  apply TK.iter (fun j ρ' Γ' => ∃ (i : Nat) (u : V8), i + j = 64 ∧ rounds (sched l) i ⟨va, vb, vc, vd, ve, vf, vg, vh⟩ = u ∧ lk ρ' 2 = .pointer (some ⟨b2, 0, none⟩) ∧ lk ρ' 4 = .pointer (some ⟨b4, 0, none⟩) ∧ lk ρ' 5 = .slice A5 64 c5 ∧ lk ρ' 6 = .slice (some ⟨b6, 0, none⟩) 64 64 ∧ lk ρ' 7 = .pointer (some ⟨b7, 0, none⟩) ∧ lk ρ' 8 = .int .i64 (i : Int) ∧ Γ' = row b7 (u.l.map w32) 52 :: row b6 kV 51 :: own 51 1 (.slice A5 64 c5) 64 ((sched l).map w32) :: row b4 (List.replicate 8 (w32 0)) 52 :: row b2 [w32 va, w32 vb, w32 vc, w32 vd, w32 ve, w32 vf, w32 vg, w32 vh] 52 :: Γ) 64
  · exact ⟨0, ⟨va, vb, vc, vd, ve, vf, vg, vh⟩, Nat.zero_add _, by rw [rounds], rfl, rfl, rfl, rfl, rfl, rfl, rfl⟩
  rintro j IH ρ' _ ⟨i, ⟨a0, b0, c0, d0, f0, g0, h0, k0⟩, hij, hu, e2, e4, e5, e6, e7, e8, rfl⟩
  refine TK.know6 e2 e4 e5 e6 e7 e8 ?_
  by_cases hi : i < 64
  · obtain ⟨w, hw⟩ : ∃ w, (sched l).getD i 0 = w := ⟨_, rfl⟩
    obtain ⟨kk, hkk⟩ : ∃ kk, kC.getD i 0 = kk := ⟨_, rfl⟩
    have hwv : ((sched l).map w32)[i]? = some (w32 w) := by
      have h2 : i < (sched l).length := by rw [sched_len]; exact hi
      rw [← hw]
      simp [List.getD_eq_getElem?_getD, h2]
    have hkv : kV[i]? = some (w32 kk) := by rw [kC_get hi, hkk]
    have hr : rounds (sched l) (i + 1) ⟨va, vb, vc, vd, ve, vf, vg, vh⟩ = rnd ⟨a0, b0, c0, d0, f0, g0, h0, k0⟩ kk w := by rw [rounds, hu, hkk, hw]
    have hsO : has (row b7 ((V8.l ⟨a0, b0, c0, d0, f0, g0, h0, k0⟩).map w32) 52 :: row b6 kV 51 :: own 51 1 (.slice A5 64 c5) 64 ((sched l).map w32) :: row b4 (List.replicate 8 (w32 0)) 52 :: row b2 [w32 va, w32 vb, w32 vc, w32 vd, w32 ve, w32 vf, w32 vg, w32 vh] 52 :: Γ) (srcAt 1 A5 64 ((sched l).map w32)) := has_at (up_src _ _ _ _) 2 rfl fun _ h => own_src h
    refine TK.mem fun m0 hm0 => ?_
    obtain ⟨b5, o5, rfl⟩ := src_some (hsO m0 hm0) (by rw [List.length_map, sched_len]; decide)
    clear hm0 m0
    have hcw := has_get hsO hwv
    have hck : has (row b7 ((V8.l ⟨a0, b0, c0, d0, f0, g0, h0, k0⟩).map w32) 52 :: row b6 kV 51 :: own 51 1 (.slice (some ⟨b5, o5, none⟩) 64 c5) 64 ((sched l).map w32) :: row b4 (List.replicate 8 (w32 0)) 52 :: row b2 [w32 va, w32 vb, w32 vc, w32 vd, w32 ve, w32 vf, w32 vg, w32 vh] 52 :: Γ) (fun m => cellAt m b6 i (w32 kk)) := has_at (up_cell _ _ _) 1 rfl fun m h => row_cell h hkv
    refine m_run ?_
    refine m_quiet ?_
    refine m_run ?_
    refine TK.drawS mixed rfl ?_
    refine m_take (At.mk : At 0) ?_; refine m_take (At.mk : At 1) ?_; refine m_take (At.mk : At 2) ?_; refine m_take (At.mk : At 4) ?_; refine m_take (At.mk : At 7) ?_; refine m_take (At.mk : At 11) ?_; refine m_take (At.mk : At 12) ?_; refine m_take (At.mk : At 13) ?_; refine m_take (At.mk : At 14) ?_; refine m_take (At.mk : At 15) ?_; refine m_take (At.mk : At 16) ?_; refine m_take (At.mk : At 17) ?_; refine m_take (At.mk : At 18) ?_; refine m_take (At.mk : At 20) ?_; refine m_take (At.mk : At 21) ?_; refine m_take (At.mk : At 22) ?_; refine m_take (At.mk : At 23) ?_; refine m_take (At.mk : At 25) ?_; refine m_take (At.mk : At 26) ?_; refine m_take (At.mk : At 27) ?_; refine m_take (At.mk : At 28) ?_
    (apply TA.one 3; kernel_rfl; exact rfl)
    refine m_run ?_
    (apply TL.callV; exact rfl; exact callB_of (by kernel_rfl); exact rfl; exact fun _ h => h)
    exact rot_t f0 6 (by decide) _
    rintro _ _ ⟨rfl, rfl⟩
    refine m_run ?_
    refine TL.back (by (focus ((repeat (first | assumption | exact Ent.refl _ | apply Ent.tail)); done))) ?_
    (apply TA.one 5; kernel_rfl; exact rfl)
    refine m_run ?_
    (apply TL.callV; exact rfl; exact callB_of (by kernel_rfl); exact rfl; exact fun _ h => h)
    exact rot_t f0 11 (by decide) _
    rintro _ _ ⟨rfl, rfl⟩
    refine m_run ?_
    refine TL.back (by (focus ((repeat (first | assumption | exact Ent.refl _ | apply Ent.tail)); done))) ?_
    refine m_take (At.mk : At 6) ?_
    (apply TA.one 8; kernel_rfl; exact rfl)
    refine m_run ?_
    (apply TL.callV; exact rfl; exact callB_of (by kernel_rfl); exact rfl; exact fun _ h => h)
    exact rot_t f0 25 (by decide) _
    rintro _ _ ⟨rfl, rfl⟩
    refine m_run ?_
    refine TL.back (by (focus ((repeat (first | assumption | exact Ent.refl _ | apply Ent.tail)); done))) ?_
    refine m_take (At.mk : At 9) ?_; refine m_take (At.mk : At 10) ?_; refine m_take (At.mk : At 19) ?_; refine m_take (At.mk : At 24) ?_; refine m_take (At.mk : At 29) ?_; refine m_take (At.mk : At 30) ?_
    refine TA.done (by kernel_rfl) ?_
    refine m_run ?_
    (apply TL.callV; exact rfl; exact callB_of (by kernel_rfl); exact rfl; exact fun _ h => h)
    exact rot_t a0 2 (by decide) _
    rintro _ _ ⟨rfl, rfl⟩
    refine m_run ?_
    (apply TL.callV; exact rfl; exact callB_of (by kernel_rfl); exact rfl; exact fun _ h => h)
    exact rot_t a0 13 (by decide) _
    rintro _ _ ⟨rfl, rfl⟩
    refine m_run ?_
    (apply TL.callV; exact rfl; exact callB_of (by kernel_rfl); exact rfl; exact fun _ h => h)
    exact rot_t a0 22 (by decide) _
    rintro _ _ ⟨rfl, rfl⟩
    refine m_run ?_
    (apply TL.buildArr; exact rfl; exact tb rfl; exact rfl; exact tb rfl; exact rfl; exact rfl; exact (rfl : _ = List.map w32 (V8.l (rnd ⟨a0, b0, c0, d0, f0, g0, h0, k0⟩ kk w))))
    (apply TL.storeAggE 0 (l' := List.map w32 (V8.l (rnd ⟨a0, b0, c0, d0, f0, g0, h0, k0⟩ kk w))); exact rfl; exact rfl; exact rfl; exact rfl; exact tb rfl; exact rfl; exact Nat.le_refl 8; exact rfl; exact rfl)
    refine m_run ?_
    exact IH (j - 1) _ _ (by omega) ⟨i + 1, rnd ⟨a0, b0, c0, d0, f0, g0, h0, k0⟩ kk w, by omega, hr, rfl, rfl, rfl, rfl, rfl, congrArg (Value.int .i64) (i64_succ i (by omega)), rfl⟩
  obtain rfl : i = 64 := by omega
  have hc1 : comp1 ⟨va, vb, vc, vd, ve, vf, vg, vh⟩ l = addV ⟨va, vb, vc, vd, ve, vf, vg, vh⟩ ⟨a0, b0, c0, d0, f0, g0, h0, k0⟩ := by rw [comp1, hu]
  rw [hc1]
  clear hc1 hu IH e2 e4 e5 e6 e7 e8
  refine TK.sub (Δ := row b7 (List.map w32 (V8.l ⟨a0, b0, c0, d0, f0, g0, h0, k0⟩)) 52 :: row b4 (List.replicate 8 (w32 0)) 52 :: row b2 [w32 va, w32 vb, w32 vc, w32 vd, w32 ve, w32 vf, w32 vg, w32 vh] 52 :: Γ) (by (repeat (first | exact List.Sublist.refl _ | apply List.Sublist.cons_cons | apply List.Sublist.cons))) ?_
  refine TK.imp (Δ := row b7 (List.map w32 (V8.l ⟨a0, b0, c0, d0, f0, g0, h0, k0⟩)) 52 :: row b4 (List.replicate 8 (w32 0)) 52 :: row b2 ((mixV ⟨va, vb, vc, vd, ve, vf, vg, vh⟩ ⟨a0, b0, c0, d0, f0, g0, h0, k0⟩ 0).map w32 ++ []) 52 :: Γ) (fun _ h => h) ?_
  refine TK.perm (Δ := row b2 ((mixV ⟨va, vb, vc, vd, ve, vf, vg, vh⟩ ⟨a0, b0, c0, d0, f0, g0, h0, k0⟩ 0).map w32 ++ []) 52 :: row b7 (List.map w32 (V8.l ⟨a0, b0, c0, d0, f0, g0, h0, k0⟩)) 52 :: row b4 (List.replicate 8 (w32 0)) 52 :: Γ) (List.Perm.append_right Γ (List.perm_append_comm (l₁ := [_, _]) (l₂ := [_]))) ?_
  generalize (⟨a0, b0, c0, d0, f0, g0, h0, k0⟩ : V8) = u
  generalize (⟨va, vb, vc, vd, ve, vf, vg, vh⟩ : V8) = v
  refine m_run ?_
  apply TK.iter (fun j ρ' Γ' => ∃ i : Nat, i + j = 8 ∧ lk ρ' 2 = .pointer (some ⟨b2, 0, none⟩) ∧ lk ρ' 4 = .pointer (some ⟨b4, 0, none⟩) ∧ lk ρ' 7 = .pointer (some ⟨b7, 0, none⟩) ∧ lk ρ' 17 = .int .i64 (i : Int) ∧ Γ' = row b2 ((mixV v u i).map w32 ++ []) 52 :: row b7 (u.l.map w32) 52 :: row b4 (List.replicate 8 (w32 0)) 52 :: Γ) 8
  · exact ⟨0, Nat.zero_add _, rfl, rfl, rfl, rfl, rfl⟩
  clear hij hi
  rintro j IH ρ' _ ⟨i, hij, e2, e4, e7, e17, rfl⟩
  refine TK.know4 e2 e4 e7 e17 ?_
  by_cases hi : i < 8
  · obtain ⟨x, y, h1, h2, h3, h4⟩ := mix_step v u [] i hi
    have hcx : has (row b2 ((mixV v u i).map w32 ++ []) 52 :: row b7 (u.l.map w32) 52 :: row b4 (List.replicate 8 (w32 0)) 52 :: Γ) (fun m => cellAt m b2 i (w32 x)) := has_rowC h3
    have hcy : has (row b7 (u.l.map w32) 52 :: row b4 (List.replicate 8 (w32 0)) 52 :: Γ) (fun m => cellAt m b7 i (w32 y)) := has_rowC (by rw [List.getElem?_map, h2]; rfl)
    have hlt : i < ((mixV v u i).map w32 ++ []).length := (List.getElem?_eq_some_iff.1 h3).1
    refine m_run ?_
    refine TK.drawE mixed rfl (row b7 (u.l.map w32) 52 :: row b4 (List.replicate 8 (w32 0)) 52 :: Γ) ?_
    refine m_take (At.mk : At 0) ?_; refine m_take (At.mk : At 1) ?_; refine m_take (At.mk : At 2) ?_; refine m_take (At.mk : At 4) ?_; refine m_take (At.mk : At 5) ?_; refine m_take (At.mk : At 6) ?_
    (apply TA.one 3; kernel_rfl; exact rfl)
    refine m_run ?_
    refine TL.back (by (focus ((repeat (first | assumption | exact Ent.refl _ | apply Ent.tail)); done))) ?_
    refine m_take (At.mk : At 7) ?_; refine m_take (At.mk : At 8) ?_
    (apply TA.one 9; kernel_rfl; exact rfl)
    (apply TL.storeE 0 (l' := (mixV v u (i + 1)).map w32 ++ []); exact rfl; exact rfl; exact rfl; exact rfl; exact tb rfl; exact rfl; exact hlt; exact h4; exact rfl)
    refine TL.back (by (focus ((repeat (first | assumption | exact Ent.refl _ | apply Ent.tail)); done))) ?_
    refine TA.done (by kernel_rfl) ?_
    refine m_run ?_
    exact IH (j - 1) _ _ (by omega) ⟨i + 1, by omega, rfl, rfl, rfl, congrArg (Value.int .i64) (i64_succ i (by omega)), rfl⟩
  obtain rfl : i = 8 := by omega
  rw [show (mixV v u 8).map w32 ++ [] = (addV v u).l.map w32 from rfl]
  clear IH e2 e4 e7 e17 hi
  refine m_run ?_
  (apply TK.retRow (i := 2); exact rfl; exact rfl; exact rfl; exact rfl; exact tb rfl; exact rfl; (exact m_lst); exact rfl)
  · exact ⟨_, rfl, rfl, rfl⟩
  · (repeat (first | exact List.Sublist.refl _ | apply List.Sublist.cons_cons | apply List.Sublist.cons))
end Go.Proofs.YtdookobgkcnncaaDoor.E
