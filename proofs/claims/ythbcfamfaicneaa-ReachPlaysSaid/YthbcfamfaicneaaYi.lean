/- The document on which credentials may be: Flat, Clause, rule, May, walked. -/
import Derived.Test.YthbcfamfaicneaaYh
namespace Go.Proofs.Ythbcfamfaicneaa.E
open Go Go.RowKit Go.Proofs
attribute [local irreducible] TK TL TQ TA TB Fn PV
set_option maxRecDepth 100000 in
set_option maxHeartbeats 4000000 in
theorem rflat_t (y : Sy) (Γ : List HP) (ha : y.a.ok Γ) (hk : y.a.l.length ≤ 1000000) :
    FnV Try.prog 129 [.agg y.cells.toArray] Γ fun v Γ' => ∃ B k, (y.w :: y.a.l).length ≤ k ∧ v = .agg (Atm.cells ⟨y.a.p, B, k, y.w :: y.a.l⟩).toArray ∧ Γ' = ownTm B k (y.w :: y.a.l) :: Γ := by
  refine Fn.enter Try.func129 rfl rfl rfl fun E => ?_
  obtain ⟨s, w, ⟨p, A, c, l⟩⟩ := y
  refine m_run ?_
  (apply TL.box; exact rfl; exact rfl; (exact m_lst))
  intro b1
  refine m_run ?_
  (apply TL.alloc; exact rfl; exact tb rfl; exact (rfl : _ = [_, _]))
  intro b2
  refine TL.imp (Δ := row b2 [.int .u32 0, .slice none 0 0] 41 :: row b1 [.bool s, .bool w.v, .int .u32 (w.n : Int), .int .u32 (p : Int), .slice A l.length c] 43 :: Γ) (fun _ h => h) ?_
  have hb1 : has (row b2 [.int .u32 0, .slice none 0 0] 41 :: row b1 [.bool s, .bool w.v, .int .u32 (w.n : Int), .int .u32 (p : Int), .slice A l.length c] 43 :: Γ) (fun m => cellsAt m b1 1 (tmC w)) := has_rows 1 rfl rfl
  refine m_run ?_
  (apply TL.buildSlice (l := tmsC [w]); exact rfl; exact tb rfl; exact rfl; exact tb rfl; exact rfl; exact rfl; exact rfl; exact rfl; exact rfl)
  intro b9
  refine m_run ?_
  (apply TL.pv; exact rfl; (apply PV.build tabs; exact rfl; exact rfl; exact rfl; exact rfl; exact rfl; exact (rfl : _ = ([.int .u32 (p : Int), .slice (some ⟨b9, 0, none⟩) 1 1] : List Value))))
  (apply TL.alloc; exact rfl; exact tb rfl; exact (rfl : _ = [_, _]))
  intro b3
  refine m_run ?_
  (apply TL.append 1; exact rfl; exact rfl; exact tb rfl; exact rfl; exact tb rfl; exact rfl; exact rfl; exact rfl)
  · exact fun _ h => own_row rfl (by decide) h
  · exact rfl
  · exact has_tls (has_tls (has_tls (has_tls ha.1)))
  · exact tmsC_one l
  · show (1 + l.length) * 8 ≤ _; simp only at hk; omega
  · show 1 + l.length ≤ maxLen; unfold maxLen; simp only at hk; omega
  · exact fun _ => (rfl : _ = _ :: _ :: _)
  intro B k hkk
  rw [show 1 + l.length = (w :: l).length by simp; omega] at *
  refine m_run ?_
  (apply TK.retRow (i := 2) (Δ := ownTm B k (w :: l) :: Γ); exact rfl; exact rfl; exact rfl; exact rfl; exact tb rfl; exact rfl; exact (rfl : _ = [_, _]); exact rfl)
  · exact ⟨_, rfl, B, k, hkk, rfl, rfl⟩
  · (repeat (first | exact List.Sublist.refl _ | apply List.Sublist.cons_cons | apply List.Sublist.cons))
theorem has_subc {Γ : List HP} {g o : Nat} {vs : List Value} (h : has Γ (fun m => cellsAt m g o vs)) (i n : Nat) {ws : List Value} (hw : (vs.drop i).take n = ws) {o' : Nat} (ho : o + i = o') : has Γ (fun m => cellsAt m g o' ws) := fun m hm j v hj => by
  subst hw; subst ho
  rw [List.getElem?_take] at hj
  split at hj
  · rw [List.getElem?_drop] at hj
    have := h m hm (i + j) v hj
    rwa [← Nat.add_assoc] at this
  · cases hj
set_option maxRecDepth 100000 in
set_option maxHeartbeats 8000000 in
theorem rclause_t (iss : Nat) (r : Rl) (Γ : List HP) (h : r.ok Γ) (hh : r.h.a.l.length ≤ 30) (hl : r.l.length ≤ 30) (hxs : ∀ x ∈ r.l, x.y.a.l.length ≤ 30) :
    FnV Try.prog 128 [.int .u32 (iss : Int), .agg r.cells.toArray] Γ fun v Γ' => ∃ X : Cl, v = .agg X.cells.toArray ∧ Γ.Sublist Γ' ∧ X.ok Γ' ∧ X.small ∧ pureC X = (r.h.a.p, ⟨false, iss⟩ :: r.h.a.l, r.l.map fun x => (false, x.y.a.p, x.y.w :: x.y.a.l)) := by
  refine Fn.enter Try.func128 rfl rfl rfl fun E => ?_
  obtain ⟨⟨hs, hw, ⟨hp, hA, hc, hl0⟩⟩, RA, Rc, L⟩ := r
  simp only at hh hl hxs
  have hao : Atm.ok ⟨hp, hA, hc, hl0⟩ Γ := h.1
  have hLo : has Γ (srcAt 6 RA L.length (cdsC L)) := h.2.1
  have hLx : ∀ x ∈ L, x.y.a.ok Γ := h.2.2.2
  clear h
  refine m_run ?_
  (apply TL.box; exact rfl; exact rfl; (exact m_lst))
  intro b3
  refine m_run ?_
  (apply TL.alloc; exact rfl; exact tb rfl; exact (rfl : _ = [_, _, _]))
  intro b4
  refine TL.imp (Δ := row b4 [.int .u32 0, .slice none 0 0, .slice none 0 0] 68 :: row b3 [.bool hs, .bool hw.v, .int .u32 (hw.n : Int), .int .u32 (hp : Int), .slice hA hl0.length hc, .slice RA L.length Rc] 46 :: Γ) (fun _ h => h) ?_
  have hb3 : has (row b4 [.int .u32 0, .slice none 0 0, .slice none 0 0] 68 :: row b3 [.bool hs, .bool hw.v, .int .u32 (hw.n : Int), .int .u32 (hp : Int), .slice hA hl0.length hc, .slice RA L.length Rc] 46 :: Γ) (fun m => cellsAt m b3 3 (Atm.cells ⟨hp, hA, hc, hl0⟩)) := has_rows 1 rfl rfl
  refine m_run ?_
  (apply TL.pv; exact rfl; (apply PV.build tabs; exact rfl; exact rfl; exact rfl; exact rfl; exact rfl; exact (rfl : _ = tmC ⟨false, iss⟩)))
  refine m_run ?_
  (apply TL.pv; exact rfl; (apply PV.build tabs; exact rfl; exact rfl; exact rfl; exact rfl; exact rfl; exact (rfl : _ = Sy.cells ⟨false, ⟨false, iss⟩, ⟨hp, hA, hc, hl0⟩⟩)))
  (apply TL.callV; exact rfl; exact callB_of (by kernel_rfl); exact rfl; exact fun _ h => h)
  exact rflat_t ⟨false, ⟨false, iss⟩, ⟨hp, hA, hc, hl0⟩⟩ _ (Atm.ok_tl (Atm.ok_tl hao)) (Nat.le_trans hh (by decide))
  rintro _ _ ⟨Bh, kh, hkh, rfl, rfl⟩
  refine m_run ?_
  (apply TL.pv; exact rfl; (apply PV.build tabs; exact rfl; exact rfl; exact rfl; exact rfl; exact rfl; exact (rfl : _ = ([.int .u32 (hp : Int), .slice Bh ((⟨false, iss⟩ : Tm) :: hl0).length kh, .slice none 0 0] : List Value))))
  (apply TL.alloc; exact rfl; exact tb rfl; exact (rfl : _ = [_, _, _]))
  intro b5
  refine m_run ?_
  refine TK.perm (Δ := row b5 [.int .u32 (hp : Int), .slice Bh ((⟨false, iss⟩ : Tm) :: hl0).length kh, .slice none 0 0] 68 :: row b4 [.int .u32 0, .slice none 0 0, .slice none 0 0] 68 :: row b3 [.bool hs, .bool hw.v, .int .u32 (hw.n : Int), .int .u32 (hp : Int), .slice hA hl0.length hc, .slice RA L.length Rc] 46 :: ownTm Bh kh (⟨false, iss⟩ :: hl0) :: Γ) (.cons _ (List.perm_middle (a := ownTm Bh kh (⟨false, iss⟩ :: hl0)) (l₁ := [row b4 [.int .u32 0, .slice none 0 0, .slice none 0 0] 68, row b3 [.bool hs, .bool hw.v, .int .u32 (hw.n : Int), .int .u32 (hp : Int), .slice hA hl0.length hc, .slice RA L.length Rc] 46]) (l₂ := Γ)).symm) ?_
  refine TK.free (H := own 70 3 (.slice none 0 0) 0 []) (fun m hm => own_nil _ _ hm) ?_
  apply TK.iter (fun j ρ' Γ' => ∃ (i : Nat) (D : Option Addr) (kd : Nat) (M : List Lt) (Γ2 : List HP), L.length = i + j ∧ Γ.Sublist Γ2 ∧ Atm.ok ⟨hp, Bh, kh, ⟨false, iss⟩ :: hl0⟩ Γ2 ∧ has Γ2 (srcAt 6 RA L.length (cdsC L)) ∧ (∀ x ∈ L, x.y.a.ok Γ2) ∧ (∀ x ∈ M, x.a.ok Γ2 ∧ x.a.l.length ≤ 31) ∧ M.map pureL = (L.take i).map (fun x => (false, x.y.a.p, x.y.w :: x.y.a.l)) ∧ i ≤ kd ∧ lk ρ' 3 = .pointer (some ⟨b3, 0, none⟩) ∧ lk ρ' 4 = .pointer (some ⟨b4, 0, none⟩) ∧ lk ρ' 5 = .pointer (some ⟨b5, 0, none⟩) ∧ lk ρ' 6 = .int .i64 (i : Int) ∧ Γ' = own 70 3 (.slice D i kd) i (ltsC M) :: row b5 [.int .u32 (hp : Int), .slice Bh ((⟨false, iss⟩ : Tm) :: hl0).length kh, .slice D i kd] 68 :: row b4 [.int .u32 0, .slice none 0 0, .slice none 0 0] 68 :: row b3 [.bool hs, .bool hw.v, .int .u32 (hw.n : Int), .int .u32 (hp : Int), .slice hA hl0.length hc, .slice RA L.length Rc] 46 :: Γ2) L.length
  · exact ⟨0, none, 0, [], ownTm Bh kh (⟨false, iss⟩ :: hl0) :: Γ, by omega, .cons _ (.refl _), ⟨has_at (up_src _ _ _ _) 0 rfl fun _ h => own_src h, hkh⟩, has_tls hLo, fun x hx => Atm.ok_tl (hLx x hx), by simp, rfl, Nat.le_refl _, rfl, rfl, rfl, rfl, rfl⟩
  rintro j IH ρ' _ ⟨i, D, kd, M, Γ2, hj, hsub, hho, hLo2, hLx2, hM, hpm, hkd, e3, e4, e5, e6, rfl⟩
  refine TK.know4 e3 e4 e5 e6 ?_
  have hMl : M.length = i := by have := congrArg List.length hpm; simp at this; omega
  by_cases hi : i < L.length
  · obtain ⟨⟨no, ⟨said, who, a⟩⟩, hx⟩ : ∃ x, L[i]? = some x := ⟨L[i], List.getElem?_eq_getElem hi⟩
    have hxm := List.mem_of_getElem? hx
    have ha30 : a.l.length ≤ 30 := hxs _ hxm
    have hao2 : a.ok Γ2 := hLx2 _ hxm
    refine TK.mem fun m0 hm0 => ?_
    obtain ⟨g, u, rfl⟩ := src_some ((has_tls (has_tls (has_tls (has_tls hLo2))) : has (_ :: _ :: _ :: _ :: Γ2) _) m0 hm0) (by rw [cdsC_len]; omega)
    clear hm0 m0
    have hel : has Γ2 (fun m => cellsAt m g (u + i * 6) [.bool no, .bool said, .bool who.v, .int .u32 (who.n : Int), .int .u32 (a.p : Int), .slice a.A a.l.length a.c]) := has_el (sz := 6) (f := Cd.cells) (fun _ => rfl) (by decide) hLo2 hx
    have hey : has Γ2 (fun m => cellsAt m g (u + i * 6 + 1) (Sy.cells ⟨said, who, a⟩)) := has_subc hel 1 5 rfl rfl
    refine m_run ?_
    refine TK.drawB mixed rfl 13 (row b5 [.int .u32 (hp : Int), .slice Bh ((⟨false, iss⟩ : Tm) :: hl0).length kh, .slice D i kd] 68 :: row b4 [.int .u32 0, .slice none 0 0, .slice none 0 0] 68 :: row b3 [.bool hs, .bool hw.v, .int .u32 (hw.n : Int), .int .u32 (hp : Int), .slice hA hl0.length hc, .slice (some ⟨g, u, none⟩) L.length Rc] 46 :: Γ2) Γ2 ?_
    refine m_bake (At.mk : At 0) ?_; refine m_bake (At.mk : At 1) ?_; refine m_bake (At.mk : At 2) ?_; refine m_bake (At.mk : At 3) ?_; refine m_bake (At.mk : At 4) ?_; refine m_bake (At.mk : At 5) ?_; refine m_bake (At.mk : At 6) ?_; refine m_bake (At.mk : At 7) ?_
    (apply TB.one 8; kernel_rfl; exact rfl; exact rfl)
    (apply TL.callV; exact rfl; exact callB_of (by kernel_rfl); exact rfl; exact fun _ h => h)
    exact rflat_t ⟨said, who, a⟩ _ (Atm.ok_tl (Atm.ok_tl (Atm.ok_tl (Atm.ok_tl hao2)))) (Nat.le_trans ha30 (by decide))
    rintro _ _ ⟨B7, k7, hk7, rfl, rfl⟩
    refine TL.backB (by (focus ((repeat (first | assumption | exact Ent.refl _ | apply Ent.tail)); done))) ?_
    (apply TB.takeA (At.mk : At 9); exact rfl; exact rfl; kernel_rfl; exact rfl; ((focus ((repeat (first | assumption | exact Ent.refl _ | apply Ent.tail)); done))); (apply PV.build tabs; exact rfl; exact rfl; exact rfl; exact rfl; exact rfl; exact (rfl : _ = Lt.cells ⟨false, ⟨a.p, B7, k7, who :: a.l⟩⟩)))
    (apply TB.one 10; kernel_rfl; exact rfl; exact rfl)
    (apply TL.buildSlice (l := Lt.cells ⟨false, ⟨a.p, B7, k7, who :: a.l⟩⟩); exact rfl; exact tb rfl; exact rfl; exact tb rfl; exact rfl; exact rfl; exact rfl; exact rfl; exact rfl)
    intro b10
    refine TL.backB (by (focus ((repeat (first | assumption | exact Ent.refl _ | apply Ent.tail)); done))) ?_
    (apply TB.one 11; kernel_rfl; exact rfl; exact rfl)
    (apply TL.append 2; exact rfl; exact rfl; exact tb rfl; exact rfl; exact tb rfl; exact rfl; exact rfl; exact rfl)
    · exact fun _ h => h
    · exact rfl
    · exact has_src_row 0 rfl rfl
    · exact by intro u hu; simp only [Lt.cells, Atm.cells, List.mem_cons, List.not_mem_nil, or_false] at hu; rcases hu with rfl | rfl | rfl <;> rfl
    · show (i + 1) * 40 ≤ _; omega
    · show i + 1 ≤ maxLen; unfold maxLen; omega
    · exact fun _ => (rfl : _ = _ :: _ :: _ :: _)
    intro D2 kd2 hkd2
    rw [show ltsC M ++ Lt.cells ⟨false, ⟨a.p, B7, k7, who :: a.l⟩⟩ = ltsC (M ++ [(⟨false, ⟨a.p, B7, k7, who :: a.l⟩⟩ : Lt)]) by simp [ltsC]]
    refine TL.backB (by (focus ((repeat (first | assumption | exact Ent.refl _ | apply Ent.tail)); done))) ?_
    refine m_bake (At.mk : At 12) ?_
    (apply TB.last; kernel_rfl; exact rfl)
    (apply TL.storeR 3; exact rfl; exact rfl; (exact m_val); exact rfl; exact tb rfl; exact rfl; exact rfl; (exact m_lst); exact (rfl : _ = _ :: _ :: _ :: _ :: _))
    refine TL.back (by (focus ((repeat (first | assumption | exact Ent.refl _ | apply Ent.tail)); done))) ?_
    refine TA.done (by kernel_rfl) ?_
    refine m_run ?_
    refine TK.drop ?_
    refine TK.perm (Δ := own 70 3 (.slice D2 (i + 1) kd2) (i + 1) (ltsC (M ++ [(⟨false, ⟨a.p, B7, k7, who :: a.l⟩⟩ : Lt)])) :: row b5 [.int .u32 (hp : Int), .slice Bh ((⟨false, iss⟩ : Tm) :: hl0).length kh, .slice D2 (i + 1) kd2] 68 :: row b4 [.int .u32 0, .slice none 0 0, .slice none 0 0] 68 :: row b3 [.bool hs, .bool hw.v, .int .u32 (hw.n : Int), .int .u32 (hp : Int), .slice hA hl0.length hc, .slice (some ⟨g, u, none⟩) L.length Rc] 46 :: ownTm B7 k7 (who :: a.l) :: Γ2) (List.perm_middle (a := ownTm B7 k7 (who :: a.l)) (l₁ := [own 70 3 (.slice D2 (i + 1) kd2) (i + 1) (ltsC (M ++ [(⟨false, ⟨a.p, B7, k7, who :: a.l⟩⟩ : Lt)])), row b5 [.int .u32 (hp : Int), .slice Bh ((⟨false, iss⟩ : Tm) :: hl0).length kh, .slice D2 (i + 1) kd2] 68, row b4 [.int .u32 0, .slice none 0 0, .slice none 0 0] 68, row b3 [.bool hs, .bool hw.v, .int .u32 (hw.n : Int), .int .u32 (hp : Int), .slice hA hl0.length hc, .slice (some ⟨g, u, none⟩) L.length Rc] 46]) (l₂ := Γ2)).symm ?_
    refine IH (j - 1) _ _ (by omega) ⟨i + 1, D2, kd2, M ++ [(⟨false, ⟨a.p, B7, k7, who :: a.l⟩⟩ : Lt)], ownTm B7 k7 (who :: a.l) :: Γ2, by omega, .cons _ hsub, Atm.ok_tl hho, has_tls hLo2, fun x hx => Atm.ok_tl (hLx2 x hx), fun x hx => ?_, ?_, hkd2, rfl, rfl, rfl, congrArg (Value.int .i64) (i64_succ i (by omega)), rfl⟩
    · rcases List.mem_append.1 hx with hx | hx
      · exact ⟨Atm.ok_tl (hM x hx).1, (hM x hx).2⟩
      · rw [List.mem_singleton.1 hx]
        exact ⟨⟨has_at (up_src _ _ _ _) 0 rfl fun _ h => own_src h, hk7⟩, by show (who :: a.l).length ≤ 31; simp; omega⟩
    · rw [List.map_append, hpm, List.take_add_one, hx, List.map_append]
      rfl
  · obtain rfl : i = L.length := by omega
    rw [List.take_length] at hpm
    rw [← hMl] at hkd ⊢
    refine m_run ?_
    (apply TK.retRow (i := 2) (Δ := own 70 3 (.slice D M.length kd) M.length (ltsC M) :: Γ2); exact rfl; exact rfl; exact rfl; exact rfl; exact tb rfl; exact rfl; exact (rfl : _ = Cl.cells ⟨⟨hp, Bh, kh, ⟨false, iss⟩ :: hl0⟩, D, kd, M⟩); exact rfl)
    · exact ⟨_, rfl, ⟨⟨hp, Bh, kh, ⟨false, iss⟩ :: hl0⟩, D, kd, M⟩, rfl, .cons _ hsub, ⟨Atm.ok_tl hho, has_at (up_src _ _ _ _) 0 rfl fun _ h => own_src h, hkd, fun x hx => Atm.ok_tl (hM x hx).1⟩, ⟨by show M.length ≤ 1000000; omega, by show (_ :: hl0).length ≤ 1000000; simp; omega, fun x hx => Nat.le_trans (hM x hx).2 (by decide)⟩, by simp only [pureC, hpm]⟩
    · (repeat (first | exact List.Sublist.refl _ | apply List.Sublist.cons_cons | apply List.Sublist.cons))
end Go.Proofs.Ythbcfamfaicneaa.E
