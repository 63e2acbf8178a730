/- My own texts, one behind the other: Yi Yj Yk Ss Sza Yl Ym TiA. -/
import Derived.Test.YthbcfamfaicneaaPd5
import Derived.Test.YthbcfamfaicneaaPd4
import Derived.Test.YthbcfamfaicneaaPd2
import Derived.Sort.AssemblyPlain
/- The document on which credentials may be: Flat, Clause, rule, May, walked. -/
namespace Go.Proofs.Ythbcfamfaicneaa.E
open Go Go.RowKit Go.Proofs
attribute [local irreducible] TK TL TQ TA TB Fn PV
set_option maxRecDepth 100000 in
set_option maxHeartbeats 4000000 in
theorem rflat_t (y : Sy) (Γ : List HP) (ha : y.a.ok Γ) (hk : y.a.l.length ≤ 1000000) :
    FnV Try.prog 129 [.agg y.cells.toArray] Γ fun v Γ' => ∃ B k, (y.w :: y.a.l).length ≤ k ∧ v = .agg (Atm.cells ⟨y.a.p, B, k, y.w :: y.a.l⟩).toArray ∧ Γ' = ownTm B k (y.w :: y.a.l) :: Γ := by
  refine Fn.enter Try.func129 rfl rfl rfl fun E => ?_
  obtain ⟨s, w, ⟨p, A, c, l⟩⟩ := y
  refine m_run ?_
  (apply TL.box; exact rfl; exact rfl; (exact m_lst))
  intro b1
  refine m_run ?_
  (apply TL.alloc; exact rfl; exact tb rfl; exact (rfl : _ = [_, _]))
  intro b2
  refine TL.imp (Δ := row b2 [.int .u32 0, .slice none 0 0] 41 :: row b1 [.bool s, .bool w.v, .int .u32 (w.n : Int), .int .u32 (p : Int), .slice A l.length c] 43 :: Γ) (fun _ h => h) ?_
  have hb1 : has (row b2 [.int .u32 0, .slice none 0 0] 41 :: row b1 [.bool s, .bool w.v, .int .u32 (w.n : Int), .int .u32 (p : Int), .slice A l.length c] 43 :: Γ) (fun m => cellsAt m b1 1 (tmC w)) := has_rows 1 rfl rfl
  refine m_run ?_
  (apply TL.buildSlice (l := tmsC [w]); exact rfl; exact tb rfl; exact rfl; exact tb rfl; exact rfl; exact rfl; exact rfl; exact rfl; exact rfl)
  intro b9
  refine m_run ?_
  (apply TL.pv; exact rfl; (apply PV.build tabs; exact rfl; exact rfl; exact rfl; exact rfl; exact rfl; exact (rfl : _ = ([.int .u32 (p : Int), .slice (some ⟨b9, 0, none⟩) 1 1] : List Value))))
  (apply TL.alloc; exact rfl; exact tb rfl; exact (rfl : _ = [_, _]))
  intro b3
  refine m_run ?_
  (apply TL.append 1; exact rfl; exact rfl; exact tb rfl; exact rfl; exact tb rfl; exact rfl; exact rfl; exact rfl)
  · exact fun _ h => own_row rfl (by decide) h
  · exact rfl
  · exact has_tls (has_tls (has_tls (has_tls ha.1)))
  · exact tmsC_one l
  · show (1 + l.length) * 8 ≤ _; simp only at hk; omega
  · show 1 + l.length ≤ maxLen; unfold maxLen; simp only at hk; omega
  · exact fun _ => (rfl : _ = _ :: _ :: _)
  intro B k hkk
  rw [show 1 + l.length = (w :: l).length by simp; omega] at *
  refine m_run ?_
  (apply TK.retRow (i := 2) (Δ := ownTm B k (w :: l) :: Γ); exact rfl; exact rfl; exact rfl; exact rfl; exact tb rfl; exact rfl; exact (rfl : _ = [_, _]); exact rfl)
  · exact ⟨_, rfl, B, k, hkk, rfl, rfl⟩
  · (repeat (first | exact List.Sublist.refl _ | apply List.Sublist.cons_cons | apply List.Sublist.cons))
theorem has_subc {Γ : List HP} {g o : Nat} {vs : List Value} (h : has Γ (fun m => cellsAt m g o vs)) (i n : Nat) {ws : List Value} (hw : (vs.drop i).take n = ws) {o' : Nat} (ho : o + i = o') : has Γ (fun m => cellsAt m g o' ws) := fun m hm j v hj => by
  subst hw; subst ho
  rw [List.getElem?_take] at hj
  split at hj
  · rw [List.getElem?_drop] at hj
    have := h m hm (i + j) v hj
    rwa [← Nat.add_assoc] at this
  · cases hj
set_option maxRecDepth 100000 in
set_option maxHeartbeats 8000000 in
theorem rclause_t (iss : Nat) (r : Rl) (Γ : List HP) (h : r.ok Γ) (hh : r.h.a.l.length ≤ 30) (hl : r.l.length ≤ 30) (hxs : ∀ x ∈ r.l, x.y.a.l.length ≤ 30) :
    FnV Try.prog 128 [.int .u32 (iss : Int), .agg r.cells.toArray] Γ fun v Γ' => ∃ X : Cl, v = .agg X.cells.toArray ∧ Γ.Sublist Γ' ∧ X.ok Γ' ∧ X.small ∧ pureC X = (r.h.a.p, ⟨false, iss⟩ :: r.h.a.l, r.l.map fun x => (false, x.y.a.p, x.y.w :: x.y.a.l)) := by
  refine Fn.enter Try.func128 rfl rfl rfl fun E => ?_
  obtain ⟨⟨hs, hw, ⟨hp, hA, hc, hl0⟩⟩, RA, Rc, L⟩ := r
  simp only at hh hl hxs
  have hao : Atm.ok ⟨hp, hA, hc, hl0⟩ Γ := h.1
  have hLo : has Γ (srcAt 6 RA L.length (cdsC L)) := h.2.1
  have hLx : ∀ x ∈ L, x.y.a.ok Γ := h.2.2.2
  clear h
  refine m_run ?_
  (apply TL.box; exact rfl; exact rfl; (exact m_lst))
  intro b3
  refine m_run ?_
  (apply TL.alloc; exact rfl; exact tb rfl; exact (rfl : _ = [_, _, _]))
  intro b4
  refine TL.imp (Δ := row b4 [.int .u32 0, .slice none 0 0, .slice none 0 0] 68 :: row b3 [.bool hs, .bool hw.v, .int .u32 (hw.n : Int), .int .u32 (hp : Int), .slice hA hl0.length hc, .slice RA L.length Rc] 46 :: Γ) (fun _ h => h) ?_
  have hb3 : has (row b4 [.int .u32 0, .slice none 0 0, .slice none 0 0] 68 :: row b3 [.bool hs, .bool hw.v, .int .u32 (hw.n : Int), .int .u32 (hp : Int), .slice hA hl0.length hc, .slice RA L.length Rc] 46 :: Γ) (fun m => cellsAt m b3 3 (Atm.cells ⟨hp, hA, hc, hl0⟩)) := has_rows 1 rfl rfl
  refine m_run ?_
  (apply TL.pv; exact rfl; (apply PV.build tabs; exact rfl; exact rfl; exact rfl; exact rfl; exact rfl; exact (rfl : _ = tmC ⟨false, iss⟩)))
  refine m_run ?_
  (apply TL.pv; exact rfl; (apply PV.build tabs; exact rfl; exact rfl; exact rfl; exact rfl; exact rfl; exact (rfl : _ = Sy.cells ⟨false, ⟨false, iss⟩, ⟨hp, hA, hc, hl0⟩⟩)))
  (apply TL.callV; exact rfl; exact callB_of (by kernel_rfl); exact rfl; exact fun _ h => h)
  exact rflat_t ⟨false, ⟨false, iss⟩, ⟨hp, hA, hc, hl0⟩⟩ _ (Atm.ok_tl (Atm.ok_tl hao)) (Nat.le_trans hh (by decide))
  rintro _ _ ⟨Bh, kh, hkh, rfl, rfl⟩
  refine m_run ?_
  (apply TL.pv; exact rfl; (apply PV.build tabs; exact rfl; exact rfl; exact rfl; exact rfl; exact rfl; exact (rfl : _ = ([.int .u32 (hp : Int), .slice Bh ((⟨false, iss⟩ : Tm) :: hl0).length kh, .slice none 0 0] : List Value))))
  (apply TL.alloc; exact rfl; exact tb rfl; exact (rfl : _ = [_, _, _]))
  intro b5
  refine m_run ?_
  refine TK.perm (Δ := row b5 [.int .u32 (hp : Int), .slice Bh ((⟨false, iss⟩ : Tm) :: hl0).length kh, .slice none 0 0] 68 :: row b4 [.int .u32 0, .slice none 0 0, .slice none 0 0] 68 :: row b3 [.bool hs, .bool hw.v, .int .u32 (hw.n : Int), .int .u32 (hp : Int), .slice hA hl0.length hc, .slice RA L.length Rc] 46 :: ownTm Bh kh (⟨false, iss⟩ :: hl0) :: Γ) (.cons _ (List.perm_middle (a := ownTm Bh kh (⟨false, iss⟩ :: hl0)) (l₁ := [row b4 [.int .u32 0, .slice none 0 0, .slice none 0 0] 68, row b3 [.bool hs, .bool hw.v, .int .u32 (hw.n : Int), .int .u32 (hp : Int), .slice hA hl0.length hc, .slice RA L.length Rc] 46]) (l₂ := Γ)).symm) ?_
  refine TK.free (H := own 70 3 (.slice none 0 0) 0 []) (fun m hm => own_nil _ _ hm) ?_
  apply TK.iter (fun j ρ' Γ' => ∃ (i : Nat) (D : Option Addr) (kd : Nat) (M : List Lt) (Γ2 : List HP), L.length = i + j ∧ Γ.Sublist Γ2 ∧ Atm.ok ⟨hp, Bh, kh, ⟨false, iss⟩ :: hl0⟩ Γ2 ∧ has Γ2 (srcAt 6 RA L.length (cdsC L)) ∧ (∀ x ∈ L, x.y.a.ok Γ2) ∧ (∀ x ∈ M, x.a.ok Γ2 ∧ x.a.l.length ≤ 31) ∧ M.map pureL = (L.take i).map (fun x => (false, x.y.a.p, x.y.w :: x.y.a.l)) ∧ i ≤ kd ∧ lk ρ' 3 = .pointer (some ⟨b3, 0, none⟩) ∧ lk ρ' 4 = .pointer (some ⟨b4, 0, none⟩) ∧ lk ρ' 5 = .pointer (some ⟨b5, 0, none⟩) ∧ lk ρ' 6 = .int .i64 (i : Int) ∧ Γ' = own 70 3 (.slice D i kd) i (ltsC M) :: row b5 [.int .u32 (hp : Int), .slice Bh ((⟨false, iss⟩ : Tm) :: hl0).length kh, .slice D i kd] 68 :: row b4 [.int .u32 0, .slice none 0 0, .slice none 0 0] 68 :: row b3 [.bool hs, .bool hw.v, .int .u32 (hw.n : Int), .int .u32 (hp : Int), .slice hA hl0.length hc, .slice RA L.length Rc] 46 :: Γ2) L.length
  · exact ⟨0, none, 0, [], ownTm Bh kh (⟨false, iss⟩ :: hl0) :: Γ, by omega, .cons _ (.refl _), ⟨has_at (up_src _ _ _ _) 0 rfl fun _ h => own_src h, hkh⟩, has_tls hLo, fun x hx => Atm.ok_tl (hLx x hx), by simp, rfl, Nat.le_refl _, rfl, rfl, rfl, rfl, rfl⟩
  rintro j IH ρ' _ ⟨i, D, kd, M, Γ2, hj, hsub, hho, hLo2, hLx2, hM, hpm, hkd, e3, e4, e5, e6, rfl⟩
  refine TK.know4 e3 e4 e5 e6 ?_
  have hMl : M.length = i := by have := congrArg List.length hpm; simp at this; omega
  by_cases hi : i < L.length
  · obtain ⟨⟨no, ⟨said, who, a⟩⟩, hx⟩ : ∃ x, L[i]? = some x := ⟨L[i], List.getElem?_eq_getElem hi⟩
    have hxm := List.mem_of_getElem? hx
    have ha30 : a.l.length ≤ 30 := hxs _ hxm
    have hao2 : a.ok Γ2 := hLx2 _ hxm
    refine TK.mem fun m0 hm0 => ?_
    obtain ⟨g, u, rfl⟩ := src_some ((has_tls (has_tls (has_tls (has_tls hLo2))) : has (_ :: _ :: _ :: _ :: Γ2) _) m0 hm0) (by rw [cdsC_len]; omega)
    clear hm0 m0
    have hel : has Γ2 (fun m => cellsAt m g (u + i * 6) [.bool no, .bool said, .bool who.v, .int .u32 (who.n : Int), .int .u32 (a.p : Int), .slice a.A a.l.length a.c]) := has_el (sz := 6) (f := Cd.cells) (fun _ => rfl) (by decide) hLo2 hx
    have hey : has Γ2 (fun m => cellsAt m g (u + i * 6 + 1) (Sy.cells ⟨said, who, a⟩)) := has_subc hel 1 5 rfl rfl
    refine m_run ?_
    refine TK.drawB mixed rfl 13 (row b5 [.int .u32 (hp : Int), .slice Bh ((⟨false, iss⟩ : Tm) :: hl0).length kh, .slice D i kd] 68 :: row b4 [.int .u32 0, .slice none 0 0, .slice none 0 0] 68 :: row b3 [.bool hs, .bool hw.v, .int .u32 (hw.n : Int), .int .u32 (hp : Int), .slice hA hl0.length hc, .slice (some ⟨g, u, none⟩) L.length Rc] 46 :: Γ2) Γ2 ?_
    refine m_bake (At.mk : At 0) ?_; refine m_bake (At.mk : At 1) ?_; refine m_bake (At.mk : At 2) ?_; refine m_bake (At.mk : At 3) ?_; refine m_bake (At.mk : At 4) ?_; refine m_bake (At.mk : At 5) ?_; refine m_bake (At.mk : At 6) ?_; refine m_bake (At.mk : At 7) ?_
    (apply TB.one 8; kernel_rfl; exact rfl; exact rfl)
    (apply TL.callV; exact rfl; exact callB_of (by kernel_rfl); exact rfl; exact fun _ h => h)
    exact rflat_t ⟨said, who, a⟩ _ (Atm.ok_tl (Atm.ok_tl (Atm.ok_tl (Atm.ok_tl hao2)))) (Nat.le_trans ha30 (by decide))
    rintro _ _ ⟨B7, k7, hk7, rfl, rfl⟩
    refine TL.backB (by (focus ((repeat (first | assumption | exact Ent.refl _ | apply Ent.tail)); done))) ?_
    (apply TB.takeA (At.mk : At 9); exact rfl; exact rfl; kernel_rfl; exact rfl; ((focus ((repeat (first | assumption | exact Ent.refl _ | apply Ent.tail)); done))); (apply PV.build tabs; exact rfl; exact rfl; exact rfl; exact rfl; exact rfl; exact (rfl : _ = Lt.cells ⟨false, ⟨a.p, B7, k7, who :: a.l⟩⟩)))
    (apply TB.one 10; kernel_rfl; exact rfl; exact rfl)
    (apply TL.buildSlice (l := Lt.cells ⟨false, ⟨a.p, B7, k7, who :: a.l⟩⟩); exact rfl; exact tb rfl; exact rfl; exact tb rfl; exact rfl; exact rfl; exact rfl; exact rfl; exact rfl)
    intro b10
    refine TL.backB (by (focus ((repeat (first | assumption | exact Ent.refl _ | apply Ent.tail)); done))) ?_
    (apply TB.one 11; kernel_rfl; exact rfl; exact rfl)
    (apply TL.append 2; exact rfl; exact rfl; exact tb rfl; exact rfl; exact tb rfl; exact rfl; exact rfl; exact rfl)
    · exact fun _ h => h
    · exact rfl
    · exact has_src_row 0 rfl rfl
    · exact by intro u hu; simp only [Lt.cells, Atm.cells, List.mem_cons, List.not_mem_nil, or_false] at hu; rcases hu with rfl | rfl | rfl <;> rfl
    · show (i + 1) * 40 ≤ _; omega
    · show i + 1 ≤ maxLen; unfold maxLen; omega
    · exact fun _ => (rfl : _ = _ :: _ :: _ :: _)
    intro D2 kd2 hkd2
    rw [show ltsC M ++ Lt.cells ⟨false, ⟨a.p, B7, k7, who :: a.l⟩⟩ = ltsC (M ++ [(⟨false, ⟨a.p, B7, k7, who :: a.l⟩⟩ : Lt)]) by simp [ltsC]]
    refine TL.backB (by (focus ((repeat (first | assumption | exact Ent.refl _ | apply Ent.tail)); done))) ?_
    refine m_bake (At.mk : At 12) ?_
    (apply TB.last; kernel_rfl; exact rfl)
    (apply TL.storeR 3; exact rfl; exact rfl; (exact m_val); exact rfl; exact tb rfl; exact rfl; exact rfl; (exact m_lst); exact (rfl : _ = _ :: _ :: _ :: _ :: _))
    refine TL.back (by (focus ((repeat (first | assumption | exact Ent.refl _ | apply Ent.tail)); done))) ?_
    refine TA.done (by kernel_rfl) ?_
    refine m_run ?_
    refine TK.drop ?_
    refine TK.perm (Δ := own 70 3 (.slice D2 (i + 1) kd2) (i + 1) (ltsC (M ++ [(⟨false, ⟨a.p, B7, k7, who :: a.l⟩⟩ : Lt)])) :: row b5 [.int .u32 (hp : Int), .slice Bh ((⟨false, iss⟩ : Tm) :: hl0).length kh, .slice D2 (i + 1) kd2] 68 :: row b4 [.int .u32 0, .slice none 0 0, .slice none 0 0] 68 :: row b3 [.bool hs, .bool hw.v, .int .u32 (hw.n : Int), .int .u32 (hp : Int), .slice hA hl0.length hc, .slice (some ⟨g, u, none⟩) L.length Rc] 46 :: ownTm B7 k7 (who :: a.l) :: Γ2) (List.perm_middle (a := ownTm B7 k7 (who :: a.l)) (l₁ := [own 70 3 (.slice D2 (i + 1) kd2) (i + 1) (ltsC (M ++ [(⟨false, ⟨a.p, B7, k7, who :: a.l⟩⟩ : Lt)])), row b5 [.int .u32 (hp : Int), .slice Bh ((⟨false, iss⟩ : Tm) :: hl0).length kh, .slice D2 (i + 1) kd2] 68, row b4 [.int .u32 0, .slice none 0 0, .slice none 0 0] 68, row b3 [.bool hs, .bool hw.v, .int .u32 (hw.n : Int), .int .u32 (hp : Int), .slice hA hl0.length hc, .slice (some ⟨g, u, none⟩) L.length Rc] 46]) (l₂ := Γ2)).symm ?_
    refine IH (j - 1) _ _ (by omega) ⟨i + 1, D2, kd2, M ++ [(⟨false, ⟨a.p, B7, k7, who :: a.l⟩⟩ : Lt)], ownTm B7 k7 (who :: a.l) :: Γ2, by omega, .cons _ hsub, Atm.ok_tl hho, has_tls hLo2, fun x hx => Atm.ok_tl (hLx2 x hx), fun x hx => ?_, ?_, hkd2, rfl, rfl, rfl, congrArg (Value.int .i64) (i64_succ i (by omega)), rfl⟩
    · rcases List.mem_append.1 hx with hx | hx
      · exact ⟨Atm.ok_tl (hM x hx).1, (hM x hx).2⟩
      · rw [List.mem_singleton.1 hx]
        exact ⟨⟨has_at (up_src _ _ _ _) 0 rfl fun _ h => own_src h, hk7⟩, by show (who :: a.l).length ≤ 31; simp; omega⟩
    · rw [List.map_append, hpm, List.take_add_one, hx, List.map_append]
      rfl
  · obtain rfl : i = L.length := by omega
    rw [List.take_length] at hpm
    rw [← hMl] at hkd ⊢
    refine m_run ?_
    (apply TK.retRow (i := 2) (Δ := own 70 3 (.slice D M.length kd) M.length (ltsC M) :: Γ2); exact rfl; exact rfl; exact rfl; exact rfl; exact tb rfl; exact rfl; exact (rfl : _ = Cl.cells ⟨⟨hp, Bh, kh, ⟨false, iss⟩ :: hl0⟩, D, kd, M⟩); exact rfl)
    · exact ⟨_, rfl, ⟨⟨hp, Bh, kh, ⟨false, iss⟩ :: hl0⟩, D, kd, M⟩, rfl, .cons _ hsub, ⟨Atm.ok_tl hho, has_at (up_src _ _ _ _) 0 rfl fun _ h => own_src h, hkd, fun x hx => Atm.ok_tl (hM x hx).1⟩, ⟨by show M.length ≤ 1000000; omega, by show (_ :: hl0).length ≤ 1000000; simp; omega, fun x hx => Nat.le_trans (hM x hx).2 (by decide)⟩, by simp only [pureC, hpm]⟩
    · (repeat (first | exact List.Sublist.refl _ | apply List.Sublist.cons_cons | apply List.Sublist.cons))
end Go.Proofs.Ythbcfamfaicneaa.E

/- The document on which credentials may be: rule and May, walked. -/
namespace Go.Proofs.Ythbcfamfaicneaa.E
open Go Go.RowKit Go.Proofs
attribute [local irreducible] TK TL TQ TA TB Fn PV
set_option maxRecDepth 100000 in
set_option maxHeartbeats 8000000 in
theorem rrule_t (c : Cr) (Γ : List HP) (h : c.ok Γ) (hn : c.few) : FnV Try.prog 123 [.agg c.cells.toArray] Γ fun v Γ' => v = .bool (ruleB c) ∧ Γ' = Γ := by
  refine Fn.enter Try.func123 rfl rfl rfl fun E => ?_
  obtain ⟨iss, ser, frm, til, kind, ⟨⟨hs, hw, ⟨hp, hA, hc, hl⟩⟩, RA, Rc, L⟩, p, args, to, dep⟩ := c
  have hRo : Rl.ok ⟨⟨hs, hw, ⟨hp, hA, hc, hl⟩⟩, RA, Rc, L⟩ Γ := h
  have hLo : has Γ (srcAt 6 RA L.length (cdsC L)) := hRo.2.1
  have hh30 : hl.length ≤ 30 := hn.2.1
  have hl30 : L.length ≤ 30 := hn.1
  have hx30 : ∀ x ∈ L, x.y.a.l.length ≤ 30 := hn.2.2
  clear hn h
  refine m_run ?_
  (apply TL.box; exact rfl; exact rfl; (exact m_lst))
  intro b1
  refine TL.imp (Δ := row b1 [.int .u32 (iss : Int), .int .u64 (ser : Int), .int .u64 (frm : Int), .int .u64 (til : Int), .int .u8 (kind : Int), .bool hs, .bool hw.v, .int .u32 (hw.n : Int), .int .u32 (hp : Int), .slice hA hl.length hc, .slice RA L.length Rc, .int .u32 (p : Int), .int .i64 args, .int .u32 (to : Int), .int .i64 dep] 48 :: Γ) (fun _ h => h) ?_
  have hbw : has (row b1 [.int .u32 (iss : Int), .int .u64 (ser : Int), .int .u64 (frm : Int), .int .u64 (til : Int), .int .u8 (kind : Int), .bool hs, .bool hw.v, .int .u32 (hw.n : Int), .int .u32 (hp : Int), .slice hA hl.length hc, .slice RA L.length Rc, .int .u32 (p : Int), .int .i64 args, .int .u32 (to : Int), .int .i64 dep] 48 :: Γ) (fun m => cellsAt m b1 6 (tmC hw)) := has_rows 0 rfl rfl
  by_cases hs0 : hs = true
  · subst hs0
    refine m_run ?_
    (apply TK.retS1; exact rfl; exact rfl; (exact m_val))
    exact ⟨_, rfl, rfl, rfl⟩
    (repeat (first | exact List.Sublist.refl _ | apply List.Sublist.cons_cons | apply List.Sublist.cons))
  obtain rfl : hs = false := by simpa using hs0
  refine m_run ?_
  (apply TL.pv; exact rfl; (apply PV.build tabs; exact rfl; exact rfl; exact rfl; exact rfl; exact rfl; exact (rfl : _ = tmC ⟨false, 0⟩)))
  refine TL.guard_yes rfl rfl rfl rfl ?_
  (apply TL.pv; exact rfl; (apply PV.neSt (xs := tmC hw) (ys := tmC ⟨false, 0⟩) tabs; exact rfl; exact rfl; exact rfl; exact rfl; kernel_rfl; kernel_rfl; exact congrArg some (tm0 hw)))
  by_cases hw0 : hw = ⟨false, 0⟩
  rotate_left
  · have hB : ruleB ⟨iss, ser, frm, til, kind, ⟨⟨false, hw, ⟨hp, hA, hc, hl⟩⟩, RA, Rc, L⟩, p, args, to, dep⟩ = false := by
      simp [ruleB, plainS, noWho, hw0]
    rw [hB]
    refine m_run ?_
    (apply TK.retS1; exact rfl; exact rfl; (exact m_val))
    exact ⟨_, rfl, rfl, rfl⟩
    (repeat (first | exact List.Sublist.refl _ | apply List.Sublist.cons_cons | apply List.Sublist.cons))
  have hB : ruleB ⟨iss, ser, frm, til, kind, ⟨⟨false, hw, ⟨hp, hA, hc, hl⟩⟩, RA, Rc, L⟩, p, args, to, dep⟩ = (decide (p = 0) && decide (args = 0) && decide (to = 0) && decide (dep = 0) && (L.all fun x => !x.no && x.y.s) && mayP (ruleC ⟨iss, ser, frm, til, kind, ⟨⟨false, hw, ⟨hp, hA, hc, hl⟩⟩, RA, Rc, L⟩, p, args, to, dep⟩) && heldP (ruleC ⟨iss, ser, frm, til, kind, ⟨⟨false, hw, ⟨hp, hA, hc, hl⟩⟩, RA, Rc, L⟩, p, args, to, dep⟩)) := by
    simp [ruleB, plainS, noWho, hw0]
  rw [hB]
  clear hB
  rw [decide_eq_true hw0]
  by_cases h1 : p = 0
  rotate_left
  · rw [decide_eq_false h1]
    refine m_run ?_
    (apply TK.retS1; exact rfl; exact rfl; (exact m_val))
    exact ⟨_, rfl, by simp, rfl⟩
    (repeat (first | exact List.Sublist.refl _ | apply List.Sublist.cons_cons | apply List.Sublist.cons))
  by_cases h2 : args = 0
  rotate_left
  · rw [decide_eq_false h2]
    refine m_run ?_
    (apply TK.retS1; exact rfl; exact rfl; (exact m_val))
    exact ⟨_, rfl, by simp, rfl⟩
    (repeat (first | exact List.Sublist.refl _ | apply List.Sublist.cons_cons | apply List.Sublist.cons))
  by_cases h3 : to = 0
  rotate_left
  · rw [decide_eq_false h3]
    refine m_run ?_
    (apply TK.retS1; exact rfl; exact rfl; (exact m_val))
    exact ⟨_, rfl, by simp, rfl⟩
    (repeat (first | exact List.Sublist.refl _ | apply List.Sublist.cons_cons | apply List.Sublist.cons))
  by_cases h4 : dep = 0
  rotate_left
  · rw [decide_eq_false h4]
    have h4' : (dep != 0) = true := by simpa using h4
    refine m_run ?_
    (apply TK.retS1; exact rfl; exact rfl; (exact m_val))
    exact ⟨_, rfl, by simp, rfl⟩
    (repeat (first | exact List.Sublist.refl _ | apply List.Sublist.cons_cons | apply List.Sublist.cons))
  subst h1
  subst h2
  subst h3
  subst h4
  refine m_run ?_
  apply TK.iter (fun j ρ' Γ' => ∃ i : Nat, i + j = L.length ∧ ((L.take i).all fun x => !x.no && x.y.s) = true ∧ lk ρ' 1 = .pointer (some ⟨b1, 0, none⟩) ∧ lk ρ' 3 = .int .i64 (i : Int) ∧ Γ' = row b1 [.int .u32 (iss : Int), .int .u64 (ser : Int), .int .u64 (frm : Int), .int .u64 (til : Int), .int .u8 (kind : Int), .bool false, .bool hw.v, .int .u32 (hw.n : Int), .int .u32 (hp : Int), .slice hA hl.length hc, .slice RA L.length Rc, .int .u32 ((0 : Nat) : Int), .int .i64 0, .int .u32 ((0 : Nat) : Int), .int .i64 0] 48 :: Γ) L.length
  · exact ⟨0, Nat.zero_add _, rfl, rfl, rfl, rfl⟩
  rintro j IH ρ' _ ⟨i, hij, hall, e1, e3, rfl⟩
  refine TK.know2 e1 e3 ?_
  by_cases hi : i < L.length
  · obtain ⟨⟨no, ⟨said, who, a⟩⟩, hx⟩ : ∃ x, L[i]? = some x := ⟨L[i], List.getElem?_eq_getElem hi⟩
    have hxm := List.mem_of_getElem? hx
    refine TK.mem fun m0 hm0 => ?_
    obtain ⟨g, u, rfl⟩ := src_some ((has_tls hLo : has (_ :: Γ) _) m0 hm0) (by rw [cdsC_len]; omega)
    clear hm0 m0
    have hel : has Γ (fun m => cellsAt m g (u + i * 6) [.bool no, .bool said, .bool who.v, .int .u32 (who.n : Int), .int .u32 (a.p : Int), .slice a.A a.l.length a.c]) := has_el (sz := 6) (f := Cd.cells) (fun _ => rfl) (by decide) hLo hx
    have hno : has Γ (fun m => cellAt m g (u + i * 6) (.bool no)) := has_imp hel fun m h => h 0 _ rfl
    have hsd : has Γ (fun m => cellAt m g (u + i * 6 + 1) (.bool said)) := has_imp hel fun m h => h 1 _ rfl
    clear hel
    have hbad : no = true ∨ said = false → (L.all fun x => !x.no && x.y.s) = false := fun hb => by
      rw [← Bool.not_eq_true, List.all_eq_true]
      intro h1
      have := h1 _ hxm
      rcases hb with hb | hb <;> simp [hb] at this
    cases no with
    | true =>
      rw [hbad (.inl rfl)]
      refine m_run ?_
      (apply TK.retS1; exact rfl; exact rfl; (exact m_val))
      exact ⟨_, rfl, by simp, rfl⟩
      (repeat (first | exact List.Sublist.refl _ | apply List.Sublist.cons_cons | apply List.Sublist.cons))
    | false =>
    cases said with
    | false =>
      rw [hbad (.inr rfl)]
      refine m_run ?_
      (apply TK.retS1; exact rfl; exact rfl; (exact m_val))
      exact ⟨_, rfl, by simp, rfl⟩
      (repeat (first | exact List.Sublist.refl _ | apply List.Sublist.cons_cons | apply List.Sublist.cons))
    | true =>
    refine m_run ?_
    exact IH (j - 1) _ _ (by omega) ⟨i + 1, by omega, by rw [List.take_add_one, hx, List.all_append, hall]; rfl, rfl, congrArg (Value.int .i64) (i64_succ i (by omega)), rfl⟩
  obtain rfl : i = L.length := by omega
  rw [List.take_length] at hall
  rw [hall]
  have hbr : has (row b1 [.int .u32 (iss : Int), .int .u64 (ser : Int), .int .u64 (frm : Int), .int .u64 (til : Int), .int .u8 (kind : Int), .bool false, .bool hw.v, .int .u32 (hw.n : Int), .int .u32 (hp : Int), .slice hA hl.length hc, .slice RA L.length Rc, .int .u32 ((0 : Nat) : Int), .int .i64 0, .int .u32 ((0 : Nat) : Int), .int .i64 0] 48 :: Γ) (fun m => cellsAt m b1 5 (Rl.cells ⟨⟨false, hw, ⟨hp, hA, hc, hl⟩⟩, RA, Rc, L⟩)) := has_rows 0 rfl rfl
  refine m_run ?_
  (apply TL.callV; exact rfl; exact callB_of (by kernel_rfl); exact rfl; exact fun _ h => h)
  exact rclause_t iss ⟨⟨false, hw, ⟨hp, hA, hc, hl⟩⟩, RA, Rc, L⟩ _ (Rl.ok_tl hRo) hh30 hl30 hx30
  rintro _ Γ3 ⟨X, rfl, hsub, hXo, hXs, hXp⟩
  have hXp' : pureC X = ruleC ⟨iss, ser, frm, til, kind, ⟨⟨false, hw, ⟨hp, hA, hc, hl⟩⟩, RA, Rc, L⟩, 0, 0, 0, 0⟩ := hXp
  rw [← hXp', ← mayC_pure, ← heldC_pure]
  obtain ⟨⟨xp, xA, xc, xl⟩, D, kd, M⟩ := X
  refine m_run ?_
  (apply TL.alloc; exact rfl; exact tb rfl; exact (rfl : _ = [_, _, _]))
  intro b4
  refine m_run ?_
  have hb4 : has (row b4 [.int .u32 (xp : Int), .slice xA xl.length xc, .slice D M.length kd] 68 :: Γ3) (fun m => cellsAt m b4 0 (Cl.cells ⟨⟨xp, xA, xc, xl⟩, D, kd, M⟩)) := has_rows 0 rfl rfl
  refine m_run ?_
  (apply TL.callV; exact rfl; exact callB_of (by kernel_rfl); exact rfl; exact fun _ h => h)
  exact rmay_t ⟨⟨xp, xA, xc, xl⟩, D, kd, M⟩ _ (Cl.ok_tl hXo) hXs
  rintro _ _ ⟨rfl, rfl⟩
  cases hm : mayC ⟨⟨xp, xA, xc, xl⟩, D, kd, M⟩ with
  | false =>
    refine m_run ?_
    (apply TK.retS1; exact rfl; exact rfl; (exact m_val))
    exact ⟨_, rfl, by simp, rfl⟩
    exact .cons _ ((List.sublist_cons_self _ _).trans hsub)
  | true =>
  refine m_run ?_
  (apply TL.callV; exact rfl; exact callB_of (by kernel_rfl); exact rfl; exact fun _ h => h)
  exact rsafe_t ⟨⟨xp, xA, xc, xl⟩, D, kd, M⟩ _ (Cl.ok_tl hXo) hXs
  rintro _ _ ⟨rfl, rfl⟩
  refine m_run ?_
  (apply TK.retS1; exact rfl; exact rfl; (exact m_val))
  exact ⟨_, rfl, by simp, rfl⟩
  exact .cons _ ((List.sublist_cons_self _ _).trans hsub)
set_option maxRecDepth 100000 in
set_option maxHeartbeats 8000000 in
theorem rcredMay_t (c : Cr) (Γ : List HP) (h : c.ok Γ) (hn : c.few) : FnV Try.prog 106 [.agg c.cells.toArray] Γ fun v Γ' => v = .bool (mayCr c) ∧ Γ' = Γ := by
  refine Fn.enter Try.func106 rfl rfl rfl fun E => ?_
  have hh30 : c.r.h.a.l.length ≤ 30 := hn.2.1
  have hl30 : c.r.l.length ≤ 30 := hn.1
  refine m_run ?_
  (apply TL.box; exact rfl; exact rfl; (exact m_lst))
  intro b1
  refine TL.imp (Δ := crRow b1 c :: Γ) (fun _ h => h) ?_
  have hb0 : has (crRow b1 c :: Γ) (fun m => cellsAt m b1 0 c.cells) := has_rows 0 rfl rfl
  by_cases h1 : c.frm < c.til
  rotate_left
  · refine m_run ?_
    (apply TK.retS1; exact rfl; exact rfl; (exact m_val))
    exact ⟨_, rfl, by unfold mayCr; rw [decide_eq_false h1]; simp, rfl⟩
    (repeat (first | exact List.Sublist.refl _ | apply List.Sublist.cons_cons | apply List.Sublist.cons))
  by_cases h2 : c.til ≤ 1099511627776
  rotate_left
  · refine m_run ?_
    (apply TK.retS1; exact rfl; exact rfl; (exact m_val))
    exact ⟨_, rfl, by unfold mayCr; rw [decide_eq_false h2]; simp, rfl⟩
    (repeat (first | exact List.Sublist.refl _ | apply List.Sublist.cons_cons | apply List.Sublist.cons))
  unfold mayCr
  rw [decide_eq_true h1, decide_eq_true h2, Bool.true_and, Bool.true_and]
  by_cases hk : c.kind = 1
  · refine m_run ?_
    (apply TL.callV; exact rfl; exact callB_of (by kernel_rfl); exact rfl; exact fun _ h => h)
    exact rrule_t c _ (Cr.ok_tl h) hn
    rintro _ _ ⟨rfl, rfl⟩
    refine m_run ?_
    (apply TK.retS1; exact rfl; exact rfl; (exact m_val))
    exact ⟨_, rfl, by simp [hk], rfl⟩
    (repeat (first | exact List.Sublist.refl _ | apply List.Sublist.cons_cons | apply List.Sublist.cons))
  by_cases hk2 : c.kind = 2
  rotate_left
  · refine m_run ?_
    (apply TK.retS1; exact rfl; exact rfl; (exact m_val))
    exact ⟨_, rfl, by simp [hk, hk2], rfl⟩
    (repeat (first | exact List.Sublist.refl _ | apply List.Sublist.cons_cons | apply List.Sublist.cons))
  rw [decide_eq_false hk, decide_eq_true hk2, Bool.false_and, Bool.false_or, Bool.true_and]
  have hby : has (crRow b1 c :: Γ) (fun m => cellsAt m b1 5 c.r.h.cells) := has_rows 0 rfl rfl
  refine m_run ?_
  (apply TL.alloc; exact rfl; exact tb rfl; exact (rfl : _ = [_, _, _, _, _]))
  intro b3
  refine m_rrun ?_
  refine TL.nil ?_
  refine TK.imp (Δ := row b3 [.bool c.r.h.s, .bool c.r.h.w.v, .int .u32 (c.r.h.w.n : Int), .int .u32 (c.r.h.a.p : Int), .slice c.r.h.a.A c.r.h.a.l.length c.r.h.a.c] 43 :: crRow b1 c :: Γ) (fun _ h => h) ?_
  have hbw : has (row b3 [.bool c.r.h.s, .bool c.r.h.w.v, .int .u32 (c.r.h.w.n : Int), .int .u32 (c.r.h.a.p : Int), .slice c.r.h.a.A c.r.h.a.l.length c.r.h.a.c] 43 :: crRow b1 c :: Γ) (fun m => cellsAt m b3 1 (tmC c.r.h.w)) := has_rows 0 rfl rfl
  cases hs : c.r.h.s with
  | true =>
    have hB : giveB c = false := by simp [giveB, plainS, hs]
    rw [hB]
    rw [hs] at hbw
    refine m_run ?_
    (apply TK.retS1; exact rfl; exact rfl; (exact m_val))
    exact ⟨_, rfl, rfl, rfl⟩
    (repeat (first | exact List.Sublist.refl _ | apply List.Sublist.cons_cons | apply List.Sublist.cons))
  | false =>
  rw [hs] at hbw
  refine m_run ?_
  (apply TL.pv; exact rfl; (apply PV.build tabs; exact rfl; exact rfl; exact rfl; exact rfl; exact rfl; exact (rfl : _ = tmC ⟨false, 0⟩)))
  refine TL.guard_yes rfl rfl rfl rfl ?_
  (apply TL.pv; exact rfl; (apply PV.eqSt (xs := tmC c.r.h.w) (ys := tmC ⟨false, 0⟩) tabs; exact rfl; exact rfl; exact rfl; exact rfl; kernel_rfl; kernel_rfl; exact congrArg some (tm0 c.r.h.w)))
  have hB : giveB c = (decide (c.r.h.w = ⟨false, 0⟩) && decide (c.r.h.a.p = 0) && decide (c.r.h.a.l.length = 0) && decide (c.r.l.length = 0) && decide (0 ≤ c.args) && decide (c.args < 6) && decide (0 ≤ c.dep) && decide (c.dep ≤ 3)) := by
    simp [giveB, plainS, noWho, hs]
  rw [hB]
  clear hB
  by_cases hw0 : c.r.h.w = ⟨false, 0⟩
  rotate_left
  · rw [decide_eq_false hw0]
    refine m_run ?_
    (apply TK.retS1; exact rfl; exact rfl; (exact m_val))
    exact ⟨_, rfl, by simp, rfl⟩
    (repeat (first | exact List.Sublist.refl _ | apply List.Sublist.cons_cons | apply List.Sublist.cons))
  rw [decide_eq_true hw0]
  by_cases h3 : c.r.h.a.p = 0
  rotate_left
  · rw [decide_eq_false h3]
    refine m_run ?_
    (apply TK.retS1; exact rfl; exact rfl; (exact m_val))
    exact ⟨_, rfl, by simp, rfl⟩
    (repeat (first | exact List.Sublist.refl _ | apply List.Sublist.cons_cons | apply List.Sublist.cons))
  rw [decide_eq_true h3]
  by_cases h4 : c.r.h.a.l.length = 0
  rotate_left
  · rw [decide_eq_false h4]
    refine m_run ?_
    (apply TK.retS1; exact rfl; exact rfl; (exact m_val))
    exact ⟨_, rfl, by simp, rfl⟩
    (repeat (first | exact List.Sublist.refl _ | apply List.Sublist.cons_cons | apply List.Sublist.cons))
  rw [decide_eq_true h4]
  by_cases h5 : c.r.l.length = 0
  rotate_left
  · rw [decide_eq_false h5]
    refine m_run ?_
    (apply TK.retS1; exact rfl; exact rfl; (exact m_val))
    exact ⟨_, rfl, by simp, rfl⟩
    (repeat (first | exact List.Sublist.refl _ | apply List.Sublist.cons_cons | apply List.Sublist.cons))
  rw [decide_eq_true h5]
  by_cases h6 : 0 ≤ c.args
  rotate_left
  · rw [decide_eq_false h6]
    refine m_run ?_
    (apply TK.retS1; exact rfl; exact rfl; (exact m_val))
    exact ⟨_, rfl, by simp, rfl⟩
    (repeat (first | exact List.Sublist.refl _ | apply List.Sublist.cons_cons | apply List.Sublist.cons))
  by_cases h7 : c.args < 6
  rotate_left
  · rw [decide_eq_false h7]
    refine m_run ?_
    (apply TK.retS1; exact rfl; exact rfl; (exact m_val))
    exact ⟨_, rfl, by simp, rfl⟩
    (repeat (first | exact List.Sublist.refl _ | apply List.Sublist.cons_cons | apply List.Sublist.cons))
  by_cases h8 : 0 ≤ c.dep
  rotate_left
  · rw [decide_eq_false h8]
    refine m_run ?_
    (apply TK.retS1; exact rfl; exact rfl; (exact m_val))
    exact ⟨_, rfl, by simp, rfl⟩
    (repeat (first | exact List.Sublist.refl _ | apply List.Sublist.cons_cons | apply List.Sublist.cons))
  rw [decide_eq_true h6, decide_eq_true h7, decide_eq_true h8]
  refine m_run ?_
  (apply TK.retS1; exact rfl; exact rfl; (exact m_val))
  exact ⟨_, rfl, by simp, rfl⟩
  (repeat (first | exact List.Sublist.refl _ | apply List.Sublist.cons_cons | apply List.Sublist.cons))
end Go.Proofs.Ythbcfamfaicneaa.E

/- Reach, plainly: spots told in rounds, against all chains. -/
namespace Go.Proofs.Ythbcfamfaicneaa.E.Rch
abbrev Sp := Nat × Nat
abbrev Stp := Sp × List Nat
/-! ### what is fresh -/
def fresh (S : List Sp) : List Stp → List Stp
  | [] => []
  | s :: L => if s.1 ∈ S then fresh S L else s :: fresh (S ++ [s.1]) L
theorem fresh_congr : ∀ (L : List Stp) {S S' : List Sp}, (∀ x, x ∈ S ↔ x ∈ S') → fresh S L = fresh S' L
  | [], _, _, _ => rfl
  | s :: L, S, S', h => by
    simp only [fresh, h s.1]
    split
    · exact fresh_congr L h
    · rw [fresh_congr L (S := S ++ [s.1]) (S' := S' ++ [s.1]) fun x => by simp [h x]]
theorem fresh_append : ∀ (A : List Stp) (S : List Sp) (B : List Stp), fresh S (A ++ B) = fresh S A ++ fresh (S ++ (fresh S A).map (·.1)) B
  | [], S, B => by simp [fresh]
  | s :: A, S, B => by
    simp only [List.cons_append, fresh]
    split
    · exact fresh_append A S B
    · rw [List.cons_append, fresh_append A (S ++ [s.1]) B]
      simp
theorem fresh_mem : ∀ (A : List Stp) (S : List Sp) (x : Sp), x ∈ S ++ (fresh S A).map (·.1) ↔ x ∈ S ∨ x ∈ A.map (·.1)
  | [], S, x => by simp [fresh]
  | s :: A, S, x => by
    simp only [fresh]
    split
    · rename_i h
      rw [fresh_mem A S x, List.map_cons, List.mem_cons]
      constructor
      · rintro (h1 | h1)
        · exact .inl h1
        · exact .inr (.inr h1)
      · rintro (h1 | rfl | h1)
        · exact .inl h1
        · exact .inl h
        · exact .inr h1
    · have := fresh_mem A (S ++ [s.1]) x
      rw [List.map_cons, List.map_cons, show S ++ s.1 :: (fresh (S ++ [s.1]) A).map (·.1) = S ++ [s.1] ++ (fresh (S ++ [s.1]) A).map (·.1) by simp, this]
      simp only [List.mem_append, List.mem_cons, List.not_mem_nil, or_false, or_assoc]
theorem fresh_none : ∀ (A : List Stp) (S : List Sp), (∀ s ∈ A, s.1 ∈ S) → fresh S A = []
  | [], _, _ => rfl
  | s :: A, S, h => by
    rw [fresh, if_pos (h s (List.mem_cons_self ..))]
    exact fresh_none A S fun x hx => h x (List.mem_cons_of_mem _ hx)
theorem fresh_find (f : Sp → Bool) : ∀ (A : List Stp) (S : List Sp), (∀ x ∈ S, f x = false) → (fresh S A).find? (fun s => f s.1) = A.find? (fun s => f s.1)
  | [], _, _ => rfl
  | s :: A, S, h => by
    rw [fresh]
    split
    · rename_i hs
      rw [List.find?_cons_of_neg (by simp [h _ hs]), fresh_find f A S h]
    · cases hf : f s.1 with
      | true => simp [List.find?_cons, hf]
      | false =>
        rw [List.find?_cons_of_neg (by simp [hf]), List.find?_cons_of_neg (by simp [hf])]
        exact fresh_find f A _ fun x hx => by
          rcases List.mem_append.1 hx with hx | hx
          · exact h x hx
          · rw [List.mem_singleton.1 hx]; exact hf
/-! ### chains -/
section
variable (K : List Nat) (nx : Sp → Nat → Option Sp)
def step1 (s : Stp) (i : Nat) : Option Stp := (nx s.1 i).map fun t => (t, s.2 ++ [i])
def exts (s : Stp) : List Stp := K.filterMap (step1 nx s)
theorem exts_sp (s : Stp) : (exts K nx s).map (·.1) = K.filterMap (nx s.1) := by
  unfold exts step1
  rw [List.map_filterMap]
  congr 1
  funext i
  cases nx s.1 i <;> rfl
def chs (s0 : Sp) : Nat → List Stp
  | 0 => [(s0, [])]
  | n + 1 => (chs s0 n).flatMap (exts K nx)
def allC (s0 : Sp) (n : Nat) : List Stp := (List.range n).flatMap (chs K nx s0)
theorem allC_succ (s0 : Sp) (n : Nat) : allC K nx s0 (n + 1) = allC K nx s0 n ++ chs K nx s0 n := by
  unfold allC
  rw [List.range_succ, List.flatMap_append]
  simp
def lvl (s0 : Sp) : Nat → List Stp × List Sp
  | 0 => ([(s0, [])], [s0])
  | n + 1 => (fresh (lvl s0 n).2 ((lvl s0 n).1.flatMap (exts K nx)), (lvl s0 n).2 ++ (fresh (lvl s0 n).2 ((lvl s0 n).1.flatMap (exts K nx))).map (·.1))
def told (s0 : Sp) (n : Nat) : List Stp := (List.range n).flatMap fun k => (lvl K nx s0 k).1
theorem told_succ (s0 : Sp) (n : Nat) : told K nx s0 (n + 1) = told K nx s0 n ++ (lvl K nx s0 n).1 := by
  unfold told
  rw [List.range_succ, List.flatMap_append]
  simp
theorem fresh_flat : ∀ (A : List Stp) (S S' : List Sp), (∀ t ∈ S, ∀ u ∈ K.filterMap (nx t), u ∈ S') → fresh S' (A.flatMap (exts K nx)) = fresh S' ((fresh S A).flatMap (exts K nx))
  | [], _, _, _ => rfl
  | s :: A, S, S', h => by
    rw [fresh]
    split
    · rename_i hs
      rw [List.flatMap_cons, fresh_append, fresh_none (exts K nx s) S' fun x hx => by
        refine h s.1 hs x.1 ?_
        rw [← exts_sp]
        exact List.mem_map.2 ⟨x, hx, rfl⟩]
      simp only [List.map_nil, List.append_nil, List.nil_append]
      exact fresh_flat A S S' h
    · rw [List.flatMap_cons, List.flatMap_cons, fresh_append, fresh_append]
      congr 1
      refine fresh_flat A (S ++ [s.1]) _ fun t ht u hu => ?_
      rw [fresh_mem]
      rcases List.mem_append.1 ht with ht | ht
      · exact .inl (h t ht u hu)
      · rw [List.mem_singleton.1 ht, ← exts_sp] at hu
        exact .inr hu
theorem mem_allC {s0 : Sp} {n : Nat} {s : Stp} : s ∈ allC K nx s0 n ↔ ∃ k, k < n ∧ s ∈ chs K nx s0 k := by
  unfold allC
  simp [List.mem_flatMap]
theorem lvl_spec (s0 : Sp) : ∀ n, (lvl K nx s0 n).1 = fresh ((allC K nx s0 n).map (·.1)) (chs K nx s0 n) ∧ ∀ x, x ∈ (lvl K nx s0 n).2 ↔ x ∈ (allC K nx s0 (n + 1)).map (·.1)
  | 0 => by
    refine ⟨rfl, fun x => ?_⟩
    rw [allC_succ]
    simp [lvl, allC, chs]
  | n + 1 => by
    obtain ⟨h1, h2⟩ := lvl_spec s0 n
    have h3 : (lvl K nx s0 (n + 1)).1 = fresh ((allC K nx s0 (n + 1)).map (·.1)) (chs K nx s0 (n + 1)) := by
      show fresh (lvl K nx s0 n).2 ((lvl K nx s0 n).1.flatMap (exts K nx)) = _
      rw [fresh_congr _ h2, h1, ← fresh_flat]
      · rfl
      · intro t ht u hu
        obtain ⟨s, hs, rfl⟩ := List.mem_map.1 ht
        obtain ⟨k, hk, hs⟩ := (mem_allC K nx).1 hs
        rw [← exts_sp] at hu
        obtain ⟨v, hv, rfl⟩ := List.mem_map.1 hu
        exact List.mem_map.2 ⟨v, (mem_allC K nx).2 ⟨k + 1, by omega, List.mem_flatMap.2 ⟨s, hs, hv⟩⟩, rfl⟩
    refine ⟨h3, fun x => ?_⟩
    have h4 : (lvl K nx s0 (n + 1)).2 = (lvl K nx s0 n).2 ++ (lvl K nx s0 (n + 1)).1.map (·.1) := rfl
    rw [h4, h3, List.mem_append, h2, ← List.mem_append, fresh_mem, allC_succ (n := n + 1), List.map_append, List.mem_append]
theorem told_spec (s0 : Sp) : ∀ n, told K nx s0 n = fresh [] (allC K nx s0 n)
  | 0 => rfl
  | n + 1 => by
    rw [told_succ, allC_succ, told_spec s0 n, (lvl_spec K nx s0 n).1, fresh_append]
    congr 1
    exact fresh_congr _ fun x => by
      rw [fresh_mem]
      simp
theorem lvl_nil (s0 : Sp) {n : Nat} (h : (lvl K nx s0 n).1 = []) : (lvl K nx s0 (n + 1)).1 = [] := by
  show fresh _ ((lvl K nx s0 n).1.flatMap (exts K nx)) = []
  rw [h]
  rfl
theorem told_stop (s0 : Sp) {n : Nat} (h : (lvl K nx s0 n).1 = []) : ∀ m, (lvl K nx s0 (n + m)).1 = [] ∧ told K nx s0 (n + m) = told K nx s0 n
  | 0 => ⟨h, rfl⟩
  | m + 1 => by
    obtain ⟨h1, h2⟩ := told_stop s0 h m
    refine ⟨lvl_nil K nx s0 h1, ?_⟩
    rw [← Nat.add_assoc, told_succ, h1, h2, List.append_nil]
theorem chs_left (hD : ∀ s i t, nx s i = some t → t.2 < s.2) (s0 : Sp) : ∀ n s, s ∈ chs K nx s0 n → s.1.2 + n ≤ s0.2
  | 0, s, h => by
    rw [List.mem_singleton.1 h]
    exact Nat.le_refl _
  | n + 1, s, h => by
    obtain ⟨u, hu, hs⟩ := List.mem_flatMap.1 h
    have h1 := chs_left hD s0 n u hu
    obtain ⟨i, _, hi⟩ := List.mem_filterMap.1 hs
    unfold step1 at hi
    cases hn : nx u.1 i with
    | none => rw [hn] at hi; cases hi
    | some t =>
      rw [hn] at hi
      injection hi with hi
      have := hD _ _ _ hn
      rw [← hi]
      show t.2 + (n + 1) ≤ _
      omega
theorem told_end (hD : ∀ s i t, nx s i = some t → t.2 < s.2) (s0 : Sp) {n : Nat} (h : (lvl K nx s0 n).1 = []) (m : Nat) (hm : s0.2 < m) : told K nx s0 n = fresh [] (allC K nx s0 m) := by
  rw [← told_spec]
  have hz : (lvl K nx s0 m).1 = [] := by
    rw [(lvl_spec K nx s0 m).1]
    cases hc : chs K nx s0 m with
    | nil => rfl
    | cons s L =>
      have := chs_left K nx hD s0 m s (by rw [hc]; exact List.mem_cons_self ..)
      omega
  rcases Nat.le_total n m with hnm | hnm
  · obtain ⟨k, rfl⟩ := Nat.exists_eq_add_of_le hnm
    exact ((told_stop K nx s0 h k).2).symm
  · obtain ⟨k, rfl⟩ := Nat.exists_eq_add_of_le hnm
    exact (told_stop K nx s0 hz k).2
/-- The document's way: from a chain all that go on with so many links. -/
def goes : Nat → Stp → List Stp
  | 0, s => [s]
  | n + 1, s => (exts K nx s).flatMap (goes n)
theorem goes_flat (s0 : Sp) (n : Nat) : goes K nx n (s0, []) = chs K nx s0 n := by
  have it : ∀ n (L : List Stp), L.flatMap (goes K nx (n + 1)) = (L.flatMap (goes K nx n)).flatMap (exts K nx) := by
    intro n
    induction n with
    | zero =>
      intro L
      have h1 : goes K nx 0 = fun s => [s] := rfl
      have h2 : goes K nx 1 = exts K nx := by
        funext s
        show (exts K nx s).flatMap (goes K nx 0) = _
        rw [h1]
        simp
      rw [h1, h2]
      simp
    | succ n ih =>
      intro L
      have a1 : L.flatMap (goes K nx (n + 2)) = (L.flatMap (exts K nx)).flatMap (goes K nx (n + 1)) := by rw [List.flatMap_assoc]; rfl
      have a2 : L.flatMap (goes K nx (n + 1)) = (L.flatMap (exts K nx)).flatMap (goes K nx n) := by rw [List.flatMap_assoc]; rfl
      rw [a1, ih, a2]
  induction n with
  | zero => rfl
  | succ n ih =>
    have := it n [(s0, [])]
    simp only [List.flatMap_cons, List.flatMap_nil, List.append_nil] at this
    rw [this, ih]
    rfl
/-! ### ways -/
def runW (t : Sp) : List Nat → Option Sp
  | [] => some t
  | i :: w => if i ∈ K then (nx t i).bind fun u => runW u w else none
theorem runW_append (w : List Nat) : ∀ (v : List Nat) (t : Sp), runW K nx t (v ++ w) = (runW K nx t v).bind fun u => runW K nx u w
  | [], t => rfl
  | i :: v, t => by
    simp only [List.cons_append, runW]
    split
    · cases nx t i with
      | none => rfl
      | some u => exact runW_append w v u
    · rfl
theorem mem_chs (s0 : Sp) : ∀ (n : Nat) (t : Sp) (w : List Nat), (t, w) ∈ chs K nx s0 n ↔ w.length = n ∧ runW K nx s0 w = some t
  | 0, t, w => by
    constructor
    · intro h
      have := List.mem_singleton.1 h
      injection this with h1 h2
      subst h1; subst h2
      exact ⟨rfl, rfl⟩
    · rintro ⟨h1, h2⟩
      obtain rfl := List.length_eq_zero_iff.1 h1
      injection h2 with h2
      subst h2
      exact List.mem_singleton.2 rfl
  | n + 1, t, w => by
    constructor
    · intro h
      obtain ⟨⟨u, v⟩, hu, hs⟩ := List.mem_flatMap.1 h
      obtain ⟨h1, h2⟩ := (mem_chs s0 n u v).1 hu
      obtain ⟨i, hi, hs⟩ := List.mem_filterMap.1 hs
      unfold step1 at hs
      cases hn : nx u i with
      | none => simp [hn] at hs
      | some x =>
        simp only [hn, Option.map_some, Option.some.injEq, Prod.mk.injEq] at hs
        obtain ⟨rfl, rfl⟩ := hs
        refine ⟨by simp [h1], ?_⟩
        rw [runW_append, h2]
        simp [runW, hi, hn]
    · rintro ⟨h1, h2⟩
      obtain ⟨v, i, rfl⟩ : ∃ v i, w = v ++ [i] := by
        rcases List.eq_nil_or_concat w with rfl | ⟨v, i, rfl⟩
        · simp at h1
        · exact ⟨v, i, List.concat_eq_append⟩
      rw [runW_append] at h2
      cases hr : runW K nx s0 v with
      | none => simp [hr] at h2
      | some u =>
        rw [hr] at h2
        simp only [Option.bind_some, runW] at h2
        split at h2
        · rename_i hi
          refine List.mem_flatMap.2 ⟨(u, v), (mem_chs s0 n u v).2 ⟨by simp at h1; omega, hr⟩, List.mem_filterMap.2 ⟨i, hi, ?_⟩⟩
          unfold step1
          cases hn : nx u i with
          | none => simp [hn] at h2
          | some x => simp [hn] at h2 ⊢; exact h2
        · cases h2
theorem find_first {f : Stp → Bool} (s0 : Sp) : ∀ {N : Nat} {t : Sp} {w : List Nat}, (allC K nx s0 N).find? f = some (t, w) → runW K nx s0 w = some t ∧ ∀ t' w', w'.length < w.length → runW K nx s0 w' = some t' → f (t', w') = false
  | 0, t, w, h => by cases h
  | N + 1, t, w, h => by
    rw [allC_succ, List.find?_append] at h
    cases h1 : (allC K nx s0 N).find? f with
    | some s =>
      rw [h1] at h
      injection h with h
      subst h
      exact find_first s0 h1
    | none =>
      rw [h1] at h
      have h2 := List.mem_of_find?_eq_some (show (chs K nx s0 N).find? f = some (t, w) from h)
      obtain ⟨h3, h4⟩ := (mem_chs K nx s0 N t w).1 h2
      refine ⟨h4, fun t' w' hl hr => ?_⟩
      have := List.find?_eq_none.1 h1 (t', w') ((mem_allC K nx).2 ⟨w'.length, by omega, (mem_chs K nx s0 _ t' w').2 ⟨rfl, hr⟩⟩)
      simpa using this
theorem twice_of : ∀ {w : List Nat}, ¬ w.Nodup → ∃ p q r i, w = p ++ i :: (q ++ i :: r)
  | [], h => absurd List.nodup_nil h
  | y :: w, h => by
    by_cases hy : y ∈ w
    · obtain ⟨q, r, rfl⟩ := List.append_of_mem hy
      exact ⟨[], q, r, y, rfl⟩
    · have hw : ¬ w.Nodup := fun hw => h (List.nodup_cons.2 ⟨hy, hw⟩)
      obtain ⟨p, q, r, i, rfl⟩ := twice_of hw
      exact ⟨y :: p, q, r, i, rfl⟩
structure Law : Prop where
  down : ∀ s i t, nx s i = some t → t.2 < s.2
  one : ∀ s i t s' t', nx s i = some t → nx s' i = some t' → s.1 = s'.1 ∧ t.1 = t'.1
  more : ∀ a k m i t, nx (a, k) i = some t → k ≤ m → ∃ m', nx (a, m) i = some (t.1, m') ∧ t.2 ≤ m'
variable {K nx}
theorem runW_down (hL : Law nx) : ∀ {w : List Nat} {s t : Sp}, runW K nx s w = some t → t.2 ≤ s.2
  | [], s, t, h => by injection h with h; rw [h]; exact Nat.le_refl _
  | i :: w, s, t, h => by
    simp only [runW] at h
    split at h
    · cases hn : nx s i with
      | none => simp [hn] at h
      | some u =>
        rw [hn] at h
        have h1 := runW_down hL h
        have h2 := hL.down _ _ _ hn
        omega
    · cases h
theorem runW_more (hL : Law nx) : ∀ {w : List Nat} {a k m : Nat} {t : Sp}, runW K nx (a, k) w = some t → k ≤ m → ∃ m', runW K nx (a, m) w = some (t.1, m') ∧ t.2 ≤ m'
  | [], a, k, m, t, h, hk => by injection h with h; subst h; exact ⟨m, rfl, hk⟩
  | i :: w, a, k, m, t, h, hk => by
    simp only [runW] at h ⊢
    split at h
    · rename_i hi
      cases hn : nx (a, k) i with
      | none => simp [hn] at h
      | some u =>
        rw [hn] at h
        obtain ⟨m1, h1, h2⟩ := hL.more a k m i u hn hk
        obtain ⟨m2, h3, h4⟩ := runW_more hL (a := u.1) (k := u.2) (m := m1) h h2
        refine ⟨m2, ?_, h4⟩
        rw [if_pos hi, h1]
        exact h3
    · cases h
theorem least_nodup (hL : Law nx) {s0 : Sp} {N x : Nat} {t : Sp} {w : List Nat} (h : (allC K nx s0 N).find? (fun s => decide (s.1.1 = x)) = some (t, w)) : w.Nodup := by
  have hx : t.1 = x := by simpa using List.find?_some h
  obtain ⟨h1, h2⟩ := find_first K nx s0 h
  refine Classical.byContradiction fun hno => ?_
  obtain ⟨p, q, r, i, rfl⟩ := twice_of hno
  rw [runW_append] at h1
  cases hp : runW K nx s0 p with
  | none => simp [hp] at h1
  | some u =>
  rw [hp] at h1
  simp only [Option.bind_some, runW] at h1
  split at h1
  · rename_i hi
    cases hn : nx u i with
    | none => simp [hn] at h1
    | some v =>
    rw [hn] at h1
    simp only [Option.bind_some] at h1
    rw [runW_append] at h1
    cases hq : runW K nx v q with
    | none => simp [hq] at h1
    | some u2 =>
    rw [hq] at h1
    simp only [Option.bind_some, runW] at h1
    rw [if_pos hi] at h1
    cases hn2 : nx u2 i with
    | none => simp [hn2] at h1
    | some v2 =>
    rw [hn2] at h1
    simp only [Option.bind_some] at h1
    have hd1 := hL.down _ _ _ hn
    have hd2 := runW_down hL hq
    obtain ⟨ha, hb⟩ := hL.one _ _ _ _ _ hn hn2
    obtain ⟨m', h3, h4⟩ := hL.more u2.1 u2.2 u.2 i v2 hn2 (by omega)
    rw [← ha, show ((u.1, u.2) : Sp) = u from rfl, hn] at h3
    injection h3 with h3
    have hv : v = (v2.1, v.2) := by rw [h3]
    have hm : v2.2 ≤ v.2 := by rw [h3]; exact h4
    obtain ⟨m2, h5, _⟩ := runW_more hL (a := v2.1) (k := v2.2) (m := v.2) h1 hm
    rw [← hv] at h5
    have h6 := h2 (t.1, m2) (p ++ i :: r) (by simp; omega) (by
      rw [runW_append, hp]
      simp only [Option.bind_some, runW]
      rw [if_pos hi, hn]
      exact h5)
    simp [hx] at h6
  · cases h1
/-- Without a link that is not on the way it is reached too. -/
theorem reach_less {s0 : Sp} {N x k : Nat} {t : Sp} {w : List Nat} (h : (allC K nx s0 N).find? (fun s => decide (s.1.1 = x)) = some (t, w)) (hk : k ∉ w) : ((allC (K.filter (· ≠ k)) nx s0 N).find? (fun s => decide (s.1.1 = x))).isSome = true := by
  have hx : t.1 = x := by simpa using List.find?_some h
  obtain ⟨n, hn, hm⟩ := (mem_allC K nx).1 (List.mem_of_find?_eq_some h)
  obtain ⟨h1, h2⟩ := (mem_chs K nx s0 n t w).1 hm
  rw [List.find?_isSome]
  have hr : ∀ (w : List Nat) (s : Sp), k ∉ w → runW K nx s w = some t → runW (K.filter (· ≠ k)) nx s w = some t := by
    intro w
    induction w with
    | nil => exact fun _ _ h => h
    | cons i w ih =>
      intro s hk h
      simp only [List.mem_cons, not_or] at hk
      simp only [runW] at h ⊢
      split at h
      · rename_i hi
        rw [if_pos (List.mem_filter.2 ⟨hi, by simpa using fun e => hk.1 e.symm⟩)]
        cases hn : nx s i with
        | none => simp [hn] at h
        | some u =>
          rw [hn] at h
          exact ih u hk.2 h
      · cases h
  exact ⟨(t, w), (mem_allC _ nx).2 ⟨n, hn, (mem_chs _ nx s0 n t w).2 ⟨h1, hr w s0 hk h2⟩⟩, by simp [hx]⟩
theorem way_mem {s0 : Sp} : ∀ {w : List Nat} {t : Sp}, runW K nx s0 w = some t → ∀ i ∈ w, i ∈ K := by
  intro w
  induction w generalizing s0 with
  | nil => simp
  | cons i w ih =>
    intro t h j hj
    simp only [runW] at h
    split at h
    · rename_i hi
      rcases List.mem_cons.1 hj with rfl | hj
      · exact hi
      · cases hn : nx s0 i with
        | none => simp [hn] at h
        | some u =>
          rw [hn] at h
          exact ih h j hj
    · cases h
/-- The same chains by other numbers. -/
theorem renum {K' : List Nat} {nx' : Sp → Nat → Option Sp} (ρ : Nat → Nat) (hK : K'.map ρ = K) (hn : ∀ s i, nx' s i = nx s (ρ i)) (s0 : Sp) : ∀ n, (chs K' nx' s0 n).map (·.1) = (chs K nx s0 n).map (·.1)
  | 0 => rfl
  | n + 1 => by
    have h : ∀ (K : List Nat) (nx : Sp → Nat → Option Sp), (chs K nx s0 (n + 1)).map (·.1) = ((chs K nx s0 n).map (·.1)).flatMap fun t => K.filterMap (nx t) := by
      intro K nx
      show ((chs K nx s0 n).flatMap (exts K nx)).map (·.1) = _
      rw [List.map_flatMap, List.flatMap_map]
      congr 1
      funext s
      exact exts_sp K nx s
    rw [h, h, renum ρ hK hn s0 n]
    congr 1
    funext t
    rw [← hK, List.filterMap_map]
    congr 1
    funext i
    exact hn t i
theorem find_sp (f : Sp → Bool) {A B : List Stp} (h : A.map (·.1) = B.map (·.1)) : (A.find? fun s => f s.1).isSome = (B.find? fun s => f s.1).isSome := by
  have : ∀ A : List Stp, (A.find? fun s => f s.1).isSome = (A.map (·.1)).any f := fun A => by
    rw [Bool.eq_iff_iff, List.find?_isSome, List.any_map, List.any_eq_true]
    rfl
  rw [this, this, h]
theorem renum_all {K' : List Nat} {nx' : Sp → Nat → Option Sp} (ρ : Nat → Nat) (hK : K'.map ρ = K) (hn : ∀ s i, nx' s i = nx s (ρ i)) (s0 : Sp) (n : Nat) : (allC K' nx' s0 n).map (·.1) = (allC K nx s0 n).map (·.1) := by
  unfold allC
  rw [List.map_flatMap, List.map_flatMap]
  congr 1
  funext k
  exact renum ρ hK hn s0 k
end
theorem sorted_eq : ∀ {l m : List Nat}, l.Pairwise (· < ·) → m.Pairwise (· < ·) → (∀ x, x ∈ l ↔ x ∈ m) → l = m
  | [], [], _, _, _ => rfl
  | [], y :: m, _, _, h => absurd ((h y).2 (List.mem_cons_self ..)) (by simp)
  | x :: l, [], _, _, h => absurd ((h x).1 (List.mem_cons_self ..)) (by simp)
  | x :: l, y :: m, hl, hm, h => by
    have h1 := List.pairwise_cons.1 hl
    have h2 := List.pairwise_cons.1 hm
    have hxy : x = y := by
      have hx := (h x).1 (List.mem_cons_self ..)
      have hy := (h y).2 (List.mem_cons_self ..)
      rcases List.mem_cons.1 hx with hx | hx
      · exact hx
      · rcases List.mem_cons.1 hy with hy | hy
        · exact hy.symm
        · have := h1.1 y hy
          have := h2.1 x hx
          omega
    subst hxy
    congr 1
    refine sorted_eq h1.2 h2.2 fun z => ?_
    have hz := h z
    simp only [List.mem_cons] at hz
    constructor
    · intro hzl
      rcases hz.1 (.inr hzl) with e | e
      · exact absurd (h1.1 z hzl) (by omega)
      · exact e
    · intro hzm
      rcases hz.2 (.inr hzm) with e | e
      · exact absurd (h2.1 z hzm) (by omega)
      · exact e
end Go.Proofs.Ythbcfamfaicneaa.E.Rch

/- MY OWN LAYER: append onto a slice that is only read and has no room; x[:n:n]; existential assertions. P is a variable. -/
namespace Go.Proofs.Ythbcfamfaicneaa.E
open Go Go.RowKit
theorem Fn.ex {α : Type} {P : Program} {f : FuncId} {args : List Value} {Γ : List HP} {H : α → HP} {R : Ending → List HP → Prop} (h : ∀ x, Fn P f args (H x :: Γ) R) : Fn P f args ((fun m => ∃ x, H x m) :: Γ) R := by
  intro E w hE
  obtain ⟨h1, h2, m1, ⟨a1, b1, hd, rfl, ⟨y, hy⟩, hb⟩, h3⟩ := hE
  exact h y E w ⟨h1, h2, _, ⟨a1, b1, hd, rfl, hy, hb⟩, h3⟩
theorem TK.ex {α : Type} {cx : Cx} {k : List Item} {ρ : Env} {ds : List Deferred} {Γ : List HP} {H : α → HP} (h : ∀ x, TK cx k ρ ds (H x :: Γ)) : TK cx k ρ ds ((fun m => ∃ x, H x m) :: Γ) := by
  intro a w hr hE
  obtain ⟨h1, h2, m1, ⟨a1, b1, hd, rfl, ⟨y, hy⟩, hb⟩, h3⟩ := hE
  exact h y a w hr ⟨h1, h2, _, ⟨a1, b1, hd, rfl, hy, hb⟩, h3⟩
theorem has_sublist {Γ Δ : List HP} {p : Mem → Prop} (hp : Up p) (hs : Γ.Sublist Δ) (h : has Γ p) : has Δ p := fun m hm => by
  obtain ⟨m', h1, h2⟩ := all_sub hs hm
  exact hp m' m h1 (h m' h2)
section
variable {cx : Cx} {ops : Array Oper} {k : Act → World → Prop} {rest : List Oper} {ρ : Env} {ds : List Deferred} {Γ : List HP} {d : Nat} {ty : TypeId} {pos : String} {after : Array Edge}
/-- append onto x[:n:n], with something behind. -/
theorem TL.appendF {t e : TypeId} {x y : Operand} {A B : Option Addr} {n m c z s : Nat} {cs news : List Value} {r r' : TR} (hd : Nat.blt d cx.n = true) (ht : TabOk cx.P t r) (hq : r.und = .slice e) (ht' : TabOk cx.P e r') (hz0 : r'.size = z) (hsz : Nat.blt 0 r'.size = true)
    (hzs : (r'.zero.cells.size == r'.size) = true) (ea : ev ρ x = .slice B n n) (hx : has Γ (srcAt z B n cs)) (eb : ev ρ y = .slice A m c) (hs : has Γ (srcAt z A m news)) (h1 : ∀ u ∈ news, u.oneCell' = true) (hm0 : 0 < m) (hb : (n + m) * r'.bytes ≤ 140737488355328) (h63 : n + m ≤ maxLen) (hnm : n + m = s)
    (h : ∀ A' c', s ≤ c' → TL cx ops k rest ((d, .slice A' s c') :: ρ) ds (own e z (.slice A' s c') s (cs ++ news) :: Γ)) : TL cx ops k (⟨some d, .call ⟨.builtin .append, #[x, y], #[t, t]⟩, ty, pos, after, none⟩ :: rest) ρ ds Γ := by
  subst hz0; subst hnm
  refine .act (X := Option Addr × Nat) (φ := fun p => n + m ≤ p.2) (v := fun p => .slice p.1 (n + m) p.2) (Δ := fun p => own e r'.size (.slice p.1 (n + m) p.2) (n + m) (cs ++ news) :: Γ) hd (fun w hS => ?_) (fun p hp => h p.1 p.2 hp)
  have hu : cx.P.underlying t = some (.slice e) := by rw [← hq]; exact ht.1
  obtain ⟨_, inf, hinf, h2, h3, hz⟩ := id ht'
  have hzs' : r'.zero.cells.size = r'.size := by simpa using hzs
  have hsrc := src_of hS (tx := t) (e' := e) (c := c) hu (by simpa using hsz) hs h1
  have hnl := hsrc.newsLen
  have h63' : ((n + m : Nat) : Int) ≤ 9223372036854775807 := by unfold maxLen at h63; omega
  have hold : (Builtin.firstCells inf.size n (.slice B n n)).run cx.P w.drew = .ok cs.toArray w.drew ∧ cs.length = n * r'.size := by
    obtain ⟨m0, hm0', hw0⟩ := hS.mem
    obtain ⟨hl, hcase⟩ := hx m0 hm0'
    refine ⟨?_, hl⟩
    rcases hcase with rfl | ⟨b, o, rfl, hat⟩
    · have hn0 : n = 0 := by
        have : n * r'.size = 0 := by simpa using hl.symm
        rcases Nat.mul_eq_zero.1 this with h | h
        · exact h
        · have : 0 < r'.size := by simpa using hsz
          omega
      subst hn0
      cases B with
      | none => exact run_firstCells_none w.drew inf.size 0 0 0
      | some a => exact run_firstCells_some w.drew inf.size 0 a 0 0 [] (by simp) (by simp)
    · refine run_firstCells_some w.drew inf.size n _ n n cs (by rw [h2]; exact hl) fun j u hj => ?_
      rw [add_at, World.cell?_drew]
      exact hS.cell (has_imp hx fun m1 hm1 => by
        rcases hm1.2 with h | ⟨b', o', e', h⟩
        · rw [h] at hj; simp at hj
        · injection e' with e'; injection e' with e1 e2 _
          subst e1; subst e2
          exact h j u hj)
  have hcl := hold.2
  have hrun := run_append_grow_src (P := cx.P) w t t ty e inf r'.zero hu hinf hz B n n cs hold.1 (.slice A m c) m news (by rw [h2]; exact hsrc) (by omega) h63' (growslice_fits (by omega) (by rw [h3]; exact hb))
  refine ⟨(some ⟨w.heap.size, 0, none⟩, grownCap w (n + m) n e), _, grownCap_ge w (n + m) n e, ?_, by
    simp only [execOp, resolve, invoke, builtin, List.map_toArray, List.map_cons, List.map_nil, ea, eb, Sem.run_bind, Sem.run_pure, Result.andThen_ok]
    rw [hrun]
    rfl⟩
  refine (hS.drew.alloc _).imp fun m' hm' => ?_
  refine sep_mono hm' (fun q hq => ?_) (fun _ => id)
  refine ⟨by simp [hcl, hnl, Nat.add_mul], .inr ⟨_, _, (cs ++ news) ++ (Builtin.zeroCells r'.zero.cells (grownCap w (n + m) n e - (n + m))).toList, rfl, grownCap_ge w (n + m) n e, grownCap_le_maxLen w _ _ e h63, ?_, ?_, ?_⟩⟩
  · rw [List.length_append, List.length_append, size_zeroCells', hcl, hnl, hzs', ← Nat.add_mul, ← Nat.add_mul]
    congr 1
    have := grownCap_ge w (n + m) n e
    omega
  · have : (n + m) * r'.size = (cs ++ news).length := by simp [hcl, hnl, Nat.add_mul]
    rw [this, List.take_left']
    rfl
  · have e1 : ((cs ++ news) ++ (Builtin.zeroCells r'.zero.cells (grownCap w (n + m) n e - (n + m))).toList).toArray = (cs ++ news).toArray ++ Builtin.zeroCells r'.zero.cells (grownCap w (n + m) n e - (n + m)) := by simp
    show pt _ _ q
    rw [e1]
    exact hq
/-- x[:n:n]. -/
theorem PV.sliceC {P : Program} {S : World → Prop} {t e : TypeId} {x y y' : Operand} {A : Option Addr} {n c : Nat} {q q' : IntKind} {r r' : TR} (ea : ev ρ x = .slice A n c) (ht : TabOk P t r) (hq : r.und = .slice e) (ht' : TabOk P e r') (e1 : ev ρ y = .int q (n : Int)) (e2 : ev ρ y' = .int q' (n : Int)) (hc : n ≤ c) :
    PV P ρ S ⟨some d, .slice t x none (some y) (some y'), ty, pos, after, none⟩ (.slice A n n) := fun w _ => by
  have h3 : (0 : Int) ≤ (n : Int) := by omega
  cases A <;> simp [execOp, Instr.sliceAt, Instr.slice, Instr.sliceBounds, Instr.sliceBound, asIntOf, ea, e1, e2, ht.run_und, hq, ht'.run_size, h3, hc]
  rename_i a
  intro _
  cases a
  simp [Addr.add]
end
end Go.Proofs.Ythbcfamfaicneaa.E

/- MY OWN LAYER: keys of two plain fields (a uint32, an int). P is a variable. -/
namespace Go.Proofs.Ythbcfamfaicneaa.E
open Go Go.RowKit
def spotL (s : Nat × Nat) : List Value := [.int .u32 (s.1 : Int), .int .i64 (s.2 : Int)]
def spotV (s : Nat × Nat) : Value := .agg (spotL s).toArray
theorem keySpot {P : Program} {tab : List TR} (hT : TabsOk P tab) {kt : TypeId} {r r1 r2 : TR} {f1 f2 : Field} (ht : tab[kt]? = some r) (hq : r.und = .struct [f1, f2].toArray) (hs : P.stoodInHeld kt = false) (h1 : tab[f1.type]? = some r1) (h2 : tab[f2.type]? = some r2) (q1 : r1.und = .int .u32) (q2 : r2.und = .int .i64)
    (n1 : (f1.name == "_") = false) (n2 : (f2.name == "_") = false) (o1 : f1.offset = 0) (o2 : f2.offset = 1) : KeyOk P kt spotV := by
  have hf := fieldsOf_of (hT _ _ ht) hq
  have hu : P.underlying kt = some (.struct [f1, f2].toArray) := by rw [← hq]; exact (hT _ _ ht).1
  have hn1 : ¬ f1.name = "_" := by simpa using n1
  have hn2 : ¬ f2.name = "_" := by simpa using n2
  have hE : ∀ a b : Nat × Nat, eqFs tab (spotL a) (spotL b) [f1, f2] = some (decide (a = b)) := fun a b => by
    obtain ⟨a1, a2⟩ := a
    obtain ⟨b1, b2⟩ := b
    simp only [eqFs, hn1, hn2, h1, h2, q1, q2, o1, o2, spotL, if_false, Option.bind_some, isAggD, eqC, List.getElem?_cons_zero, List.getElem?_cons_succ, if_true, Option.map_some, Bool.and_true, Prod.mk.injEq, Bool.false_eq_true]
    congr 1
    rw [Bool.eq_iff_iff]
    simp only [Bool.and_eq_true, beq_iff_eq, decide_eq_true_eq]
    omega
  have heq : ∀ a b (w : World), (Op.equal kt (spotV a) (spotV b)).run P w = .ok (decide (a = b)) w := fun a b w => by
    have h3 := run_eqFs hT (spotL a) (spotL b) 9998 w [f1, f2] _ (hE a b)
    rw [← hf.2, ← run_equalIn_agg w 9999 kt (spotL a).toArray (spotL b).toArray hf.1 hs] at h3
    exact h3
  have hask : ∀ (k : Nat × Nat) (L : List MapEntry) (es : List (Nat × Nat)) (i : Nat) (w : World), L.map (·.key) = es.map spotV →
      (Instr.findAsking kt (spotV k) L i).run P w = .ok ((es.findIdx? (fun x => decide (k = x))).map fun j => (i + j, ((L[j]?).map (·.val)).getD undef)) w := by
    intro k L
    induction L with
    | nil =>
      intro es i w h
      cases es with
      | nil => rfl
      | cons e es => simp at h
    | cons x L ih =>
      intro es i w h
      cases es with
      | nil => simp at h
      | cons e es =>
        simp only [List.map_cons, List.cons.injEq] at h
        simp only [Instr.findAsking, Sem.run_bind, h.1, heq, Result.andThen_ok, Sem.run_ite, List.findIdx?_cons]
        by_cases hk : k = e
        · simp [hk]
        · simp only [hk, decide_false]
          rw [ih es (i + 1) w h.2]
          simp only [Bool.false_eq_true, if_false, Option.map_map]
          congr 2
          funext j
          simp [Nat.add_assoc, Nat.add_comm 1 j]
  refine ⟨fun k L es w h => ?_, fun k em w => ?_, fun k w => ?_⟩
  · simp only [Instr.findKey, Sem.run_bind, run_underlying hu, Result.andThen_ok]
    cases L with
    | nil =>
      cases es with
      | nil => rfl
      | cons e es => simp at h
    | cons x L =>
      have : Instr.findNow (.struct [f1, f2].toArray) (spotV k) (x :: L) 0 = none := rfl
      rw [this]
      have := hask k (x :: L) es 0 w h
      simpa using this
  · have hr1 := hT _ _ h1
    have hr2 := hT _ _ h2
    have p1 : (part f1.type (spotL k).toArray f1.offset).run P w = .ok (.int .u32 (k.1 : Int)) w := by
      simp only [part, Sem.run_bind, hr1.run_agg, Result.andThen_ok, q1, isAggD, Sem.run_ite, o1, spotL]
      simp
    have p2 : (part f2.type (spotL k).toArray f2.offset).run P w = .ok (.int .i64 (k.2 : Int)) w := by
      simp only [part, Sem.run_bind, hr2.run_agg, Result.andThen_ok, q2, isAggD, Sem.run_ite, o2, spotL]
      simp
    have c1 : ∀ n, (Instr.checkKey em (n + 1) f1.type (.int .u32 (k.1 : Int))).run P w = .ok () w := fun n => by
      simp only [Instr.checkKey, Sem.run_bind, run_underlying hr1.1, q1, Result.andThen_ok]
      rfl
    have c2 : ∀ n, (Instr.checkKey em (n + 1) f2.type (.int .i64 (k.2 : Int))).run P w = .ok () w := fun n => by
      simp only [Instr.checkKey, Sem.run_bind, run_underlying hr2.1, q2, Result.andThen_ok]
      rfl
    rw [show (10000 : Nat) = 9998 + 1 + 1 from rfl]
    generalize 9998 = n
    unfold spotV
    rw [Instr.checkKey]
    simp only [Sem.run_bind, run_underlying hu, Result.andThen_ok]
    simp [hn1, hn2, p1, p2, c1 n, c2 n]
  · simp [Instr.keyThatStays, Instr.sameBits, spotV, spotL]
end Go.Proofs.Ythbcfamfaicneaa.E

/- Links, plainly; which they are, as the program finds them. -/
namespace Go.Proofs.Ythbcfamfaicneaa.E
open Go Go.RowKit Go.Proofs
attribute [local irreducible] TK TL TQ TA TB Fn PV
abbrev ints (w : List Nat) : List Value := w.map fun n : Nat => Value.int .i64 (n : Int)
theorem ints_len (w : List Nat) : (ints w).length = w.length := by simp
theorem ints_one (w : List Nat) : ∀ u ∈ ints w, u.oneCell' = true := by
  intro u hu
  obtain ⟨n, _, rfl⟩ := List.mem_map.1 hu
  rfl
theorem has_ints {Γ : List HP} {b o n i x : Nat} {l : List Nat} (h : has Γ (srcAt 1 (some ⟨b, o, none⟩) n (ints l))) (hi : l[i]? = some x) : has Γ (fun m => cellAt m b (o + i) (.int .i64 (x : Int))) := fun m hm => by
  rcases (h m hm).2 with h | ⟨b', o', e, h⟩
  · have : l = [] := by simpa using h
    subst this; simp at hi
  · injection e with e; injection e with e1 e2 _
    subst e1; subst e2
    exact h i _ (by simp [hi])
abbrev crsC (l : List Cr) : List Value := l.flatMap Cr.cells
theorem crsC_len (l : List Cr) : (crsC l).length = l.length * 15 := by
  induction l with
  | nil => rfl
  | cons x l ih => rw [show crsC (x :: l) = x.cells ++ crsC l from rfl, List.length_append, ih, List.length_cons, show x.cells.length = 15 from rfl]; omega
/-- Credentials that a call has at hand. -/
structure Crs (A : Option Addr) (l : List Cr) (Γ : List HP) : Prop where
  src : has Γ (srcAt 15 A l.length (crsC l))
  ok : ∀ x ∈ l, x.ok Γ
  few : ∀ x ∈ l, x.few
  len : l.length ≤ 100000
theorem Crs.tl {A : Option Addr} {l : List Cr} {Γ : List HP} {H : HP} (h : Crs A l Γ) : Crs A l (H :: Γ) := ⟨has_tls h.src, fun x hx => Cr.ok_tl (h.ok x hx), h.few, h.len⟩
def linkB (p : Nat) (args : Int) (c : Cr) : Bool := decide (c.kind = 2) && decide (c.p = p) && decide (c.args = args) && mayCr c && (predS p args true 0).2
def linksOf (l : List Cr) (p : Nat) (args : Int) : List Nat := (l.zipIdx.filter fun x => linkB p args x.1).map (·.2)
def nxL (l : List Cr) : Rch.Sp → Nat → Option Rch.Sp := fun s i => match l[i]? with
  | some c => if c.iss = s.1 ∧ 0 < s.2 then some (c.to, min (s.2 - 1) c.dep.toNat) else none
  | none => none
theorem nxL_law (l : List Cr) : Rch.Law (nxL l) where
  down s i t h := by
    unfold nxL at h
    split at h
    · split at h
      · injection h with h
        rw [← h]
        show min (s.2 - 1) _ < s.2
        omega
      · cases h
    · cases h
  one s i t s' t' h h' := by
    unfold nxL at h h'
    split at h
    · rename_i c hc
      split at h
      · rename_i h1
        injection h with h
        rw [hc] at h'
        simp only at h'
        split at h'
        · rename_i h2
          injection h' with h'
          rw [← h, ← h']
          exact ⟨h1.1.symm.trans h2.1, rfl⟩
        · cases h'
      · cases h
    · cases h
  more a k m i t h hk := by
    unfold nxL at h ⊢
    split at h
    · rename_i c hc
      split at h
      · rename_i h1
        injection h with h
        simp only at h1 ⊢
        rw [if_pos ⟨h1.1, by omega⟩, ← h]
        refine ⟨_, rfl, ?_⟩
        show min (k - 1) _ ≤ min (m - 1) _
        omega
      · cases h
    · cases h
theorem linksOf_take {l : List Cr} {p : Nat} {args : Int} {i : Nat} {x : Cr} (h : l[i]? = some x) : linksOf (l.take (i + 1)) p args = linksOf (l.take i) p args ++ (if linkB p args x then [i] else []) := by
  have hi : i < l.length := (List.getElem?_eq_some_iff.1 h).1
  unfold linksOf
  rw [List.take_add_one, h, Option.toList_some, List.zipIdx_append, List.filter_append, List.map_append]
  congr 1
  simp only [List.zipIdx_cons, List.zipIdx_nil, List.length_take, Nat.min_eq_left (Nat.le_of_lt hi), Nat.zero_add, List.filter_cons, List.filter_nil]
  split <;> rfl
theorem linksOf_mem {l : List Cr} {p : Nat} {args : Int} {i : Nat} : i ∈ linksOf l p args ↔ ∃ x, l[i]? = some x ∧ linkB p args x = true := by
  unfold linksOf
  simp only [List.mem_map, List.mem_filter, Prod.exists]
  constructor
  · rintro ⟨x, j, ⟨h1, h2⟩, rfl⟩
    exact ⟨x, by simpa using List.mem_zipIdx_iff_getElem?.1 h1, h2⟩
  · rintro ⟨x, h1, h2⟩
    exact ⟨x, i, ⟨List.mem_zipIdx_iff_getElem?.2 h1, h2⟩, rfl⟩
theorem linkB_dep {p : Nat} {args : Int} {x : Cr} (h : linkB p args x = true) : 0 ≤ x.dep ∧ x.dep ≤ 3 := by
  unfold linkB mayCr giveB at h
  simp only [Bool.and_eq_true, Bool.or_eq_true, decide_eq_true_eq] at h
  obtain ⟨⟨⟨⟨h1, _⟩, _⟩, _, h2⟩, _⟩ := h
  rcases h2 with ⟨h3, _⟩ | ⟨_, h3⟩
  · omega
  · exact ⟨h3.1.2, h3.2⟩
theorem linksOf_no {l : List Cr} {p : Nat} {args : Int} (h : (predS p args true 0).2 = false) : linksOf l p args = [] := by
  unfold linksOf
  rw [List.map_eq_nil_iff, List.filter_eq_nil_iff]
  intro x _
  unfold linkB
  rw [h]
  simp
theorem linksOf_len (l : List Cr) (p : Nat) (args : Int) : (linksOf l p args).length ≤ l.length := by
  unfold linksOf
  rw [List.length_map]
  exact Nat.le_trans (List.length_filter_le _ _) (by simp)
set_option maxRecDepth 100000 in
set_option maxHeartbeats 8000000 in
theorem of_t (A : Option Addr) (c : Nat) (l : List Cr) (p : Nat) (args : Int) (Γ : List HP) (h : Crs A l Γ) :
    FnV Try.prog 34 [.slice A l.length c, .int .u32 (p : Int), .int .i64 args] Γ fun v Γ' => ∃ B k, (linksOf l p args).length ≤ k ∧ v = .agg #[.slice A l.length c, .slice B (linksOf l p args).length k, .bool (predS p args true 0).2] ∧ Γ' = own 3 1 (.slice B (linksOf l p args).length k) (linksOf l p args).length (ints (linksOf l p args)) :: Γ := by
  refine Fn.enter Try.func34 rfl rfl rfl fun E => ?_
  have hlen := h.len
  refine m_run ?_
  (apply TL.alloc; exact rfl; exact tb rfl; exact (rfl : _ = [_, _, _]))
  intro b6
  refine m_run ?_
  (apply TL.pv; exact rfl; (apply PV.build tabs; exact rfl; exact rfl; exact rfl; exact rfl; exact rfl; exact (rfl : _ = ([.slice A l.length c, .slice none 0 0, .bool false] : List Value))))
  (apply TL.alloc; exact rfl; exact tb rfl; exact (rfl : _ = [_, _, _]))
  intro b7
  refine m_run ?_
  (apply TL.callV; exact rfl; exact callB_of (by kernel_rfl); exact rfl; exact fun _ h => h)
  exact pred_t p args true 0 _
  rintro _ _ ⟨rfl, rfl⟩
  cases hp : (predS p args true 0).2 with
  | false =>
    refine m_run ?_
    rw [linksOf_no hp]
    refine TK.free (H := own 3 1 (.slice none 0 0) 0 []) (fun m hm => own_nil _ _ hm) ?_
    (apply TK.retRow (i := 2) (Δ := own 3 1 (.slice none 0 0) 0 [] :: Γ); exact rfl; exact rfl; exact rfl; exact rfl; exact tb rfl; exact rfl; exact (rfl : _ = [_, _, _]); exact rfl)
    · exact ⟨_, rfl, none, 0, Nat.le_refl _, rfl, rfl⟩
    · (repeat (first | exact List.Sublist.refl _ | apply List.Sublist.cons_cons | apply List.Sublist.cons))
  | true =>
  refine m_run ?_
  refine TK.free (H := own 3 1 (.slice none 0 0) 0 []) (fun m hm => own_nil _ _ hm) ?_
  apply TK.iter (fun j ρ' Γ' => ∃ (i : Nat) (B : Option Addr) (k : Nat), l.length = i + j ∧ (linksOf (l.take i) p args).length ≤ k ∧ lk ρ' 1 = .int .u32 (p : Int) ∧ lk ρ' 2 = .int .i64 args ∧ lk ρ' 6 = .pointer (some ⟨b6, 0, none⟩) ∧ lk ρ' 7 = .pointer (some ⟨b7, 0, none⟩) ∧ lk ρ' 23 = .slice A l.length c ∧ lk ρ' 24 = .int .i64 (l.length : Int) ∧ lk ρ' 25 = .int .i64 (i : Int) ∧ Γ' = own 3 1 (.slice B (linksOf (l.take i) p args).length k) (linksOf (l.take i) p args).length (ints (linksOf (l.take i) p args)) :: row b7 [.slice A l.length c, .slice B (linksOf (l.take i) p args).length k, .bool true] 82 :: row b6 [.slice none 0 0, .slice none 0 0, .bool false] 82 :: Γ) l.length
  · exact ⟨0, none, 0, by omega, Nat.le_refl _, rfl, rfl, rfl, rfl, rfl, rfl, rfl, rfl⟩
  rintro j IH ρ' _ ⟨i, B, k, hj, hk, e1, e2, e6, e7, e23, e24, e25, rfl⟩
  refine TK.know7 e1 e2 e6 e7 e23 e24 e25 ?_
  by_cases hi : i < l.length
  · obtain ⟨x, hx⟩ : ∃ x, l[i]? = some x := ⟨l[i], List.getElem?_eq_getElem hi⟩
    have hxm := List.mem_of_getElem? hx
    have hxo := h.ok x hxm
    have hxf := h.few x hxm
    have hKl := linksOf_len (l.take i) p args
    rw [List.length_take, Nat.min_eq_left (Nat.le_of_lt hi)] at hKl
    have hsn := linksOf_take (p := p) (args := args) hx
    generalize linksOf (l.take i) p args = K at *
    refine TK.mem fun m0 hm0 => ?_
    obtain ⟨g, u, rfl⟩ := src_some ((has_tls (has_tls (has_tls h.src)) : has (_ :: _ :: _ :: Γ) _) m0 hm0) (by rw [crsC_len]; omega)
    clear hm0 m0
    have hel : has Γ (fun m => cellsAt m g (u + i * 15) [.int .u32 (x.iss : Int), .int .u64 (x.ser : Int), .int .u64 (x.frm : Int), .int .u64 (x.til : Int), .int .u8 (x.kind : Int), .bool x.r.h.s, .bool x.r.h.w.v, .int .u32 (x.r.h.w.n : Int), .int .u32 (x.r.h.a.p : Int), .slice x.r.h.a.A x.r.h.a.l.length x.r.h.a.c, .slice x.r.A x.r.l.length x.r.c, .int .u32 (x.p : Int), .int .i64 x.args, .int .u32 (x.to : Int), .int .i64 x.dep]) := has_el (sz := 15) (f := Cr.cells) (fun _ => rfl) (by decide) h.src hx
    refine m_run ?_
    (apply TL.alloc; exact rfl; exact tb rfl; exact (rfl : _ = [_, _, _, _, _, _, _, _, _, _, _, _, _, _, _]))
    intro b9
    refine m_rrun ?_
    refine TL.nil ?_
    refine TK.imp (Δ := crRow b9 x :: own 3 1 (.slice B K.length k) K.length (ints K) :: row b7 [.slice (some ⟨g, u, none⟩) l.length c, .slice B K.length k, .bool true] 82 :: row b6 [.slice none 0 0, .slice none 0 0, .bool false] 82 :: Γ) (fun _ h => h) ?_
    have hb9 : has (crRow b9 x :: own 3 1 (.slice B K.length k) K.length (ints K) :: row b7 [.slice (some ⟨g, u, none⟩) l.length c, .slice B K.length k, .bool true] 82 :: row b6 [.slice none 0 0, .slice none 0 0, .bool false] 82 :: Γ) (fun m => cellsAt m b9 0 x.cells) := has_rows 0 rfl rfl
    by_cases h1 : x.kind = 2
    rotate_left
    · have hl : linkB p args x = false := by simp [linkB, h1]
      refine m_run ?_
      refine TK.drop ?_
      exact IH (j - 1) _ _ (by omega) ⟨i + 1, B, k, by omega, by rw [hsn, hl]; simpa using hk, rfl, rfl, rfl, rfl, rfl, rfl, congrArg (Value.int .i64) (i64_succ i (by omega)), by rw [hsn, hl]; simp⟩
    by_cases h2 : x.p = p
    rotate_left
    · have hl : linkB p args x = false := by simp [linkB, h2]
      refine m_run ?_
      refine TK.drop ?_
      exact IH (j - 1) _ _ (by omega) ⟨i + 1, B, k, by omega, by rw [hsn, hl]; simpa using hk, rfl, rfl, rfl, rfl, rfl, rfl, congrArg (Value.int .i64) (i64_succ i (by omega)), by rw [hsn, hl]; simp⟩
    by_cases h3 : x.args = args
    rotate_left
    · have hl : linkB p args x = false := by simp [linkB, h3]
      have h3' : (x.args == args) = false := by simpa using h3
      refine m_run ?_
      refine TK.drop ?_
      exact IH (j - 1) _ _ (by omega) ⟨i + 1, B, k, by omega, by rw [hsn, hl]; simpa using hk, rfl, rfl, rfl, rfl, rfl, rfl, congrArg (Value.int .i64) (i64_succ i (by omega)), by rw [hsn, hl]; simp⟩
    have h3' : (x.args == args) = true := by simpa using h3
    refine m_run ?_
    (apply TL.callV; exact rfl; exact callB_of (by kernel_rfl); exact rfl; exact fun _ h => h)
    exact credMay_t x _ (Cr.ok_tl (Cr.ok_tl (Cr.ok_tl (Cr.ok_tl hxo)))) hxf
    rintro _ _ ⟨rfl, rfl⟩
    cases hm : mayCr x with
    | false =>
      have hl : linkB p args x = false := by simp [linkB, hm]
      refine m_run ?_
      refine TK.drop ?_
      exact IH (j - 1) _ _ (by omega) ⟨i + 1, B, k, by omega, by rw [hsn, hl]; simpa using hk, rfl, rfl, rfl, rfl, rfl, rfl, congrArg (Value.int .i64) (i64_succ i (by omega)), by rw [hsn, hl]; simp⟩
    | true =>
    have hl : linkB p args x = true := by simp [linkB, h1, h2, h3, hm, hp]
    refine m_run ?_
    (apply TL.buildSlice (l := ints [i]); exact rfl; exact tb rfl; exact rfl; exact tb rfl; exact rfl; exact rfl; exact rfl; exact rfl; exact rfl)
    intro b52
    refine m_run ?_
    (apply TL.append 2; exact rfl; exact rfl; exact tb rfl; exact rfl; exact tb rfl; exact rfl; exact rfl; exact rfl)
    · exact fun _ h => h
    · exact rfl
    · exact has_src_row 0 rfl rfl
    · exact ints_one [i]
    · show (K.length + 1) * 8 ≤ _; omega
    · show K.length + 1 ≤ maxLen; unfold maxLen; omega
    · exact fun _ => (rfl : _ = _ :: _ :: _ :: _)
    intro B2 k2 hk2
    rw [show ints K ++ ints [i] = ints (K ++ [i]) by simp, show K.length + 1 = (K ++ [i]).length by simp] at *
    refine m_run ?_
    refine TK.drop ?_
    refine TK.drop ?_
    exact IH (j - 1) _ _ (by omega) ⟨i + 1, B2, k2, by omega, by rw [hsn, hl]; exact hk2, rfl, rfl, rfl, rfl, rfl, rfl, congrArg (Value.int .i64) (i64_succ i (by omega)), by rw [hsn, hl]; rfl⟩
  · obtain rfl : i = l.length := by omega
    rw [List.take_length] at hk ⊢
    refine m_run ?_
    (apply TK.retRow (i := 2) (Δ := own 3 1 (.slice B (linksOf l p args).length k) (linksOf l p args).length (ints (linksOf l p args)) :: Γ); exact rfl; exact rfl; exact rfl; exact rfl; exact tb rfl; exact rfl; exact (rfl : _ = [_, _, _]); exact rfl)
    · exact ⟨_, rfl, B, k, hk, rfl, rfl⟩
    · (repeat (first | exact List.Sublist.refl _ | apply List.Sublist.cons_cons | apply List.Sublist.cons))
end Go.Proofs.Ythbcfamfaicneaa.E

/- Rounds, as the program tells them, walked. Printed by gen_ym.py. -/
namespace Go.Proofs.Ythbcfamfaicneaa.E
open Go Go.RowKit Go.Proofs
attribute [local irreducible] TK TL TQ TA TB Fn PV
/-- A spot and its way, in memory. -/
structure Wy where
  pos : Nat
  left : Nat
  A : Option Addr
  c : Nat
  w : List Nat
def Wy.cells (s : Wy) : List Value := [.int .u32 (s.pos : Int), .int .i64 (s.left : Int), .slice s.A s.w.length s.c]
abbrev wysC (l : List Wy) : List Value := l.flatMap Wy.cells
def Wy.ok (s : Wy) (Γ : List HP) : Prop := has Γ (srcAt 1 s.A s.w.length (ints s.w)) ∧ s.w.length ≤ s.c
theorem Wy.ok_tl {s : Wy} {Γ : List HP} {H : HP} (h : s.ok Γ) : s.ok (H :: Γ) := ⟨has_tls h.1, h.2⟩
theorem wysC_len (l : List Wy) : (wysC l).length = l.length * 3 := by
  induction l with
  | nil => rfl
  | cons x l ih => rw [show wysC (x :: l) = x.cells ++ wysC l from rfl, List.length_append, ih, List.length_cons, show x.cells.length = 3 from rfl]; omega
def pureY (s : Wy) : Rch.Stp := ((s.pos, s.left), s.w)
def oneV (n : Nat) : Value := .int .i64 (n : Int)
def seenE (S : List Rch.Sp) : List (Rch.Sp × Nat) := S.map fun p => (p, 1)
theorem lookE_seen (S : List Rch.Sp) (q : Rch.Sp) : lookE (seenE S) q = if q ∈ S then some 1 else none := by
  induction S with
  | nil => rfl
  | cons x S ih =>
    show lookE ((x, 1) :: seenE S) q = _
    rw [lookE]
    by_cases hq : q = x
    · simp [hq]
    · simp [hq, ih]
theorem setE_seen {S : List Rch.Sp} {q : Rch.Sp} (h : q ∉ S) : setE (seenE S) q 1 = seenE (S ++ [q]) := by
  rw [setE_none (by rw [lookE_seen, if_neg h])]
  simp [seenE]
theorem keySp : KeyOk Try.prog 91 spotV := keySpot tabs rfl rfl (by kernel_rfl) rfl rfl rfl rfl rfl rfl rfl rfl
theorem fresh_snoc (S : List Rch.Sp) (P : List Rch.Stp) (x : Rch.Stp) : Rch.fresh S (P ++ [x]) = Rch.fresh S P ++ (if x.1 ∈ S ++ (Rch.fresh S P).map (·.1) then [] else [x]) := by
  rw [Rch.fresh_append]
  rfl
theorem clip_t (A : Option Addr) (n c : Nat) (Γ : List HP) (hc : n ≤ c) : FnV Try.prog 55 [.slice A n c] Γ fun v Γ' => v = .slice A n n ∧ Γ' = Γ := by
  refine Fn.enter Try.func55 rfl rfl rfl fun E => ?_
  refine m_run ?_
  (apply TL.pv; exact rfl; (apply PV.sliceC; exact rfl; exact tb rfl; exact rfl; exact tb rfl; exact rfl; exact rfl; exact hc))
  refine m_run ?_
  (apply TK.ret1; exact rfl; exact rfl; (exact m_val))
  exact ⟨_, rfl, rfl, rfl⟩
def unskip (K : List Nat) (skip : Int) : List Nat := K.filter fun i => decide ((i : Int) ≠ skip)
theorem unskip_take {K : List Nat} {skip : Int} {b i : Nat} (h : K[b]? = some i) : unskip (K.take (b + 1)) skip = unskip (K.take b) skip ++ (if (i : Int) = skip then [] else [i]) := by
  unfold unskip
  rw [List.take_add_one, h, List.filter_append]
  by_cases hi : (i : Int) = skip <;> simp [hi]
theorem one_wys (y : Wy) : ∀ u ∈ wysC [y], u.oneCell' = true := by
  intro u hu
  simp only [wysC, List.flatMap_cons, List.flatMap_nil, List.append_nil, Wy.cells, List.mem_cons, List.not_mem_nil, or_false] at hu
  rcases hu with rfl | rfl | rfl <;> rfl
theorem nxL_some {l : List Cr} {s : Rch.Sp} {i : Nat} {x : Cr} (h : l[i]? = some x) (h1 : x.iss = s.1) (h2 : 0 < s.2) : nxL l s i = some (x.to, min (s.2 - 1) x.dep.toNat) := by
  unfold nxL
  rw [h]
  exact if_pos ⟨h1, h2⟩
theorem nxL_none {l : List Cr} {s : Rch.Sp} {i : Nat} {x : Cr} (h : l[i]? = some x) (h1 : x.iss ≠ s.1 ∨ s.2 = 0) : nxL l s i = none := by
  unfold nxL
  rw [h]
  exact if_neg (by rintro ⟨h2, h3⟩; rcases h1 with h1 | h1; exact h1 h2; omega)
theorem pow_n {n : Nat} (h : n ≤ 3) : 1000 ^ n ≤ 1000000000 := Nat.le_trans (Nat.pow_le_pow_right (by decide) h) (by decide)
set_option maxRecDepth 100000 in
set_option maxHeartbeats 16000000 in
theorem rounds_t (A B : Option Addr) (c k : Nat) (l : List Cr) (K : List Nat) (yes : Bool) (who : Nat) (skip : Int) (F : FuncId) (cs : List Value) (T : List Wy → HP) (Γ : List HP) (h : Crs A l Γ) (hK : has Γ (srcAt 1 B K.length (ints K))) (hKl : K.length ≤ 1000)
    (hKd : ∀ i ∈ K, ∃ x, l[i]? = some x ∧ 0 ≤ x.dep ∧ x.dep ≤ 3) (hc : Callable Try.prog F)
    (hF : ∀ (L : List Wy) (s : Wy) (Γ' : List HP), L.length ≤ 10000000000 → Γ.Sublist Γ' → s.ok Γ' → FnV Try.prog F (.agg (spotL (s.pos, s.left)).toArray :: .slice s.A s.w.length s.c :: cs) (T L :: Γ') fun v Γ'' => v = .tuple #[] ∧ Γ'' = T (L ++ [s]) :: Γ') :
    FnV Try.prog 37 [.agg #[.slice A l.length c, .slice B K.length k, .bool yes], .int .u32 (who : Int), .int .i64 skip, .func (.func F) #[] cs.toArray] (T [] :: Γ) fun v Γ' => v = .tuple #[] ∧ ∃ (L : List Wy) (Γ2 : List HP), Γ' = T L :: Γ2 ∧ Γ.Sublist Γ2 ∧ (∀ s ∈ L, s.ok Γ2) ∧ L.map pureY = if yes then Rch.fresh [] (Rch.allC (unskip K skip) (nxL l) (who, 3) 4) else [] := by
  refine Fn.enter Try.func37 rfl rfl rfl fun E => ?_
  have hlen := h.len
  refine m_run ?_
  (apply TL.box; exact rfl; exact rfl; (exact m_lst))
  intro b4
  cases yes with
  | false =>
    refine TL.imp (Δ := row b4 [.slice A l.length c, .slice B K.length k, .bool false] 82 :: T [] :: Γ) (fun _ h => h) ?_
    refine m_run ?_
    refine TK.drop ?_
    exact TK.ret0 rfl rfl ⟨_, rfl, rfl, [], Γ, rfl, .refl _, by simp, rfl⟩
  | true =>
  refine TL.imp (Δ := row b4 [.slice A l.length c, .slice B K.length k, .bool true] 82 :: T [] :: Γ) (fun _ h => h) ?_
  refine m_run ?_
  (apply TL.makeMap spotV oneV; exact rfl)
  intro bm
  refine m_run ?_
  (apply TL.pv; exact rfl; (apply PV.build tabs; exact rfl; exact rfl; exact rfl; exact rfl; exact rfl; exact (rfl : _ = spotL (who, 3))))
  (apply TL.mapIns (kv := spotV) (vv := oneV) (k := (who, 3)) (nv := 1) 0; exact rfl; exact keySp; exact tb rfl; exact rfl; exact ⟨_, (tb rfl : TabOk Try.prog 91 _).1⟩; exact rfl; exact rfl; exact rfl; exact rfl)
  refine TL.imp (Δ := mapA spotV oneV bm (seenE [(who, 3)]) :: row b4 [.slice A l.length c, .slice B K.length k, .bool true] 82 :: T [] :: Γ) (fun _ h => h) ?_
  refine m_run ?_
  (apply TL.pv; exact rfl; (apply PV.build tabs; exact rfl; exact rfl; exact rfl; exact rfl; exact rfl; exact (rfl : _ = spotL (who, 3))))
  (apply TL.pv; exact rfl; (apply PV.build tabs; exact rfl; exact rfl; exact rfl; exact rfl; exact rfl; exact (rfl : _ = Wy.cells ⟨who, 3, none, 0, []⟩)))
  (apply TL.buildSlice (l := wysC [⟨who, 3, none, 0, []⟩]); exact rfl; exact tb rfl; exact rfl; exact tb rfl; exact rfl; exact rfl; exact rfl; exact rfl; exact rfl)
  intro b27
  refine m_run ?_
  refine TK.imp (Δ := own 115 3 (.slice (some ⟨b27, 0, none⟩) 1 1) 1 (wysC [⟨who, 3, none, 0, []⟩]) :: mapA spotV oneV bm (seenE [(who, 3)]) :: row b4 [.slice A l.length c, .slice B K.length k, .bool true] 82 :: T [] :: Γ) (fun _ h => sep_mono h (fun _ h => own_row rfl (by unfold maxLen; omega) h) (fun _ => id)) ?_
  refine TK.perm (List.perm_middle (a := T []) (l₁ := [own 115 3 (.slice (some ⟨b27, 0, none⟩) 1 1) 1 (wysC [⟨who, 3, none, 0, []⟩]), mapA spotV oneV bm (seenE [(who, 3)]), row b4 [.slice A l.length c, .slice B K.length k, .bool true] 82]) (l₂ := Γ)) ?_
  apply TK.iter (fun j ρ' Γ' => ∃ (n : Nat) (now : List Wy) (N : Option Addr) (kn : Nat) (seen : List Rch.Sp) (L : List Wy) (Γ2 : List HP), n + j = 5 ∧ now.map pureY = (Rch.lvl (unskip K skip) (nxL l) (who, 3) n).1 ∧ seen = (Rch.lvl (unskip K skip) (nxL l) (who, 3) n).2 ∧ L.map pureY = Rch.told (unskip K skip) (nxL l) (who, 3) n ∧ now.length ≤ 1000 ^ n ∧ L.length ≤ n * 1000000000 ∧ (∀ s ∈ L, s.ok Γ2) ∧ (∀ s ∈ now, s.ok Γ2 ∧ s.w.length ≤ n ∧ s.left + n ≤ 3) ∧ Γ.Sublist Γ2 ∧ lk ρ' 2 = .int .i64 skip ∧ lk ρ' 3 = .func (.func F) #[] cs.toArray ∧ lk ρ' 4 = .pointer (some ⟨b4, 0, none⟩) ∧ lk ρ' 8 = .map (some bm) ∧ lk ρ' 9 = .slice N now.length kn ∧ Γ' = T L :: own 115 3 (.slice N now.length kn) now.length (wysC now) :: mapA spotV oneV bm (seenE (seen)) :: row b4 [.slice A l.length c, .slice B K.length k, .bool true] 82 :: Γ2) 5
  · exact ⟨0, [⟨who, 3, none, 0, []⟩], some ⟨b27, 0, none⟩, 1, [(who, 3)], [], Γ, by omega, rfl, rfl, rfl, Nat.le_refl _, Nat.le_refl _, by simp, by intro s hs; rw [List.mem_singleton.1 hs]; exact ⟨⟨has_srcnil _ _, Nat.le_refl _⟩, Nat.le_refl _, Nat.le_refl _⟩, .refl _, rfl, rfl, rfl, rfl, rfl, rfl⟩
  rintro j IH ρ' _ ⟨n, now, N, kn, seen, L, Γ2, hnj, hnow, hseen, htold, hnl, hLl, hLok, hnok, hsub, e2, e3, e4, e8, e9, rfl⟩
  refine TK.know5 e2 e3 e4 e8 e9 ?_
  by_cases h0 : now.length = 0
  · refine m_run ?_
    refine TK.over0 rfl rfl ⟨_, rfl, rfl, L, _, rfl, .cons _ (.cons _ (.cons _ hsub)), fun s hs => Wy.ok_tl (Wy.ok_tl (Wy.ok_tl (hLok s hs))), ?_⟩
    rw [htold]
    refine Rch.told_end _ _ (nxL_law l).down (who, 3) ?_ 4 (Nat.lt_succ_self 3)
    rw [← hnow, List.eq_nil_of_length_eq_zero h0]
    rfl
  have hn3 : n ≤ 3 := by
    obtain ⟨s, hs⟩ : ∃ s, s ∈ now := ⟨now[0]'(by omega), List.getElem_mem _⟩
    have := (hnok s hs).2.2
    omega
  have hpw := pow_n hn3
  refine m_run ?_
  refine TK.free (H := own 115 3 (.slice none 0 0) 0 []) (fun m hm => own_nil _ _ hm) ?_
  apply TK.iter (fun j' ρ' Γ' => ∃ (a : Nat) (next : List Wy) (D : Option Addr) (kd : Nat) (seen1 : List Rch.Sp) (L1 : List Wy) (Γ3 : List HP), a + j' = now.length ∧ next.map pureY = Rch.fresh seen (((now.take a).map pureY).flatMap (Rch.exts (unskip K skip) (nxL l))) ∧ seen1 = seen ++ (next.map pureY).map (·.1) ∧ L1 = L ++ now.take a ∧ next.length ≤ a * 1000 ∧ next.length ≤ kd ∧ (∀ s ∈ L1, s.ok Γ3) ∧ (∀ s ∈ now, s.ok Γ3) ∧ (∀ s ∈ next, s.ok Γ3 ∧ s.w.length ≤ n + 1 ∧ s.left + (n + 1) ≤ 3) ∧ Γ.Sublist Γ3 ∧ lk ρ' 2 = .int .i64 skip ∧ lk ρ' 3 = .func (.func F) #[] cs.toArray ∧ lk ρ' 4 = .pointer (some ⟨b4, 0, none⟩) ∧ lk ρ' 8 = .map (some bm) ∧ lk ρ' 10 = .slice D next.length kd ∧ lk ρ' 31 = .slice N now.length kn ∧ lk ρ' 32 = .int .i64 (now.length : Int) ∧ lk ρ' 33 = .int .i64 (a : Int) ∧ Γ' = own 115 3 (.slice D next.length kd) next.length (wysC next) :: T L1 :: own 115 3 (.slice N now.length kn) now.length (wysC now) :: mapA spotV oneV bm (seenE (seen1)) :: row b4 [.slice A l.length c, .slice B K.length k, .bool true] 82 :: Γ3) now.length
  · exact ⟨0, [], none, 0, seen, L, Γ2, Nat.zero_add _, rfl, by simp, by simp, Nat.zero_le _, Nat.le_refl _, hLok, fun s hs => (hnok s hs).1, by simp, hsub, rfl, rfl, rfl, rfl, rfl, rfl, rfl, rfl, rfl⟩
  clear e2 e3 e4 e8 e9 ρ'
  rintro j' IH2 ρ' _ ⟨a, next, D, kd, seen1, L1, Γ3, haj, hnext, hseen1, hL1, hnextl, hkd, hL1ok, hnowok, hnextok, hsub3, e2, e3, e4, e8, e10, e31, e32, e33, rfl⟩
  refine TK.know8 e2 e3 e4 e8 e10 e31 e32 e33 ?_
  by_cases ha : a < now.length
  rotate_left
  · obtain rfl : a = now.length := by omega
    rw [List.take_length] at hnext hL1
    refine m_run ?_
    refine TK.sub (Δ := own 115 3 (.slice D next.length kd) next.length (wysC next) :: T L1 :: mapA spotV oneV bm (seenE seen1) :: row b4 [.slice A l.length c, .slice B K.length k, .bool true] 82 :: Γ3) (by (repeat (first | exact List.Sublist.refl _ | apply List.Sublist.cons_cons | apply List.Sublist.cons))) ?_
    refine TK.perm (.swap _ _ _) ?_
    exact IH (j - 1) _ _ (by omega) ⟨n + 1, next, D, kd, seen1, L1, Γ3, by omega, by rw [hnext, hnow, hseen]; rfl, by rw [hseen1, hnext, hnow, hseen]; rfl, by rw [hL1, List.map_append, htold, hnow, Rch.told_succ], by rw [Nat.pow_succ]; exact Nat.le_trans hnextl (Nat.mul_le_mul_right _ hnl), by rw [hL1, List.length_append]; omega, hL1ok, hnextok, hsub3, rfl, rfl, rfl, rfl, rfl, rfl⟩
  obtain ⟨s, hs⟩ : ∃ s, now[a]? = some s := ⟨now[a], List.getElem?_eq_getElem ha⟩
  have hsm := List.mem_of_getElem? hs
  obtain ⟨_, hsw, hsl⟩ := hnok s hsm
  have hso := hnowok s hsm
  have hNs : has (own 115 3 (.slice D next.length kd) next.length (wysC next) :: T L1 :: own 115 3 (.slice N now.length kn) now.length (wysC now) :: mapA spotV oneV bm (seenE (seen1)) :: row b4 [.slice A l.length c, .slice B K.length k, .bool true] 82 :: Γ3) (srcAt 3 N now.length (wysC now)) := has_at (up_src _ _ _ _) 2 rfl fun _ h => own_src h
  refine TK.mem fun m0 hm0 => ?_
  obtain ⟨g, u, rfl⟩ := src_some (hNs m0 hm0) (by rw [wysC_len]; omega)
  clear hm0 m0
  have hel : has (own 115 3 (.slice D next.length kd) next.length (wysC next) :: T L1 :: own 115 3 (.slice (some ⟨g, u, none⟩) now.length kn) now.length (wysC now) :: mapA spotV oneV bm (seenE (seen1)) :: row b4 [.slice A l.length c, .slice B K.length k, .bool true] 82 :: Γ3) (fun m => cellsAt m g (u + a * 3) [.int .u32 (s.pos : Int), .int .i64 (s.left : Int), .slice s.A s.w.length s.c]) := has_el (sz := 3) (f := Wy.cells) (fun _ => rfl) (by decide) hNs hs
  refine m_run ?_
  (apply TL.alloc; exact rfl; exact tb rfl; exact (rfl : _ = [_, _, _]))
  intro b12
  refine m_rrun ?_
  refine TL.nil ?_
  refine TK.imp (Δ := row b12 [.int .u32 (s.pos : Int), .int .i64 (s.left : Int), .slice s.A s.w.length s.c] 115 :: own 115 3 (.slice D next.length kd) next.length (wysC next) :: T L1 :: own 115 3 (.slice (some ⟨g, u, none⟩) now.length kn) now.length (wysC now) :: mapA spotV oneV bm (seenE (seen1)) :: row b4 [.slice A l.length c, .slice B K.length k, .bool true] 82 :: Γ3) (fun _ h => h) ?_
  clear hel hNs
  have hb12 : has (row b12 [.int .u32 (s.pos : Int), .int .i64 (s.left : Int), .slice s.A s.w.length s.c] 115 :: own 115 3 (.slice D next.length kd) next.length (wysC next) :: T L1 :: own 115 3 (.slice (some ⟨g, u, none⟩) now.length kn) now.length (wysC now) :: mapA spotV oneV bm (seenE (seen1)) :: row b4 [.slice A l.length c, .slice B K.length k, .bool true] 82 :: Γ3) (fun m => cellsAt m b12 0 (spotL (s.pos, s.left))) := has_rows 0 rfl rfl
  refine m_run ?_
  (apply TL.callFV (fs := []) (cs := cs) (Δ := T L1 :: row b12 [.int .u32 (s.pos : Int), .int .i64 (s.left : Int), .slice s.A s.w.length s.c] 115 :: own 115 3 (.slice D next.length kd) next.length (wysC next) :: own 115 3 (.slice (some ⟨g, u, none⟩) now.length kn) now.length (wysC now) :: mapA spotV oneV bm (seenE (seen1)) :: row b4 [.slice A l.length c, .slice B K.length k, .bool true] 82 :: Γ3); exact rfl; exact rfl; exact hc; exact rfl; exact fun _ h => all_perm (List.perm_middle (a := T L1) (l₁ := [row b12 [.int .u32 (s.pos : Int), .int .i64 (s.left : Int), .slice s.A s.w.length s.c] 115, own 115 3 (.slice D next.length kd) next.length (wysC next)]) (l₂ := own 115 3 (.slice (some ⟨g, u, none⟩) now.length kn) now.length (wysC now) :: mapA spotV oneV bm (seenE (seen1)) :: row b4 [.slice A l.length c, .slice B K.length k, .bool true] 82 :: Γ3)) h)
  exact hF L1 s _ (by rw [hL1, List.length_append, List.length_take]; omega) (.cons _ (.cons _ (.cons _ (.cons _ (.cons _ hsub3))))) (Wy.ok_tl (Wy.ok_tl (Wy.ok_tl (Wy.ok_tl (Wy.ok_tl hso)))))
  rintro _ _ ⟨rfl, rfl⟩
  obtain ⟨L2, hL2⟩ : ∃ L2, L2 = L1 ++ [s] := ⟨_, rfl⟩
  rw [← hL2]
  have hL2ok : ∀ s ∈ L2, s.ok Γ3 := fun x hx => by
    rw [hL2] at hx
    rcases List.mem_append.1 hx with hx | hx
    · exact hL1ok x hx
    · rw [List.mem_singleton.1 hx]; exact hso
  refine m_run ?_
  refine TK.perm (List.perm_middle (a := own 115 3 (.slice D next.length kd) next.length (wysC next)) (l₁ := [T L2, row b12 [.int .u32 (s.pos : Int), .int .i64 (s.left : Int), .slice s.A s.w.length s.c] 115]) (l₂ := own 115 3 (.slice (some ⟨g, u, none⟩) now.length kn) now.length (wysC now) :: mapA spotV oneV bm (seenE (seen1)) :: row b4 [.slice A l.length c, .slice B K.length k, .bool true] 82 :: Γ3)) ?_
  clear hb12
  apply TK.iter (fun j'' ρ' Γ' => ∃ (b : Nat) (next : List Wy) (D : Option Addr) (kd : Nat) (seen1 : List Rch.Sp) (Γ3 : List HP), b + j'' = K.length ∧ next.map pureY = Rch.fresh seen (((now.take a).map pureY).flatMap (Rch.exts (unskip K skip) (nxL l)) ++ (unskip (K.take b) skip).filterMap (Rch.step1 (nxL l) (pureY s))) ∧ seen1 = seen ++ (next.map pureY).map (·.1) ∧ next.length ≤ a * 1000 + b ∧ next.length ≤ kd ∧ (∀ s ∈ L2, s.ok Γ3) ∧ (∀ s ∈ now, s.ok Γ3) ∧ (∀ s ∈ next, s.ok Γ3 ∧ s.w.length ≤ n + 1 ∧ s.left + (n + 1) ≤ 3) ∧ Γ.Sublist Γ3 ∧ lk ρ' 2 = .int .i64 skip ∧ lk ρ' 3 = .func (.func F) #[] cs.toArray ∧ lk ρ' 4 = .pointer (some ⟨b4, 0, none⟩) ∧ lk ρ' 8 = .map (some bm) ∧ lk ρ' 10 = .slice D next.length kd ∧ lk ρ' 12 = .pointer (some ⟨b12, 0, none⟩) ∧ lk ρ' 31 = .slice (some ⟨g, u, none⟩) now.length kn ∧ lk ρ' 32 = .int .i64 (now.length : Int) ∧ lk ρ' 33 = .int .i64 (a : Int) ∧ lk ρ' 44 = .slice B K.length k ∧ lk ρ' 45 = .int .i64 (K.length : Int) ∧ lk ρ' 46 = .int .i64 (b : Int) ∧ Γ' = own 115 3 (.slice D next.length kd) next.length (wysC next) :: T L2 :: row b12 [.int .u32 (s.pos : Int), .int .i64 (s.left : Int), .slice s.A s.w.length s.c] 115 :: own 115 3 (.slice (some ⟨g, u, none⟩) now.length kn) now.length (wysC now) :: mapA spotV oneV bm (seenE (seen1)) :: row b4 [.slice A l.length c, .slice B K.length k, .bool true] 82 :: Γ3) K.length
  · exact ⟨0, next, D, kd, seen1, Γ3, Nat.zero_add _, by rw [hnext]; simp [unskip], hseen1, by omega, hkd, hL2ok, hnowok, hnextok, hsub3, rfl, rfl, rfl, rfl, rfl, rfl, rfl, rfl, rfl, rfl, rfl, rfl, rfl⟩
  clear e2 e3 e4 e8 e10 e31 e32 e33 ρ' hnext hseen1 hnextl hkd hL1ok hnowok hnextok hsub3 hL2ok hso
  clear next D kd seen1 Γ3
  rintro j'' IH3 ρ' _ ⟨b, next, D, kd, seen1, Γ3, hbj, hnext, hseen1, hnextl, hkd, hL2ok, hnowok, hnextok, hsub3, e2, e3, e4, e8, e10, e12, e31, e32, e33, e44, e45, e46, rfl⟩
  refine TK.know12 e2 e3 e4 e8 e10 e12 e31 e32 e33 e44 e45 e46 ?_
  by_cases hb : b < K.length
  rotate_left
  · obtain rfl : b = K.length := by omega
    rw [List.take_length] at hnext
    refine m_run ?_
    refine TK.sub (Δ := own 115 3 (.slice D next.length kd) next.length (wysC next) :: T L2 :: own 115 3 (.slice (some ⟨g, u, none⟩) now.length kn) now.length (wysC now) :: mapA spotV oneV bm (seenE (seen1)) :: row b4 [.slice A l.length c, .slice B K.length k, .bool true] 82 :: Γ3) (by (repeat (first | exact List.Sublist.refl _ | apply List.Sublist.cons_cons | apply List.Sublist.cons))) ?_
    refine IH2 (j' - 1) _ _ (by omega) ⟨a + 1, next, D, kd, seen1, L2, Γ3, by omega, ?_, hseen1, ?_, by omega, hkd, hL2ok, hnowok, hnextok, hsub3, rfl, rfl, rfl, rfl, rfl, rfl, rfl, congrArg (Value.int .i64) (i64_succ a (by omega)), rfl⟩
    · rw [hnext, List.take_add_one, hs, List.map_append, List.flatMap_append]
      simp [Rch.exts]
    · rw [hL2, hL1, List.take_add_one, hs, List.append_assoc]
      rfl
  obtain ⟨i, hKb⟩ : ∃ i, K[b]? = some i := ⟨K[b], List.getElem?_eq_getElem hb⟩
  obtain ⟨x, hx, hd0, hd3⟩ := hKd i (List.mem_of_getElem? hKb)
  have hil : i < l.length := (List.getElem?_eq_some_iff.1 hx).1
  have hus := unskip_take (skip := skip) hKb
  have hK3 : has Γ3 (srcAt 1 B K.length (ints K)) := has_sublist (up_src _ _ _ _) hsub3 hK
  have hA3 : has Γ3 (srcAt 15 A l.length (crsC l)) := has_sublist (up_src _ _ _ _) hsub3 h.src
  have hso := hnowok s hsm
  refine TK.mem fun m0 hm0 => ?_
  obtain ⟨g1, u1, rfl⟩ := src_some ((has_tls (has_tls (has_tls (has_tls (has_tls (has_tls hK3))))) : has (_ :: _ :: _ :: _ :: _ :: _ :: Γ3) _) m0 hm0) (by rw [ints_len]; omega)
  obtain ⟨g2, u2, rfl⟩ := src_some ((has_tls (has_tls (has_tls (has_tls (has_tls (has_tls hA3))))) : has (_ :: _ :: _ :: _ :: _ :: _ :: Γ3) _) m0 hm0) (by rw [crsC_len]; omega)
  clear hm0 m0
  have hki := has_ints hK3 hKb
  have hel : has Γ3 (fun m => cellsAt m g2 (u2 + i * 15) [.int .u32 (x.iss : Int), .int .u64 (x.ser : Int), .int .u64 (x.frm : Int), .int .u64 (x.til : Int), .int .u8 (x.kind : Int), .bool x.r.h.s, .bool x.r.h.w.v, .int .u32 (x.r.h.w.n : Int), .int .u32 (x.r.h.a.p : Int), .slice x.r.h.a.A x.r.h.a.l.length x.r.h.a.c, .slice x.r.A x.r.l.length x.r.c, .int .u32 (x.p : Int), .int .i64 x.args, .int .u32 (x.to : Int), .int .i64 x.dep]) := has_el (sz := 15) (f := Cr.cells) (fun _ => rfl) (by decide) hA3 hx
  refine m_run ?_
  (apply TL.alloc; exact rfl; exact tb rfl; exact (rfl : _ = [_, _, _, _, _, _, _, _, _, _, _, _, _, _, _]))
  intro b15
  refine m_rrun ?_
  refine TL.nil ?_
  refine TK.imp (Δ := crRow b15 x :: own 115 3 (.slice D next.length kd) next.length (wysC next) :: T L2 :: row b12 [.int .u32 (s.pos : Int), .int .i64 (s.left : Int), .slice s.A s.w.length s.c] 115 :: own 115 3 (.slice (some ⟨g, u, none⟩) now.length kn) now.length (wysC now) :: mapA spotV oneV bm (seenE (seen1)) :: row b4 [.slice (some ⟨g2, u2, none⟩) l.length c, .slice (some ⟨g1, u1, none⟩) K.length k, .bool true] 82 :: Γ3) (fun _ h => h) ?_
  clear hel hki
  by_cases hsk : (i : Int) = skip
  · have hsk' : ((i : Int) == skip) = true := by simpa using hsk
    refine m_run ?_
    refine TK.drop ?_
    exact IH3 (j'' - 1) _ _ (by omega) ⟨b + 1, next, D, kd, seen1, Γ3, by omega, by rw [hus, if_pos hsk, List.append_nil]; exact hnext, hseen1, by omega, hkd, hL2ok, hnowok, hnextok, hsub3, rfl, rfl, rfl, rfl, rfl, rfl, rfl, rfl, rfl, rfl, rfl, congrArg (Value.int .i64) (i64_succ b (by omega)), rfl⟩
  rw [if_neg hsk] at hus
  have hsk' : ((i : Int) == skip) = false := by simpa using hsk
  by_cases hgo : x.iss = s.pos ∧ 0 < s.left
  rotate_left
  · have hnx : Rch.step1 (nxL l) (pureY s) i = none := by
      unfold Rch.step1
      rw [nxL_none hx (by show x.iss ≠ s.pos ∨ s.left = 0; omega)]
      rfl
    have hnext' : next.map pureY = Rch.fresh seen (((now.take a).map pureY).flatMap (Rch.exts (unskip K skip) (nxL l)) ++ (unskip (K.take (b + 1)) skip).filterMap (Rch.step1 (nxL l) (pureY s))) := by
      rw [hus, List.filterMap_append]
      simp only [List.filterMap_cons, List.filterMap_nil, hnx, List.append_nil]
      exact hnext
    by_cases hiss : x.iss = s.pos
    · have hl0 : s.left = 0 := by omega
      refine m_run ?_
      refine TK.drop ?_
      exact IH3 (j'' - 1) _ _ (by omega) ⟨b + 1, next, D, kd, seen1, Γ3, by omega, hnext', hseen1, by omega, hkd, hL2ok, hnowok, hnextok, hsub3, rfl, rfl, rfl, rfl, rfl, rfl, rfl, rfl, rfl, rfl, rfl, congrArg (Value.int .i64) (i64_succ b (by omega)), rfl⟩
    · refine m_run ?_
      refine TK.drop ?_
      exact IH3 (j'' - 1) _ _ (by omega) ⟨b + 1, next, D, kd, seen1, Γ3, by omega, hnext', hseen1, by omega, hkd, hL2ok, hnowok, hnextok, hsub3, rfl, rfl, rfl, rfl, rfl, rfl, rfl, rfl, rfl, rfl, rfl, congrArg (Value.int .i64) (i64_succ b (by omega)), rfl⟩
  obtain ⟨hiss, hleft⟩ := hgo
  obtain ⟨to, hto⟩ : ∃ to : Rch.Sp, to = (x.to, min (s.left - 1) x.dep.toNat) := ⟨_, rfl⟩
  have hto1 : to.1 = x.to := by rw [hto]
  have hto2 : to.2 = min (s.left - 1) x.dep.toNat := by rw [hto]
  have hnx : Rch.step1 (nxL l) (pureY s) i = some (to, s.w ++ [i]) := by
    unfold Rch.step1
    rw [nxL_some hx (show x.iss = (pureY s).1.1 from hiss) (show 0 < (pureY s).1.2 from hleft), hto]
    rfl
  have hfs : (unskip (K.take (b + 1)) skip).filterMap (Rch.step1 (nxL l) (pureY s)) = (unskip (K.take b) skip).filterMap (Rch.step1 (nxL l) (pureY s)) ++ [(to, s.w ++ [i])] := by
    rw [hus, List.filterMap_append]
    simp only [List.filterMap_cons, List.filterMap_nil, hnx]
  have hmin : (if x.dep < IntKind.i64.wrap ((s.left : Int) - 1) then x.dep else IntKind.i64.wrap ((s.left : Int) - 1)) = (to.2 : Int) := by
    rw [i64_in (by omega) (by omega), hto2]
    split <;> omega
  refine m_run ?_
  rw [hmin, ← hto1]
  (apply TL.pv; exact rfl; (apply PV.build tabs; exact rfl; exact rfl; exact rfl; exact rfl; exact rfl; exact (rfl : _ = spotL to)))
  (apply TL.alloc; exact rfl; exact tb rfl; exact (rfl : _ = [_, _]))
  intro b16
  refine m_rrun ?_
  refine TL.nil ?_
  refine TK.imp (Δ := row b16 [.int .u32 (to.1 : Int), .int .i64 (to.2 : Int)] 91 :: crRow b15 x :: own 115 3 (.slice D next.length kd) next.length (wysC next) :: T L2 :: row b12 [.int .u32 (s.pos : Int), .int .i64 (s.left : Int), .slice s.A s.w.length s.c] 115 :: own 115 3 (.slice (some ⟨g, u, none⟩) now.length kn) now.length (wysC now) :: mapA spotV oneV bm (seenE (seen1)) :: row b4 [.slice (some ⟨g2, u2, none⟩) l.length c, .slice (some ⟨g1, u1, none⟩) K.length k, .bool true] 82 :: Γ3) (fun _ h => h) ?_
  have hb16 : has (row b16 [.int .u32 (to.1 : Int), .int .i64 (to.2 : Int)] 91 :: crRow b15 x :: own 115 3 (.slice D next.length kd) next.length (wysC next) :: T L2 :: row b12 [.int .u32 (s.pos : Int), .int .i64 (s.left : Int), .slice s.A s.w.length s.c] 115 :: own 115 3 (.slice (some ⟨g, u, none⟩) now.length kn) now.length (wysC now) :: mapA spotV oneV bm (seenE (seen1)) :: row b4 [.slice (some ⟨g2, u2, none⟩) l.length c, .slice (some ⟨g1, u1, none⟩) K.length k, .bool true] 82 :: Γ3) (fun m => cellsAt m b16 0 (spotL to)) := has_rows 0 rfl rfl
  have hfr : Rch.fresh seen (((now.take a).map pureY).flatMap (Rch.exts (unskip K skip) (nxL l)) ++ (unskip (K.take (b + 1)) skip).filterMap (Rch.step1 (nxL l) (pureY s))) = next.map pureY ++ (if to ∈ seen1 then [] else [(to, s.w ++ [i])]) := by
    rw [hfs, ← List.append_assoc, fresh_snoc, ← hnext, ← hseen1]
  by_cases hin : to ∈ seen1
  · rw [if_pos hin, List.append_nil] at hfr
    refine m_run ?_
    (apply TL.pv; exact rfl; (apply PV.look1S (kv := spotV) (vv := oneV) (es := seenE seen1) (b := bm) (k := to) (v := 1) keySp; exact tb rfl; exact rfl; exact ⟨_, (tb rfl : TabOk Try.prog 91 _).1⟩; exact tb rfl; exact rfl; exact rfl; exact has_at (up_map _ _ _ _) 6 rfl fun _ h => mapA_at h; exact by rw [lookE_seen, if_pos hin]))
    refine TL.know (t := 84) (v := .int .i64 1) rfl ?_
    refine m_run ?_
    refine TK.drop ?_
    refine TK.drop ?_
    exact IH3 (j'' - 1) _ _ (by omega) ⟨b + 1, next, D, kd, seen1, Γ3, by omega, hfr.symm, hseen1, by omega, hkd, hL2ok, hnowok, hnextok, hsub3, rfl, rfl, rfl, rfl, rfl, rfl, rfl, rfl, rfl, rfl, rfl, congrArg (Value.int .i64) (i64_succ b (by omega)), rfl⟩
  rw [if_neg hin] at hfr
  refine m_run ?_
  (apply TL.pv; exact rfl; (apply PV.look1N (kv := spotV) (vv := oneV) (es := seenE seen1) (b := bm) (k := to) keySp; exact tb rfl; exact rfl; exact ⟨_, (tb rfl : TabOk Try.prog 91 _).1⟩; exact tb rfl; exact rfl; exact rfl; exact has_at (up_map _ _ _ _) 6 rfl fun _ h => mapA_at h; exact by rw [lookE_seen, if_neg hin]))
  refine m_run ?_
  (apply TL.mapPut (kv := spotV) (vv := oneV) (k := to) (nv := 1) 6; exact rfl; exact keySp; exact tb rfl; exact rfl; exact ⟨_, (tb rfl : TabOk Try.prog 91 _).1⟩; exact rfl; exact rfl; exact rfl; exact rfl)
  rw [setE_seen hin]
  refine TL.nil ?_
  refine TK.imp (Δ := row b16 [.int .u32 (to.1 : Int), .int .i64 (to.2 : Int)] 91 :: crRow b15 x :: own 115 3 (.slice D next.length kd) next.length (wysC next) :: T L2 :: row b12 [.int .u32 (s.pos : Int), .int .i64 (s.left : Int), .slice s.A s.w.length s.c] 115 :: own 115 3 (.slice (some ⟨g, u, none⟩) now.length kn) now.length (wysC now) :: mapA spotV oneV bm (seenE (seen1 ++ [to])) :: row b4 [.slice (some ⟨g2, u2, none⟩) l.length c, .slice (some ⟨g1, u1, none⟩) K.length k, .bool true] 82 :: Γ3) (fun _ h => h) ?_
  clear hb16
  refine TK.perm (List.perm_middle (a := own 115 3 (.slice D next.length kd) next.length (wysC next)) (l₁ := [row b16 [.int .u32 (to.1 : Int), .int .i64 (to.2 : Int)] 91, crRow b15 x]) (l₂ := T L2 :: row b12 [.int .u32 (s.pos : Int), .int .i64 (s.left : Int), .slice s.A s.w.length s.c] 115 :: own 115 3 (.slice (some ⟨g, u, none⟩) now.length kn) now.length (wysC now) :: mapA spotV oneV bm (seenE (seen1 ++ [to])) :: row b4 [.slice (some ⟨g2, u2, none⟩) l.length c, .slice (some ⟨g1, u1, none⟩) K.length k, .bool true] 82 :: Γ3)) ?_
  refine m_run ?_
  have hb16 : has (row b16 [.int .u32 (to.1 : Int), .int .i64 (to.2 : Int)] 91 :: crRow b15 x :: T L2 :: row b12 [.int .u32 (s.pos : Int), .int .i64 (s.left : Int), .slice s.A s.w.length s.c] 115 :: own 115 3 (.slice (some ⟨g, u, none⟩) now.length kn) now.length (wysC now) :: mapA spotV oneV bm (seenE (seen1 ++ [to])) :: row b4 [.slice (some ⟨g2, u2, none⟩) l.length c, .slice (some ⟨g1, u1, none⟩) K.length k, .bool true] 82 :: Γ3) (fun m => cellsAt m b16 0 (spotL to)) := has_rows 0 rfl rfl
  refine TK.drawE mixed rfl (row b16 [.int .u32 (to.1 : Int), .int .i64 (to.2 : Int)] 91 :: crRow b15 x :: T L2 :: row b12 [.int .u32 (s.pos : Int), .int .i64 (s.left : Int), .slice s.A s.w.length s.c] 115 :: own 115 3 (.slice (some ⟨g, u, none⟩) now.length kn) now.length (wysC now) :: mapA spotV oneV bm (seenE (seen1 ++ [to])) :: row b4 [.slice (some ⟨g2, u2, none⟩) l.length c, .slice (some ⟨g1, u1, none⟩) K.length k, .bool true] 82 :: Γ3) ?_
  refine m_take (At.mk : At 0) ?_; refine m_take (At.mk : At 1) ?_; refine m_take (At.mk : At 2) ?_; refine m_take (At.mk : At 3) ?_; refine m_take (At.mk : At 5) ?_
  refine TA.cutJ [4, 6] (fun ρ' Γ' => ∃ b94 : Nat, lk ρ' 2 = .int .i64 skip ∧ lk ρ' 3 = .func (.func F) #[] cs.toArray ∧ lk ρ' 4 = .pointer (some ⟨b4, 0, none⟩) ∧ lk ρ' 8 = .map (some bm) ∧ lk ρ' 12 = .pointer (some ⟨b12, 0, none⟩) ∧ lk ρ' 31 = .slice (some ⟨g, u, none⟩) now.length kn ∧ lk ρ' 32 = .int .i64 (now.length : Int) ∧ lk ρ' 33 = .int .i64 (a : Int) ∧ lk ρ' 44 = .slice (some ⟨g1, u1, none⟩) K.length k ∧ lk ρ' 45 = .int .i64 (K.length : Int) ∧ lk ρ' 46 = .int .i64 (b : Int) ∧ lk ρ' 88 = .slice D next.length kd ∧ lk ρ' 89 = .agg (spotL to).toArray ∧ lk ρ' 92 = .slice s.A s.w.length s.w.length ∧ lk ρ' 94 = .slice (some ⟨b94, 0, none⟩) 1 1 ∧ Γ' = row b94 (ints [i]) 3 :: own 115 3 (.slice D next.length kd) next.length (wysC next) :: row b16 [.int .u32 (to.1 : Int), .int .i64 (to.2 : Int)] 91 :: crRow b15 x :: T L2 :: row b12 [.int .u32 (s.pos : Int), .int .i64 (s.left : Int), .slice s.A s.w.length s.c] 115 :: own 115 3 (.slice (some ⟨g, u, none⟩) now.length kn) now.length (wysC now) :: mapA spotV oneV bm (seenE (seen1 ++ [to])) :: row b4 [.slice (some ⟨g2, u2, none⟩) l.length c, .slice (some ⟨g1, u1, none⟩) K.length k, .bool true] 82 :: Γ3) rfl ?_ ?_
  · intro tail
    refine TA.two 4 6 (by kernel_rfl) rfl rfl ?_ ?_
    · (apply TL.callV; exact rfl; exact callB_of (by kernel_rfl); exact rfl; exact fun _ h => h)
      exact clip_t s.A s.w.length s.c _ hso.2
      rintro _ _ ⟨rfl, rfl⟩
      refine TL.back (by (focus ((repeat (first | assumption | exact Ent.refl _ | apply Ent.tail)); done))) ?_
      (apply TA.one 6; kernel_rfl; exact rfl)
      (apply TL.buildSlice (l := ints [i]); exact rfl; exact tb rfl; exact rfl; exact tb rfl; exact rfl; exact rfl; exact rfl; exact rfl; exact rfl)
      intro b94
      refine TL.back (by (focus ((repeat (first | assumption | exact Ent.refl _ | apply Ent.tail)); done))) ?_
      refine TA.eqL ?_ (tail _ _ ⟨b94, rfl, rfl, rfl, rfl, rfl, rfl, rfl, rfl, rfl, rfl, rfl, rfl, rfl, rfl, rfl, rfl⟩)
      kernel_rfl
    · (apply TL.buildSlice (l := ints [i]); exact rfl; exact tb rfl; exact rfl; exact tb rfl; exact rfl; exact rfl; exact rfl; exact rfl; exact rfl)
      intro b94
      refine TL.back (by (focus ((repeat (first | assumption | exact Ent.refl _ | apply Ent.tail)); done))) ?_
      (apply TA.one 4; kernel_rfl; exact rfl)
      (apply TL.callV; exact rfl; exact callB_of (by kernel_rfl); exact rfl; exact fun _ h => h)
      exact clip_t s.A s.w.length s.c _ hso.2
      rintro _ _ ⟨rfl, rfl⟩
      refine TL.back (by (focus ((repeat (first | assumption | exact Ent.refl _ | apply Ent.tail)); done))) ?_
      refine TA.eqL ?_ (tail _ _ ⟨b94, rfl, rfl, rfl, rfl, rfl, rfl, rfl, rfl, rfl, rfl, rfl, rfl, rfl, rfl, rfl, rfl⟩)
      kernel_rfl
  rintro ρ3 _ ⟨b94, f2, f3, f4, f8, f12, f31, f32, f33, f44, f45, f46, f88, f89, f92, f94, rfl⟩
  refine TA.know (t := 2) (v := .int .i64 skip) f2 ?_
  refine TA.know (t := 3) (v := .func (.func F) #[] cs.toArray) f3 ?_
  refine TA.know (t := 4) (v := .pointer (some ⟨b4, 0, none⟩)) f4 ?_
  refine TA.know (t := 8) (v := .map (some bm)) f8 ?_
  refine TA.know (t := 12) (v := .pointer (some ⟨b12, 0, none⟩)) f12 ?_
  refine TA.know (t := 31) (v := .slice (some ⟨g, u, none⟩) now.length kn) f31 ?_
  refine TA.know (t := 32) (v := .int .i64 (now.length : Int)) f32 ?_
  refine TA.know (t := 33) (v := .int .i64 (a : Int)) f33 ?_
  refine TA.know (t := 44) (v := .slice (some ⟨g1, u1, none⟩) K.length k) f44 ?_
  refine TA.know (t := 45) (v := .int .i64 (K.length : Int)) f45 ?_
  refine TA.know (t := 46) (v := .int .i64 (b : Int)) f46 ?_
  refine TA.know (t := 88) (v := .slice D next.length kd) f88 ?_
  refine TA.know (t := 89) (v := .agg (spotL to).toArray) f89 ?_
  refine TA.know (t := 92) (v := .slice s.A s.w.length s.w.length) f92 ?_
  refine TA.know (t := 94) (v := .slice (some ⟨b94, 0, none⟩) 1 1) f94 ?_
  (apply TA.one 7; kernel_rfl; exact rfl)
  (apply TL.appendF (z := 1) (s := (s.w ++ [i]).length) (cs := ints s.w) (news := ints [i]); exact rfl; exact tb rfl; exact rfl; exact tb rfl; exact rfl; exact rfl; exact rfl; exact rfl)
  · exact has_tls (has_tls (has_tls (has_tls (has_tls (has_tls (has_tls (has_tls (has_tls hso.1))))))))
  · exact rfl
  · exact has_src_row 0 rfl rfl
  · exact ints_one [i]
  · exact Nat.zero_lt_one
  · show (s.w.length + 1) * 8 ≤ _; omega
  · show s.w.length + 1 ≤ maxLen; unfold maxLen; omega
  · simp
  intro W2 c2 hc2
  rw [show ints s.w ++ ints [i] = ints (s.w ++ [i]) by simp]
  refine TL.back (by (focus ((repeat (first | assumption | exact Ent.refl _ | apply Ent.tail)); done))) ?_
  (apply TA.takeA (At.mk : At 8); exact rfl; exact rfl; kernel_rfl; ((focus ((repeat (first | assumption | exact Ent.refl _ | apply Ent.tail)); done))); (apply PV.build tabs; exact rfl; exact rfl; exact rfl; exact rfl; exact rfl; exact (rfl : _ = Wy.cells ⟨to.1, to.2, W2, c2, s.w ++ [i]⟩)))
  (apply TA.one 9; kernel_rfl; exact rfl)
  (apply TL.buildSlice (l := wysC [⟨to.1, to.2, W2, c2, s.w ++ [i]⟩]); exact rfl; exact tb rfl; exact rfl; exact tb rfl; exact rfl; exact rfl; exact rfl; exact rfl; exact rfl)
  intro b97
  refine TL.back (by (focus ((repeat (first | assumption | exact Ent.refl _ | apply Ent.tail)); done))) ?_
  (apply TA.one 10; kernel_rfl; exact rfl)
  (apply TL.append 3; exact rfl; exact rfl; exact tb rfl; exact rfl; exact tb rfl; exact rfl; exact rfl; exact rfl)
  · exact fun _ h => h
  · exact rfl
  · exact has_src_row 0 rfl rfl
  · exact one_wys _
  · show (next.length + 1) * 40 ≤ _; omega
  · show next.length + 1 ≤ maxLen; unfold maxLen; omega
  · exact fun _ => (rfl : _ = _ :: _ :: _ :: _ :: _)
  intro D2 kd2 hkd2
  obtain ⟨y, hy⟩ : ∃ y : Wy, y = ⟨to.1, to.2, W2, c2, s.w ++ [i]⟩ := ⟨_, rfl⟩
  rw [← hy, show wysC next ++ wysC [y] = wysC (next ++ [y]) by simp, show next.length + 1 = (next ++ [y]).length by simp]
  rw [show next.length + 1 = (next ++ [y]).length by simp] at hkd2
  refine TL.back (by (focus ((repeat (first | assumption | exact Ent.refl _ | apply Ent.tail)); done))) ?_
  refine m_take (At.mk : At 11) ?_
  refine TA.done (by kernel_rfl) ?_
  refine m_run ?_
  refine TK.sub (Δ := own 3 1 (.slice W2 (s.w ++ [i]).length c2) (s.w ++ [i]).length (ints (s.w ++ [i])) :: own 115 3 (.slice D2 (next ++ [y]).length kd2) (next ++ [y]).length (wysC (next ++ [y])) :: T L2 :: row b12 [.int .u32 (s.pos : Int), .int .i64 (s.left : Int), .slice s.A s.w.length s.c] 115 :: own 115 3 (.slice (some ⟨g, u, none⟩) now.length kn) now.length (wysC now) :: mapA spotV oneV bm (seenE (seen1 ++ [to])) :: row b4 [.slice (some ⟨g2, u2, none⟩) l.length c, .slice (some ⟨g1, u1, none⟩) K.length k, .bool true] 82 :: Γ3) (by (repeat (first | exact List.Sublist.refl _ | apply List.Sublist.cons_cons | apply List.Sublist.cons))) ?_
  refine TK.perm (Δ := own 115 3 (.slice D2 (next ++ [y]).length kd2) (next ++ [y]).length (wysC (next ++ [y])) :: T L2 :: row b12 [.int .u32 (s.pos : Int), .int .i64 (s.left : Int), .slice s.A s.w.length s.c] 115 :: own 115 3 (.slice (some ⟨g, u, none⟩) now.length kn) now.length (wysC now) :: mapA spotV oneV bm (seenE (seen1 ++ [to])) :: row b4 [.slice (some ⟨g2, u2, none⟩) l.length c, .slice (some ⟨g1, u1, none⟩) K.length k, .bool true] 82 :: own 3 1 (.slice W2 (s.w ++ [i]).length c2) (s.w ++ [i]).length (ints (s.w ++ [i])) :: Γ3) (List.perm_middle (a := own 3 1 (.slice W2 (s.w ++ [i]).length c2) (s.w ++ [i]).length (ints (s.w ++ [i]))) (l₁ := [own 115 3 (.slice D2 (next ++ [y]).length kd2) (next ++ [y]).length (wysC (next ++ [y])), T L2, row b12 [.int .u32 (s.pos : Int), .int .i64 (s.left : Int), .slice s.A s.w.length s.c] 115, own 115 3 (.slice (some ⟨g, u, none⟩) now.length kn) now.length (wysC now), mapA spotV oneV bm (seenE (seen1 ++ [to])), row b4 [.slice (some ⟨g2, u2, none⟩) l.length c, .slice (some ⟨g1, u1, none⟩) K.length k, .bool true] 82]) (l₂ := Γ3)).symm ?_
  have hyp : pureY y = (to, s.w ++ [i]) := by rw [hy]; rfl
  exact IH3 (j'' - 1) _ _ (by omega) ⟨b + 1, next ++ [y], D2, kd2, seen1 ++ [to], own 3 1 (.slice W2 (s.w ++ [i]).length c2) (s.w ++ [i]).length (ints (s.w ++ [i])) :: Γ3, by omega, by rw [hfr, List.map_append, ← hyp]; rfl, by rw [hseen1, List.map_append, List.map_append, ← List.append_assoc]; simp [hyp], by simp; omega, hkd2, fun s hs => Wy.ok_tl (hL2ok s hs), fun s hs => Wy.ok_tl (hnowok s hs), fun z hz => by
    rcases List.mem_append.1 hz with hz | hz
    · exact ⟨Wy.ok_tl (hnextok z hz).1, (hnextok z hz).2⟩
    · rw [List.mem_singleton.1 hz, hy]
      exact ⟨⟨has_at (up_src _ _ _ _) 0 rfl fun _ h => own_src h, hc2⟩, by show (s.w ++ [i]).length ≤ n + 1; simp; omega, by show to.2 + (n + 1) ≤ 3; omega⟩, .cons _ hsub3, rfl, rfl, rfl, rfl, rfl, rfl, rfl, rfl, rfl, rfl, rfl, congrArg (Value.int .i64) (i64_succ b (by omega)), rfl⟩
end Go.Proofs.Ythbcfamfaicneaa.E

/- Numbers that are sorted: a row as an array. -/
namespace Go.Proofs.Ythbcfamfaicneaa.E.SI
open Go Go.RowKit Go.Proofs Go.Sort

/-- A row of numbers of one's own, as an array. -/
abbrev DD (b c n : Nat) (d : Array Int) : HP := own 3 1 (.slice (some ⟨b, 0, none⟩) n c) n (nums .i64 d.toList)
theorem cellD {b c n i : Nat} {d : Array Int} {Γ : List HP} (hn : d.size = n) (hi : i < n) : has (DD b c n d :: Γ) (fun m => cellAt m b i (.int .i64 d[i]!)) := by
  have h1 : has (DD b c n d :: Γ) (srcAt 1 (some ⟨b, 0, none⟩) n (nums .i64 d.toList)) := has_at (up_src _ _ _ _) 0 rfl fun _ h => own_src h
  have h2 := has_num h1 (i := i) (by simp; omega)
  have h3 : d.toList[i]'(by simp; omega) = d[i]! := by
    rw [getElem!_pos d i (by omega)]; simp
  rw [Nat.zero_add, h3] at h2
  exact h2
theorem swpD {q : IntKind} {d : Array Int} {i j : Nat} : ((nums q d.toList).set i (.int q d[j]!)).set j (.int q d[i]!) = nums q (swp d i j).toList := by
  unfold nums swp
  rw [Array.toList_setIfInBounds, Array.toList_setIfInBounds, List.map_set, List.map_set]
theorem PV.quoI {P : Program} {S : World → Prop} {ρ : Env} {d : Nat} {ty : TypeId} {pos : String} {after : Array Edge} {t t' : TypeId} {x y : Operand} {n m : Nat} {b : Int} (ea : ev ρ x = .int .i64 (n : Int)) (eb : ev ρ y = .int .i64 b) (hb : b = (m : Int)) (hm : m ≠ 0) (hn : n < 9223372036854775808) : PV P ρ S ⟨some d, .binOp .quo t x y t', ty, pos, after, none⟩ (.int .i64 ((n / m : Nat) : Int)) := fun w hw => by
  subst hb
  have h1 := PV.quo (P := P) (S := S) (d := d) (ty := ty) (pos := pos) (after := after) (t := t) (t' := t') ea eb (by omega) w hw
  have h2 : n / m ≤ n := Nat.div_le_self _ _
  rw [h1, show (n : Int).tdiv (m : Int) = ((n / m : Nat) : Int) from rfl, i64_nat (by omega)]
attribute [local irreducible] TK TL TQ TA TB Fn PV Sort.insInner Sort.heapBuild Sort.heapPop Sort.scanDown Sort.shiftDown Sort.partialIns
theorem nanI_t (x : Int) (Γ : List HP) : FnV Try.prog 116 [.int .i64 x] Γ fun v Γ' => v = .bool false ∧ Γ' = Γ := by
  refine Fn.enter Try.func116 rfl rfl rfl fun E => ?_
  refine m_run ?_
  (apply TK.ret1; exact rfl; exact rfl; exact rfl)
  exact ⟨_, rfl, congrArg Value.bool (by simp), rfl⟩
theorem less_t (x y : Int) (Γ : List HP) : FnV Try.prog 91 [.int .i64 x, .int .i64 y] Γ fun v Γ' => v = .bool (decide (x < y)) ∧ Γ' = Γ := by
  refine Fn.enter Try.func91 rfl rfl rfl fun E => ?_
  refine m_run ?_
  (apply TL.callV; exact rfl; exact callB_of (by kernel_rfl); exact rfl; exact fun _ h => h)
  exact nanI_t x Γ
  rintro _ Γ ⟨rfl, rfl⟩
  refine m_run ?_
  (apply TK.ret1; exact rfl; exact rfl; exact rfl)
  exact ⟨_, rfl, rfl, rfl⟩
set_option maxRecDepth 100000 in
set_option maxHeartbeats 4000000 in
theorem ins_t (b c n a e : Nat) (d0 : Array Int) (Γ : List HP) (hsz0 : d0.size = n) (ha : a ≤ n) (he : e ≤ n) (hn : n ≤ 1000000000) :
    FnV Try.prog 85 [.slice (some ⟨b, 0, none⟩) n c, .int .i64 (a : Int), .int .i64 (e : Int)] (DD b c n d0 :: Γ) fun v Γ' => v = .tuple #[] ∧ Γ' = DD b c n (insertionSort ltInt d0 a e) :: Γ := by
  refine Fn.enter Try.func85 rfl rfl rfl fun E => ?_
  unfold insertionSort
  generalize hX : insOuter ltInt a e (a + 1) d0 = X
  refine m_run ?_
  apply TK.iter (fun j ρ' Γ' => ∃ (i : Nat) (d : Array Int), i + j = e + a + 1 ∧ a + 1 ≤ i ∧ i ≤ n + 1 ∧ d.size = n ∧ insOuter ltInt a e i d = X ∧ lk ρ' 0 = .slice (some ⟨b, 0, none⟩) n c ∧ lk ρ' 1 = .int .i64 (a : Int) ∧ lk ρ' 2 = .int .i64 (e : Int) ∧ lk ρ' 6 = .int .i64 (i : Int) ∧ Γ' = DD b c n d :: Γ) e
  · exact ⟨a + 1, d0, by omega, Nat.le_refl _, by omega, hsz0, hX, rfl, rfl, rfl, congrArg (Value.int .i64) (by rw [i64_in (by omega) (by omega)]; omega), rfl⟩
  rintro j IH ρ' _ ⟨i, d, hij, hi1, hin, hsz, hX, e0, e1, e2, e6, rfl⟩
  refine TK.know4 e0 e1 e2 e6 ?_
  by_cases hi : i < e
  · rw [Sort.insOuter, if_pos hi] at hX
    refine m_run ?_
    generalize hY : insInner ltInt a i d = Y at hX
    apply TK.iter (fun j ρ' Γ' => ∃ (d : Array Int), j ≤ i ∧ d.size = n ∧ insInner ltInt a j d = Y ∧ lk ρ' 0 = .slice (some ⟨b, 0, none⟩) n c ∧ lk ρ' 1 = .int .i64 (a : Int) ∧ lk ρ' 2 = .int .i64 (e : Int) ∧ lk ρ' 6 = .int .i64 (i : Int) ∧ lk ρ' 7 = .int .i64 (j : Int) ∧ Γ' = DD b c n d :: Γ) i
    · exact ⟨d, Nat.le_refl _, hsz, hY, rfl, rfl, rfl, rfl, rfl, rfl⟩
    clear hY hsz
    rintro q IH2 ρ2 _ ⟨d, hqi, hsz, hY, f0, f1, f2, f6, f7, rfl⟩
    refine TK.know5 f0 f1 f2 f6 f7 ?_
    have hfin : d = Y → Y.size = n ∧ insOuter ltInt a e (i + 1) Y = X := fun h => ⟨h ▸ hsz, hX⟩
    by_cases hk : a < q
    · obtain ⟨p, rfl⟩ : ∃ p, q = p + 1 := ⟨q - 1, by omega⟩
      rw [Sort.insInner] at hY
      have hc1 := cellD (b := b) (c := c) (Γ := Γ) hsz (show p + 1 < n by omega)
      have hc2 := cellD (b := b) (c := c) (Γ := Γ) hsz (show p < n by omega)
      refine m_run ?_
      refine TK.drawS mixed rfl ?_
      refine m_take (At.mk : At 0) ?_; refine m_take (At.mk : At 1) ?_; refine m_take (At.mk : At 2) ?_
      refine TA.isT 18 rfl (decide_eq_true (by omega)) ?_
      refine m_take (At.mk : At 3) ?_; refine m_take (At.mk : At 4) ?_; refine m_take (At.mk : At 5) ?_; refine m_take (At.mk : At 6) ?_; refine m_take (At.mk : At 7) ?_; refine m_take (At.mk : At 8) ?_; refine m_take (At.mk : At 9) ?_; refine m_take (At.mk : At 10) ?_
      refine TA.know (t := 26) (v := .int .i64 ((p : Nat) : Int)) (congrArg (Value.int .i64) (by rw [i64_in (by omega) (by omega)]; omega)) ?_
      refine m_take (At.mk : At 11) ?_; refine m_take (At.mk : At 12) ?_
      (apply TA.one 13; kernel_rfl; exact rfl)
      refine m_rrun ?_
      (apply TL.callV; exact rfl; exact callB_of (by kernel_rfl); exact rfl; exact fun _ h => h)
      exact less_t _ _ _
      rintro _ _ ⟨rfl, rfl⟩
      refine TL.back (by (focus ((repeat (first | assumption | exact Ent.refl _ | apply Ent.tail)); done))) ?_
      refine m_take (At.mk : At 14) ?_
      by_cases hlt : d[p + 1]! < d[p]!
      · rw [if_pos (by simp [ltInt, hlt]; omega)] at hY
        refine TA.isT 30 rfl (decide_eq_true hlt) ?_
        refine TA.done (by kernel_rfl) ?_
        refine m_run ?_
        have hcI := cellD (b := b) (c := c) (Γ := Γ) hsz (show p + 1 < n by omega)
        have hcK := cellD (b := b) (c := c) (Γ := Γ) hsz (show p < n by omega)
        refine TK.drawB mixed rfl 15 (DD b c n d :: Γ) (Γ) ?_
        refine m_bake (At.mk : At 0) ?_; refine m_bake (At.mk : At 1) ?_; refine m_bake (At.mk : At 2) ?_; refine m_bake (At.mk : At 3) ?_; refine m_bake (At.mk : At 4) ?_
        refine TB.know (t := 37) (v := .int .i64 ((p : Nat) : Int)) (congrArg (Value.int .i64) (by rw [i64_in (by omega) (by omega)]; omega)) ?_
        refine m_bake (At.mk : At 5) ?_; refine m_bake (At.mk : At 6) ?_; refine m_bake (At.mk : At 7) ?_
        refine TB.know (t := 40) (v := .int .i64 ((p : Nat) : Int)) (congrArg (Value.int .i64) (by rw [i64_in (by omega) (by omega)]; omega)) ?_
        refine m_bake (At.mk : At 8) ?_; refine m_bake (At.mk : At 9) ?_; refine m_bake (At.mk : At 10) ?_; refine m_bake (At.mk : At 11) ?_; refine m_bake (At.mk : At 12) ?_; refine m_bake (At.mk : At 13) ?_; refine m_bake (At.mk : At 14) ?_
        (apply TB.last; kernel_rfl; exact rfl)
        (apply TL.storeOwn 0 (p + 1); exact rfl; exact rfl; exact rfl; exact rfl; exact tb rfl; exact rfl; exact (Nat.zero_add _).symm; exact (by omega))
        refine TL.back (by (focus ((repeat (first | assumption | exact Ent.refl _ | apply Ent.tail)); done))) ?_
        refine m_take (At.mk : At 16) ?_
        (apply TA.one 17; kernel_rfl; exact rfl)
        (apply TL.storeOwn 0 (p); exact rfl; exact rfl; exact rfl; exact rfl; exact tb rfl; exact rfl; exact (Nat.zero_add _).symm; exact (by omega))
        refine TL.back (by (focus ((repeat (first | assumption | exact Ent.refl _ | apply Ent.tail)); done))) ?_
        refine TA.done (by kernel_rfl) ?_
        refine TK.imp (Δ := DD b c n (swp d (p + 1) (p)) :: Γ) (fun _ h => by show all (own _ _ _ _ (nums _ (swp d (p + 1) (p)).toList) :: _) _; rw [← swpD]; exact h) ?_
        have hsz : (swp d (p + 1) (p)).size = n := (size_swp _ _ _).trans hsz
        clear hcI hcK
        clear hc1 hc2
        refine m_run ?_
        exact IH2 p _ _ (by omega) ⟨_, by omega, hsz, hY, rfl, rfl, rfl, rfl, congrArg (Value.int .i64) (by rw [i64_in (by omega) (by omega)]; omega), rfl⟩
      · rw [if_neg (by simp [ltInt, hlt])] at hY
        obtain ⟨g1, g2⟩ := hfin hY
        refine TA.isF 30 rfl (decide_eq_false hlt) ?_
        refine TA.done (by kernel_rfl) ?_
        rw [hY]
        refine m_run ?_
        exact IH (j - 1) _ _ (by omega) ⟨i + 1, Y, by omega, by omega, by omega, g1, g2, rfl, rfl, rfl, congrArg (Value.int .i64) (i64_succ i (by omega)), rfl⟩
    · have hY2 : d = Y := by
        rw [← hY]
        cases q with
        | zero => rw [Sort.insInner]
        | succ p => rw [Sort.insInner, if_neg (by simp; omega)]
      obtain ⟨g1, g2⟩ := hfin hY2
      rw [hY2]
      refine m_run ?_
      refine TK.drawS mixed rfl ?_
      refine m_take (At.mk : At 0) ?_; refine m_take (At.mk : At 1) ?_; refine m_take (At.mk : At 2) ?_
      refine TA.isF 18 rfl (decide_eq_false (by omega)) ?_
      refine m_take (At.mk : At 3) ?_; refine m_take (At.mk : At 4) ?_; refine m_take (At.mk : At 5) ?_; refine m_take (At.mk : At 6) ?_; refine m_take (At.mk : At 7) ?_; refine m_take (At.mk : At 8) ?_; refine m_take (At.mk : At 9) ?_; refine m_take (At.mk : At 10) ?_; refine m_take (At.mk : At 11) ?_; refine m_take (At.mk : At 12) ?_; refine m_take (At.mk : At 13) ?_; refine m_take (At.mk : At 14) ?_
      refine TA.done (by kernel_rfl) ?_
      refine m_run ?_
      exact IH (j - 1) _ _ (by omega) ⟨i + 1, Y, by omega, by omega, by omega, g1, g2, rfl, rfl, rfl, congrArg (Value.int .i64) (i64_succ i (by omega)), rfl⟩
  rw [Sort.insOuter, if_neg hi] at hX
  rw [hX]
  refine m_run ?_
  exact TK.over0 rfl rfl ⟨_, rfl, rfl, rfl⟩

set_option maxRecDepth 100000 in
set_option maxHeartbeats 4000000 in
theorem order2_t (b c n s p q : Nat) (z : Int) (d : Array Int) (Γ : List HP) (hsz : d.size = n) (hp : p < n) (hq : q < n) :
    FnV Try.prog 125 [.slice (some ⟨b, 0, none⟩) n c, .int .i64 (p : Int), .int .i64 (q : Int), .pointer (some ⟨s, 0, none⟩)] (row s [.int .i64 z] 3 :: DD b c n d :: Γ) fun v Γ' => ∃ (x y : Nat) (z' : Int), (x = p ∧ y = q ∨ x = q ∧ y = p) ∧ v = .tuple #[.int .i64 (x : Int), .int .i64 (y : Int)] ∧ Γ' = row s [.int .i64 z'] 3 :: DD b c n d :: Γ := by
  refine Fn.enter Try.func125 rfl rfl rfl fun E => ?_
  have hc1 := has_tlc (K := row s [.int .i64 z] 3) (cellD (b := b) (c := c) (Γ := Γ) hsz hp)
  have hc2 := has_tlc (K := row s [.int .i64 z] 3) (cellD (b := b) (c := c) (Γ := Γ) hsz hq)
  refine m_run ?_
  refine TK.drawS mixed rfl ?_
  refine m_take (At.mk : At 0) ?_; refine m_take (At.mk : At 1) ?_; refine m_take (At.mk : At 2) ?_; refine m_take (At.mk : At 3) ?_; refine m_take (At.mk : At 4) ?_; refine m_take (At.mk : At 5) ?_; refine m_take (At.mk : At 6) ?_; refine m_take (At.mk : At 7) ?_
  (apply TA.one 8; kernel_rfl; exact rfl)
  (apply TL.callV; exact rfl; exact callB_of (by kernel_rfl); exact rfl; exact fun _ h => h)
  exact less_t _ _ _
  rintro _ _ ⟨rfl, rfl⟩
  refine TL.back (by (focus ((repeat (first | assumption | exact Ent.refl _ | apply Ent.tail)); done))) ?_
  refine TA.done (by kernel_rfl) ?_
  by_cases h : d[q]! < d[p]!
  · rw [decide_eq_true h]
    refine m_run ?_
    (apply TK.ret2; exact rfl; exact rfl; (exact m_val); (exact m_val))
    exact ⟨_, rfl, q, p, _, .inr ⟨rfl, rfl⟩, rfl, rfl⟩
  · rw [decide_eq_false h]
    refine m_run ?_
    (apply TK.ret2; exact rfl; exact rfl; (exact m_val); (exact m_val))
    exact ⟨_, rfl, p, q, _, .inl ⟨rfl, rfl⟩, rfl, rfl⟩
set_option maxRecDepth 100000 in
set_option maxHeartbeats 4000000 in
theorem median_t (b c n s p q r : Nat) (z : Int) (d : Array Int) (Γ : List HP) (hsz : d.size = n) (hp : p < n) (hq : q < n) (hr : r < n) :
    FnV Try.prog 115 [.slice (some ⟨b, 0, none⟩) n c, .int .i64 (p : Int), .int .i64 (q : Int), .int .i64 (r : Int), .pointer (some ⟨s, 0, none⟩)] (row s [.int .i64 z] 3 :: DD b c n d :: Γ) fun v Γ' => ∃ (x : Nat) (z' : Int), (x = p ∨ x = q ∨ x = r) ∧ v = .int .i64 (x : Int) ∧ Γ' = row s [.int .i64 z'] 3 :: DD b c n d :: Γ := by
  refine Fn.enter Try.func115 rfl rfl rfl fun E => ?_
  refine m_run ?_
  (apply TL.callV; exact rfl; exact callB_of (by kernel_rfl); exact rfl; exact fun _ h => h)
  exact order2_t b c n s p q z d Γ hsz hp hq
  rintro _ _ ⟨x1, y1, z1, h1, rfl, rfl⟩
  refine m_run ?_
  (apply TL.callV; exact rfl; exact callB_of (by kernel_rfl); exact rfl; exact fun _ h => h)
  exact order2_t b c n s y1 r z1 d Γ hsz (by omega) hr
  rintro _ _ ⟨x2, y2, z2, h2, rfl, rfl⟩
  refine m_run ?_
  (apply TL.callV; exact rfl; exact callB_of (by kernel_rfl); exact rfl; exact fun _ h => h)
  exact order2_t b c n s x1 x2 z2 d Γ hsz (by omega) (by omega)
  rintro _ _ ⟨x3, y3, z3, h3, rfl, rfl⟩
  refine m_run ?_
  (apply TK.ret1; exact rfl; exact rfl; (exact m_val))
  exact ⟨_, rfl, y3, z3, by omega, rfl, rfl⟩
set_option maxRecDepth 100000 in
set_option maxHeartbeats 4000000 in
theorem medAdj_t (b c n s p : Nat) (z : Int) (d : Array Int) (Γ : List HP) (hsz : d.size = n) (h1 : 1 ≤ p) (hp : p + 1 < n) (hn : n ≤ 1000000000) :
    FnV Try.prog 114 [.slice (some ⟨b, 0, none⟩) n c, .int .i64 (p : Int), .pointer (some ⟨s, 0, none⟩)] (row s [.int .i64 z] 3 :: DD b c n d :: Γ) fun v Γ' => ∃ (x : Nat) (z' : Int), (x + 1 = p ∨ x = p ∨ x = p + 1) ∧ v = .int .i64 (x : Int) ∧ Γ' = row s [.int .i64 z'] 3 :: DD b c n d :: Γ := by
  refine Fn.enter Try.func114 rfl rfl rfl fun E => ?_
  refine m_run ?_
  refine TL.know (t := 9) (v := .int .i64 ((p - 1 : Nat) : Int)) (congrArg (Value.int .i64) (by rw [i64_in (by omega) (by omega)]; omega)) ?_
  refine m_run ?_
  refine TL.know (t := 12) (v := .int .i64 ((p + 1 : Nat) : Int)) (congrArg (Value.int .i64) (by rw [i64_in (by omega) (by omega)]; omega)) ?_
  (apply TL.callV; exact rfl; exact callB_of (by kernel_rfl); exact rfl; exact fun _ h => h)
  exact median_t b c n s (p - 1) p (p + 1) z d Γ hsz (by omega) (by omega) hp
  rintro _ _ ⟨x, z1, h, rfl, rfl⟩
  refine m_run ?_
  (apply TK.ret1; exact rfl; exact rfl; (exact m_val))
  exact ⟨_, rfl, x, z1, by omega, rfl, rfl⟩
set_option maxRecDepth 100000 in
set_option maxHeartbeats 4000000 in
theorem pivot_t (b c n a e : Nat) (d : Array Int) (Γ : List HP) (hsz : d.size = n) (hae : a + 12 < e) (he : e ≤ n) (hn : n ≤ 1000000000) :
    FnV Try.prog 88 [.slice (some ⟨b, 0, none⟩) n c, .int .i64 (a : Int), .int .i64 (e : Int)] (DD b c n d :: Γ) fun v Γ' => ∃ (x : Nat) (z : Int), a ≤ x ∧ x < e ∧ (z = 0 ∨ z = 1 ∨ z = 2) ∧ v = .tuple #[.int .i64 (x : Int), .int .i64 z] ∧ Γ' = DD b c n d :: Γ := by
  refine Fn.enter Try.func88 rfl rfl rfl fun E => ?_
  have hq1 : (e - a) / 4 * 4 ≤ e - a := Nat.div_mul_le_self _ _
  have hq3 : 3 ≤ (e - a) / 4 := by omega
  have hqt : IntKind.i64.wrap (((e - a : Nat) : Int).tdiv 4) = (((e - a) / 4 : Nat) : Int) := by
    rw [show ((e - a : Nat) : Int).tdiv 4 = (((e - a) / 4 : Nat) : Int) from rfl, i64_in (by omega) (by omega)]
  have hq50 : 50 ≤ e - a → 12 ≤ (e - a) / 4 := by omega
  generalize (e - a) / 4 = q at *
  refine m_run ?_
  refine TL.know (t := 8) (v := .int .i64 ((e - a : Nat) : Int)) (congrArg (Value.int .i64) (by rw [i64_in (by omega) (by omega)]; omega)) ?_
  refine m_run ?_
  (apply TL.alloc; exact rfl; exact tb rfl; (exact m_lst))
  intro s
  refine m_run ?_
  refine TK.know (t := 10) (v := .int .i64 ((a + q * 1 : Nat) : Int)) (congrArg (Value.int .i64) (by rw [hqt, i64_in (x := (q : Int) * 1) (by omega) (by omega), i64_in (by omega) (by omega)]; omega)) ?_
  refine TK.know (t := 11) (v := .int .i64 ((a + q * 2 : Nat) : Int)) (congrArg (Value.int .i64) (by rw [hqt, i64_in (x := (q : Int) * 2) (by omega) (by omega), i64_in (by omega) (by omega)]; omega)) ?_
  refine TK.know (t := 12) (v := .int .i64 ((a + q * 3 : Nat) : Int)) (congrArg (Value.int .i64) (by rw [hqt, i64_in (x := (q : Int) * 3) (by omega) (by omega), i64_in (by omega) (by omega)]; omega)) ?_
  refine TK.imp (Δ := row s [.int .i64 0] 3 :: DD b c n d :: Γ) (fun _ h => h) ?_
  by_cases h50 : 50 ≤ e - a
  · have hbig := hq50 h50
    refine m_run ?_
    (apply TL.callV; exact rfl; exact callB_of (by kernel_rfl); exact rfl; exact fun _ h => h)
    exact medAdj_t b c n s (a + q * 1) 0 d Γ hsz (by omega) (by omega) hn
    rintro _ _ ⟨x1, z1, h1, rfl, rfl⟩
    refine m_run ?_
    (apply TL.callV; exact rfl; exact callB_of (by kernel_rfl); exact rfl; exact fun _ h => h)
    exact medAdj_t b c n s (a + q * 2) z1 d Γ hsz (by omega) (by omega) hn
    rintro _ _ ⟨x2, z2, h2, rfl, rfl⟩
    refine m_run ?_
    (apply TL.callV; exact rfl; exact callB_of (by kernel_rfl); exact rfl; exact fun _ h => h)
    exact medAdj_t b c n s (a + q * 3) z2 d Γ hsz (by omega) (by omega) hn
    rintro _ _ ⟨x3, z3, h3, rfl, rfl⟩
    refine m_run ?_
    (apply TL.callV; exact rfl; exact callB_of (by kernel_rfl); exact rfl; exact fun _ h => h)
    exact median_t b c n s x1 x2 x3 z3 d Γ hsz (by omega) (by omega) (by omega)
    rintro _ _ ⟨x, z, h, rfl, rfl⟩
    by_cases hz : z = 0
    · refine m_run ?_
      (apply TK.retS2; exact rfl; exact rfl; (exact m_val); (exact m_val))
      · exact ⟨_, rfl, x, 1, by omega, by omega, .inr (.inl rfl), rfl, rfl⟩
      · (repeat (first | exact List.Sublist.refl _ | apply List.Sublist.cons_cons | apply List.Sublist.cons))
    · by_cases hz2 : z = 12
      · refine m_run ?_
        (apply TK.retS2; exact rfl; exact rfl; (exact m_val); (exact m_val))
        · exact ⟨_, rfl, x, 2, by omega, by omega, .inr (.inr rfl), rfl, rfl⟩
        · (repeat (first | exact List.Sublist.refl _ | apply List.Sublist.cons_cons | apply List.Sublist.cons))
      · refine m_run ?_
        (apply TK.retS2; exact rfl; exact rfl; (exact m_val); (exact m_val))
        · exact ⟨_, rfl, x, 0, by omega, by omega, .inl rfl, rfl, rfl⟩
        · (repeat (first | exact List.Sublist.refl _ | apply List.Sublist.cons_cons | apply List.Sublist.cons))
  · refine m_run ?_
    (apply TL.callV; exact rfl; exact callB_of (by kernel_rfl); exact rfl; exact fun _ h => h)
    exact median_t b c n s (a + q * 1) (a + q * 2) (a + q * 3) 0 d Γ hsz (by omega) (by omega) (by omega)
    rintro _ _ ⟨x, z, h, rfl, rfl⟩
    by_cases hz : z = 0
    · refine m_run ?_
      (apply TK.retS2; exact rfl; exact rfl; (exact m_val); (exact m_val))
      · exact ⟨_, rfl, x, 1, by omega, by omega, .inr (.inl rfl), rfl, rfl⟩
      · (repeat (first | exact List.Sublist.refl _ | apply List.Sublist.cons_cons | apply List.Sublist.cons))
    · by_cases hz2 : z = 12
      · refine m_run ?_
        (apply TK.retS2; exact rfl; exact rfl; (exact m_val); (exact m_val))
        · exact ⟨_, rfl, x, 2, by omega, by omega, .inr (.inr rfl), rfl, rfl⟩
        · (repeat (first | exact List.Sublist.refl _ | apply List.Sublist.cons_cons | apply List.Sublist.cons))
      · refine m_run ?_
        (apply TK.retS2; exact rfl; exact rfl; (exact m_val); (exact m_val))
        · exact ⟨_, rfl, x, 0, by omega, by omega, .inl rfl, rfl, rfl⟩
        · (repeat (first | exact List.Sublist.refl _ | apply List.Sublist.cons_cons | apply List.Sublist.cons))
set_option maxRecDepth 100000 in
set_option maxHeartbeats 4000000 in
theorem rev_t (b c n a e : Nat) (d0 : Array Int) (Γ : List HP) (hsz0 : d0.size = n) (hae : a < e) (he : e ≤ n) (hn : n ≤ 1000000000) :
    FnV Try.prog 89 [.slice (some ⟨b, 0, none⟩) n c, .int .i64 (a : Int), .int .i64 (e : Int)] (DD b c n d0 :: Γ) fun v Γ' => v = .tuple #[] ∧ Γ' = DD b c n (reverseRange d0 a e) :: Γ := by
  refine Fn.enter Try.func89 rfl rfl rfl fun E => ?_
  unfold reverseRange
  generalize hX : reverseLoop a (e - 1) d0 = X
  refine m_run ?_
  apply TK.iter (fun m ρ' Γ' => ∃ (i j : Nat) (d : Array Int), j + 1 - i ≤ m ∧ i ≤ n ∧ j < n ∧ d.size = n ∧ reverseLoop i j d = X ∧ lk ρ' 0 = .slice (some ⟨b, 0, none⟩) n c ∧ lk ρ' 6 = .int .i64 (i : Int) ∧ lk ρ' 7 = .int .i64 (j : Int) ∧ Γ' = DD b c n d :: Γ) n
  · exact ⟨a, e - 1, d0, by omega, by omega, by omega, hsz0, hX, rfl, rfl, congrArg (Value.int .i64) (by rw [i64_in (by omega) (by omega)]; omega), rfl⟩
  rintro m IH ρ' _ ⟨i, j, d, hm, hi, hj, hsz, hX, e0, e6, e7, rfl⟩
  refine TK.know3 e0 e6 e7 ?_
  by_cases hij : i < j
  · rw [Sort.reverseLoop, if_pos hij] at hX
    refine m_run ?_
    have hcI := cellD (b := b) (c := c) (Γ := Γ) hsz (show i < n by omega)
    have hcK := cellD (b := b) (c := c) (Γ := Γ) hsz (show j < n by omega)
    refine TK.drawB mixed rfl 13 (DD b c n d :: Γ) (Γ) ?_
    refine m_bake (At.mk : At 0) ?_; refine m_bake (At.mk : At 1) ?_; refine m_bake (At.mk : At 2) ?_; refine m_bake (At.mk : At 3) ?_; refine m_bake (At.mk : At 4) ?_; refine m_bake (At.mk : At 5) ?_; refine m_bake (At.mk : At 6) ?_; refine m_bake (At.mk : At 7) ?_; refine m_bake (At.mk : At 8) ?_; refine m_bake (At.mk : At 9) ?_; refine m_bake (At.mk : At 10) ?_; refine m_bake (At.mk : At 11) ?_; refine m_bake (At.mk : At 12) ?_
    (apply TB.last; kernel_rfl; exact rfl)
    (apply TL.storeOwn 0 (i); exact rfl; exact rfl; exact rfl; exact rfl; exact tb rfl; exact rfl; exact (Nat.zero_add _).symm; exact (by omega))
    refine TL.back (by (focus ((repeat (first | assumption | exact Ent.refl _ | apply Ent.tail)); done))) ?_
    refine m_take (At.mk : At 14) ?_
    (apply TA.one 15; kernel_rfl; exact rfl)
    (apply TL.storeOwn 0 (j); exact rfl; exact rfl; exact rfl; exact rfl; exact tb rfl; exact rfl; exact (Nat.zero_add _).symm; exact (by omega))
    refine TL.back (by (focus ((repeat (first | assumption | exact Ent.refl _ | apply Ent.tail)); done))) ?_
    refine TA.done (by kernel_rfl) ?_
    refine TK.imp (Δ := DD b c n (swp d (i) (j)) :: Γ) (fun _ h => by show all (own _ _ _ _ (nums _ (swp d (i) (j)).toList) :: _) _; rw [← swpD]; exact h) ?_
    have hsz : (swp d (i) (j)).size = n := (size_swp _ _ _).trans hsz
    clear hcI hcK
    refine m_run ?_
    exact IH (m - 1) _ _ (by omega) ⟨i + 1, j - 1, _, by omega, by omega, by omega, hsz, hX, rfl, congrArg (Value.int .i64) (by rw [i64_in (by omega) (by omega)]; omega), congrArg (Value.int .i64) (by rw [i64_in (by omega) (by omega)]; omega), rfl⟩
  rw [Sort.reverseLoop, if_neg hij] at hX
  rw [hX]
  refine m_run ?_
  exact TK.over0 rfl rfl ⟨_, rfl, rfl, rfl⟩

set_option maxRecDepth 100000 in
set_option maxHeartbeats 4000000 in
theorem sift_t (b c n lo hi first : Nat) (d0 : Array Int) (Γ : List HP) (hsz0 : d0.size = n) (hlo : lo ≤ hi) (hf : first + hi ≤ n) (hn : n ≤ 1000000000) :
    FnV Try.prog 113 [.slice (some ⟨b, 0, none⟩) n c, .int .i64 (lo : Int), .int .i64 (hi : Int), .int .i64 (first : Int)] (DD b c n d0 :: Γ) fun v Γ' => v = .tuple #[] ∧ Γ' = DD b c n (siftDown ltInt hi first lo d0) :: Γ := by
  refine Fn.enter Try.func113 rfl rfl rfl fun E => ?_
  generalize hX : siftDown ltInt hi first lo d0 = X
  refine m_run ?_
  apply TK.iter (fun m ρ' Γ' => ∃ (root : Nat) (d : Array Int), hi - root ≤ m ∧ root ≤ hi ∧ d.size = n ∧ siftDown ltInt hi first root d = X ∧ lk ρ' 0 = .slice (some ⟨b, 0, none⟩) n c ∧ lk ρ' 2 = .int .i64 (hi : Int) ∧ lk ρ' 3 = .int .i64 (first : Int) ∧ lk ρ' 8 = .int .i64 (root : Int) ∧ Γ' = DD b c n d :: Γ) hi
  · exact ⟨lo, d0, by omega, hlo, hsz0, hX, rfl, rfl, rfl, rfl, rfl⟩
  rintro m IH ρ' _ ⟨root, d, hm, hrt, hsz, hX, e0, e2, e3, e8, rfl⟩
  refine TK.know4 e0 e2 e3 e8 ?_
  rw [Sort.siftDown] at hX
  by_cases hch : 2 * root + 1 ≥ hi
  · rw [dif_pos hch] at hX
    rw [hX]
    have hw : IntKind.i64.wrap (IntKind.i64.wrap (2 * (root : Int)) + 1) = ((2 * root + 1 : Nat) : Int) := by rw [i64_in (x := 2 * (root : Int)) (by omega) (by omega), i64_in (by omega) (by omega)]; omega
    refine m_run ?_
    refine TK.know (t := 16) (v := .bool true) (congrArg Value.bool (by rw [hw]; exact decide_eq_true (by omega))) ?_
    refine m_run ?_
    exact TK.over0 rfl rfl ⟨_, rfl, rfl, rfl⟩
  · rw [dif_neg hch] at hX
    have hw : IntKind.i64.wrap (IntKind.i64.wrap (2 * (root : Int)) + 1) = ((2 * root + 1 : Nat) : Int) := by rw [i64_in (x := 2 * (root : Int)) (by omega) (by omega), i64_in (by omega) (by omega)]; omega
    refine m_run ?_
    refine TK.know (t := 16) (v := .bool false) (congrArg Value.bool (by rw [hw]; exact decide_eq_false (by omega))) ?_
    refine TK.know (t := 9) (v := .int .i64 ((2 * root + 1 : Nat) : Int)) (congrArg (Value.int .i64) hw) ?_
    refine m_run ?_
    by_cases hr : 2 * root + 1 + 1 < hi
    · have hc1 := cellD (b := b) (c := c) (Γ := Γ) hsz (show first + (2 * root + 1) < n by omega)
      have hc2 := cellD (b := b) (c := c) (Γ := Γ) hsz (show first + (2 * root + 1) + 1 < n by omega)
      refine TK.drawS mixed rfl ?_
      refine m_take (At.mk : At 0) ?_; refine m_take (At.mk : At 1) ?_
      refine TA.know (t := 18) (v := .int .i64 ((2 * root + 1 + 1 : Nat) : Int)) (congrArg (Value.int .i64) (by rw [i64_in (by omega) (by omega)]; omega)) ?_
      refine m_take (At.mk : At 2) ?_; refine m_take (At.mk : At 3) ?_
      refine TA.isT 20 rfl (decide_eq_true (by omega)) ?_
      refine m_take (At.mk : At 4) ?_; refine m_take (At.mk : At 5) ?_; refine m_take (At.mk : At 6) ?_; refine m_take (At.mk : At 7) ?_; refine m_take (At.mk : At 8) ?_
      refine TA.know (t := 25) (v := .int .i64 ((first + (2 * root + 1) : Nat) : Int)) (congrArg (Value.int .i64) (by rw [i64_in (by omega) (by omega)]; omega)) ?_
      refine m_take (At.mk : At 9) ?_; refine m_take (At.mk : At 10) ?_; refine m_take (At.mk : At 11) ?_; refine m_take (At.mk : At 12) ?_; refine m_take (At.mk : At 13) ?_; refine m_take (At.mk : At 14) ?_
      refine TA.know (t := 31) (v := .int .i64 ((first + (2 * root + 1) : Nat) : Int)) (congrArg (Value.int .i64) (by rw [i64_in (by omega) (by omega)]; omega)) ?_
      refine m_take (At.mk : At 15) ?_
      refine TA.know (t := 32) (v := .int .i64 ((first + (2 * root + 1) + 1 : Nat) : Int)) (congrArg (Value.int .i64) (by rw [i64_in (by omega) (by omega)]; omega)) ?_
      refine m_take (At.mk : At 16) ?_; refine m_take (At.mk : At 17) ?_
      (apply TA.one 18; kernel_rfl; exact rfl)
      refine m_rrun ?_
      (apply TL.callV; exact rfl; exact callB_of (by kernel_rfl); exact rfl; exact fun _ h => h)
      exact less_t _ _ _
      rintro _ _ ⟨rfl, rfl⟩
      refine TL.back (by (focus ((repeat (first | assumption | exact Ent.refl _ | apply Ent.tail)); done))) ?_
      refine m_take (At.mk : At 19) ?_
      by_cases h1 : d[first + (2 * root + 1)]! < d[first + (2 * root + 1) + 1]!
      · rw [if_pos (by simp [ltInt, h1]; omega)] at hX
        refine TA.isT 36 rfl (decide_eq_true h1) ?_
        refine TA.done (by kernel_rfl) ?_
        clear hc1 hc2
        refine m_run ?_
        refine TK.know (t := 9) (v := .int .i64 ((2 * root + 2 : Nat) : Int)) (congrArg (Value.int .i64) (by rw [i64_in (by omega) (by omega)]; omega)) ?_
        have hc3 := cellD (b := b) (c := c) (Γ := Γ) hsz (show first + root < n by omega)
        have hc4 := cellD (b := b) (c := c) (Γ := Γ) hsz (show first + (2 * root + 2) < n by omega)
        refine m_run ?_
        refine TK.drawS mixed rfl ?_
        refine m_take (At.mk : At 0) ?_; refine m_take (At.mk : At 1) ?_; refine m_take (At.mk : At 2) ?_; refine m_take (At.mk : At 3) ?_
        refine TA.know (t := 42) (v := .int .i64 ((first + root : Nat) : Int)) (congrArg (Value.int .i64) (by rw [i64_in (by omega) (by omega)]; omega)) ?_
        refine m_take (At.mk : At 4) ?_; refine m_take (At.mk : At 5) ?_; refine m_take (At.mk : At 6) ?_; refine m_take (At.mk : At 7) ?_; refine m_take (At.mk : At 8) ?_; refine m_take (At.mk : At 9) ?_
        refine TA.know (t := 48) (v := .int .i64 ((first + (2 * root + 2) : Nat) : Int)) (congrArg (Value.int .i64) (by rw [i64_in (by omega) (by omega)]; omega)) ?_
        refine m_take (At.mk : At 10) ?_; refine m_take (At.mk : At 11) ?_
        (apply TA.one 12; kernel_rfl; exact rfl)
        (apply TL.callV; exact rfl; exact callB_of (by kernel_rfl); exact rfl; exact fun _ h => h)
        exact less_t _ _ _
        rintro _ _ ⟨rfl, rfl⟩
        refine TL.back (by (focus ((repeat (first | assumption | exact Ent.refl _ | apply Ent.tail)); done))) ?_
        refine m_take (At.mk : At 13) ?_
        by_cases h2 : d[first + root]! < d[first + (2 * root + 2)]!
        · refine TA.isF 52 rfl (not_f (decide_eq_true h2)) ?_
          refine TA.done (by kernel_rfl) ?_
          rw [if_neg (by simp [ltInt, h2])] at hX
          rw [dif_pos (by omega)] at hX
          clear hc3 hc4
          refine m_run ?_
          have hcI := cellD (b := b) (c := c) (Γ := Γ) hsz (show first + root < n by omega)
          have hcK := cellD (b := b) (c := c) (Γ := Γ) hsz (show first + (2 * root + 2) < n by omega)
          refine TK.drawB mixed rfl 21 (DD b c n d :: Γ) (Γ) ?_
          refine m_bake (At.mk : At 0) ?_; refine m_bake (At.mk : At 1) ?_; refine m_bake (At.mk : At 2) ?_; refine m_bake (At.mk : At 3) ?_
          refine TB.know (t := 56) (v := .int .i64 ((first + root : Nat) : Int)) (congrArg (Value.int .i64) (by rw [i64_in (by omega) (by omega)]; omega)) ?_
          refine m_bake (At.mk : At 4) ?_; refine m_bake (At.mk : At 5) ?_; refine m_bake (At.mk : At 6) ?_; refine m_bake (At.mk : At 7) ?_
          refine TB.know (t := 60) (v := .int .i64 ((first + (2 * root + 2) : Nat) : Int)) (congrArg (Value.int .i64) (by rw [i64_in (by omega) (by omega)]; omega)) ?_
          refine m_bake (At.mk : At 8) ?_; refine m_bake (At.mk : At 9) ?_; refine m_bake (At.mk : At 10) ?_; refine m_bake (At.mk : At 11) ?_
          refine TB.know (t := 64) (v := .int .i64 ((first + (2 * root + 2) : Nat) : Int)) (congrArg (Value.int .i64) (by rw [i64_in (by omega) (by omega)]; omega)) ?_
          refine m_bake (At.mk : At 12) ?_; refine m_bake (At.mk : At 13) ?_; refine m_bake (At.mk : At 14) ?_; refine m_bake (At.mk : At 15) ?_; refine m_bake (At.mk : At 16) ?_; refine m_bake (At.mk : At 17) ?_
          refine TB.know (t := 70) (v := .int .i64 ((first + root : Nat) : Int)) (congrArg (Value.int .i64) (by rw [i64_in (by omega) (by omega)]; omega)) ?_
          refine m_bake (At.mk : At 18) ?_; refine m_bake (At.mk : At 19) ?_; refine m_bake (At.mk : At 20) ?_
          (apply TB.last; kernel_rfl; exact rfl)
          (apply TL.storeOwn 0 (first + root); exact rfl; exact rfl; exact rfl; exact rfl; exact tb rfl; exact rfl; exact (Nat.zero_add _).symm; exact (by omega))
          refine TL.back (by (focus ((repeat (first | assumption | exact Ent.refl _ | apply Ent.tail)); done))) ?_
          refine m_take (At.mk : At 22) ?_
          (apply TA.one 23; kernel_rfl; exact rfl)
          (apply TL.storeOwn 0 (first + (2 * root + 2)); exact rfl; exact rfl; exact rfl; exact rfl; exact tb rfl; exact rfl; exact (Nat.zero_add _).symm; exact (by omega))
          refine TL.back (by (focus ((repeat (first | assumption | exact Ent.refl _ | apply Ent.tail)); done))) ?_
          refine TA.done (by kernel_rfl) ?_
          refine TK.imp (Δ := DD b c n (swp d (first + root) (first + (2 * root + 2))) :: Γ) (fun _ h => by show all (own _ _ _ _ (nums _ (swp d (first + root) (first + (2 * root + 2))).toList) :: _) _; rw [← swpD]; exact h) ?_
          have hsz : (swp d (first + root) (first + (2 * root + 2))).size = n := (size_swp _ _ _).trans hsz
          clear hcI hcK
          refine m_run ?_
          exact IH (m - 1) _ _ (by omega) ⟨2 * root + 2, _, by omega, by omega, hsz, hX, rfl, rfl, rfl, rfl, rfl⟩
        · refine TA.isT 52 rfl (not_t (decide_eq_false h2)) ?_
          refine TA.done (by kernel_rfl) ?_
          rw [if_pos (by simp [ltInt, h2])] at hX
          rw [hX]
          refine m_run ?_
          (apply TK.ret0; exact rfl; exact rfl)
          exact ⟨_, rfl, rfl, rfl⟩
      · rw [if_neg (by simp [ltInt, h1])] at hX
        refine TA.isF 36 rfl (decide_eq_false h1) ?_
        refine TA.done (by kernel_rfl) ?_
        clear hc1 hc2
        have hc3 := cellD (b := b) (c := c) (Γ := Γ) hsz (show first + root < n by omega)
        have hc4 := cellD (b := b) (c := c) (Γ := Γ) hsz (show first + (2 * root + 1) < n by omega)
        refine m_run ?_
        refine TK.drawS mixed rfl ?_
        refine m_take (At.mk : At 0) ?_; refine m_take (At.mk : At 1) ?_; refine m_take (At.mk : At 2) ?_; refine m_take (At.mk : At 3) ?_
        refine TA.know (t := 42) (v := .int .i64 ((first + root : Nat) : Int)) (congrArg (Value.int .i64) (by rw [i64_in (by omega) (by omega)]; omega)) ?_
        refine m_take (At.mk : At 4) ?_; refine m_take (At.mk : At 5) ?_; refine m_take (At.mk : At 6) ?_; refine m_take (At.mk : At 7) ?_; refine m_take (At.mk : At 8) ?_; refine m_take (At.mk : At 9) ?_
        refine TA.know (t := 48) (v := .int .i64 ((first + (2 * root + 1) : Nat) : Int)) (congrArg (Value.int .i64) (by rw [i64_in (by omega) (by omega)]; omega)) ?_
        refine m_take (At.mk : At 10) ?_; refine m_take (At.mk : At 11) ?_
        (apply TA.one 12; kernel_rfl; exact rfl)
        (apply TL.callV; exact rfl; exact callB_of (by kernel_rfl); exact rfl; exact fun _ h => h)
        exact less_t _ _ _
        rintro _ _ ⟨rfl, rfl⟩
        refine TL.back (by (focus ((repeat (first | assumption | exact Ent.refl _ | apply Ent.tail)); done))) ?_
        refine m_take (At.mk : At 13) ?_
        by_cases h2 : d[first + root]! < d[first + (2 * root + 1)]!
        · refine TA.isF 52 rfl (not_f (decide_eq_true h2)) ?_
          refine TA.done (by kernel_rfl) ?_
          rw [if_neg (by simp [ltInt, h2])] at hX
          skip
          clear hc3 hc4
          refine m_run ?_
          have hcI := cellD (b := b) (c := c) (Γ := Γ) hsz (show first + root < n by omega)
          have hcK := cellD (b := b) (c := c) (Γ := Γ) hsz (show first + (2 * root + 1) < n by omega)
          refine TK.drawB mixed rfl 21 (DD b c n d :: Γ) (Γ) ?_
          refine m_bake (At.mk : At 0) ?_; refine m_bake (At.mk : At 1) ?_; refine m_bake (At.mk : At 2) ?_; refine m_bake (At.mk : At 3) ?_
          refine TB.know (t := 56) (v := .int .i64 ((first + root : Nat) : Int)) (congrArg (Value.int .i64) (by rw [i64_in (by omega) (by omega)]; omega)) ?_
          refine m_bake (At.mk : At 4) ?_; refine m_bake (At.mk : At 5) ?_; refine m_bake (At.mk : At 6) ?_; refine m_bake (At.mk : At 7) ?_
          refine TB.know (t := 60) (v := .int .i64 ((first + (2 * root + 1) : Nat) : Int)) (congrArg (Value.int .i64) (by rw [i64_in (by omega) (by omega)]; omega)) ?_
          refine m_bake (At.mk : At 8) ?_; refine m_bake (At.mk : At 9) ?_; refine m_bake (At.mk : At 10) ?_; refine m_bake (At.mk : At 11) ?_
          refine TB.know (t := 64) (v := .int .i64 ((first + (2 * root + 1) : Nat) : Int)) (congrArg (Value.int .i64) (by rw [i64_in (by omega) (by omega)]; omega)) ?_
          refine m_bake (At.mk : At 12) ?_; refine m_bake (At.mk : At 13) ?_; refine m_bake (At.mk : At 14) ?_; refine m_bake (At.mk : At 15) ?_; refine m_bake (At.mk : At 16) ?_; refine m_bake (At.mk : At 17) ?_
          refine TB.know (t := 70) (v := .int .i64 ((first + root : Nat) : Int)) (congrArg (Value.int .i64) (by rw [i64_in (by omega) (by omega)]; omega)) ?_
          refine m_bake (At.mk : At 18) ?_; refine m_bake (At.mk : At 19) ?_; refine m_bake (At.mk : At 20) ?_
          (apply TB.last; kernel_rfl; exact rfl)
          (apply TL.storeOwn 0 (first + root); exact rfl; exact rfl; exact rfl; exact rfl; exact tb rfl; exact rfl; exact (Nat.zero_add _).symm; exact (by omega))
          refine TL.back (by (focus ((repeat (first | assumption | exact Ent.refl _ | apply Ent.tail)); done))) ?_
          refine m_take (At.mk : At 22) ?_
          (apply TA.one 23; kernel_rfl; exact rfl)
          (apply TL.storeOwn 0 (first + (2 * root + 1)); exact rfl; exact rfl; exact rfl; exact rfl; exact tb rfl; exact rfl; exact (Nat.zero_add _).symm; exact (by omega))
          refine TL.back (by (focus ((repeat (first | assumption | exact Ent.refl _ | apply Ent.tail)); done))) ?_
          refine TA.done (by kernel_rfl) ?_
          refine TK.imp (Δ := DD b c n (swp d (first + root) (first + (2 * root + 1))) :: Γ) (fun _ h => by show all (own _ _ _ _ (nums _ (swp d (first + root) (first + (2 * root + 1))).toList) :: _) _; rw [← swpD]; exact h) ?_
          have hsz : (swp d (first + root) (first + (2 * root + 1))).size = n := (size_swp _ _ _).trans hsz
          clear hcI hcK
          refine m_run ?_
          exact IH (m - 1) _ _ (by omega) ⟨2 * root + 1, _, by omega, by omega, hsz, hX, rfl, rfl, rfl, rfl, rfl⟩
        · refine TA.isT 52 rfl (not_t (decide_eq_false h2)) ?_
          refine TA.done (by kernel_rfl) ?_
          rw [if_pos (by simp [ltInt, h2])] at hX
          rw [hX]
          refine m_run ?_
          (apply TK.ret0; exact rfl; exact rfl)
          exact ⟨_, rfl, rfl, rfl⟩
    · rw [if_neg (by simp; omega)] at hX
      refine TK.drawS mixed rfl ?_
      refine m_take (At.mk : At 0) ?_; refine m_take (At.mk : At 1) ?_
      refine TA.know (t := 18) (v := .int .i64 ((2 * root + 1 + 1 : Nat) : Int)) (congrArg (Value.int .i64) (by rw [i64_in (by omega) (by omega)]; omega)) ?_
      refine m_take (At.mk : At 2) ?_; refine m_take (At.mk : At 3) ?_
      refine TA.isF 20 rfl (decide_eq_false (by omega)) ?_
      refine m_take (At.mk : At 4) ?_; refine m_take (At.mk : At 5) ?_; refine m_take (At.mk : At 6) ?_; refine m_take (At.mk : At 7) ?_; refine m_take (At.mk : At 8) ?_; refine m_take (At.mk : At 9) ?_; refine m_take (At.mk : At 10) ?_; refine m_take (At.mk : At 11) ?_; refine m_take (At.mk : At 12) ?_; refine m_take (At.mk : At 13) ?_; refine m_take (At.mk : At 14) ?_; refine m_take (At.mk : At 15) ?_; refine m_take (At.mk : At 16) ?_; refine m_take (At.mk : At 17) ?_; refine m_take (At.mk : At 18) ?_; refine m_take (At.mk : At 19) ?_
      refine TA.done (by kernel_rfl) ?_
      have hc3 := cellD (b := b) (c := c) (Γ := Γ) hsz (show first + root < n by omega)
      have hc4 := cellD (b := b) (c := c) (Γ := Γ) hsz (show first + (2 * root + 1) < n by omega)
      refine m_run ?_
      refine TK.drawS mixed rfl ?_
      refine m_take (At.mk : At 0) ?_; refine m_take (At.mk : At 1) ?_; refine m_take (At.mk : At 2) ?_; refine m_take (At.mk : At 3) ?_
      refine TA.know (t := 42) (v := .int .i64 ((first + root : Nat) : Int)) (congrArg (Value.int .i64) (by rw [i64_in (by omega) (by omega)]; omega)) ?_
      refine m_take (At.mk : At 4) ?_; refine m_take (At.mk : At 5) ?_; refine m_take (At.mk : At 6) ?_; refine m_take (At.mk : At 7) ?_; refine m_take (At.mk : At 8) ?_; refine m_take (At.mk : At 9) ?_
      refine TA.know (t := 48) (v := .int .i64 ((first + (2 * root + 1) : Nat) : Int)) (congrArg (Value.int .i64) (by rw [i64_in (by omega) (by omega)]; omega)) ?_
      refine m_take (At.mk : At 10) ?_; refine m_take (At.mk : At 11) ?_
      (apply TA.one 12; kernel_rfl; exact rfl)
      (apply TL.callV; exact rfl; exact callB_of (by kernel_rfl); exact rfl; exact fun _ h => h)
      exact less_t _ _ _
      rintro _ _ ⟨rfl, rfl⟩
      refine TL.back (by (focus ((repeat (first | assumption | exact Ent.refl _ | apply Ent.tail)); done))) ?_
      refine m_take (At.mk : At 13) ?_
      by_cases h2 : d[first + root]! < d[first + (2 * root + 1)]!
      · refine TA.isF 52 rfl (not_f (decide_eq_true h2)) ?_
        refine TA.done (by kernel_rfl) ?_
        rw [if_neg (by simp [ltInt, h2])] at hX
        skip
        clear hc3 hc4
        refine m_run ?_
        have hcI := cellD (b := b) (c := c) (Γ := Γ) hsz (show first + root < n by omega)
        have hcK := cellD (b := b) (c := c) (Γ := Γ) hsz (show first + (2 * root + 1) < n by omega)
        refine TK.drawB mixed rfl 21 (DD b c n d :: Γ) (Γ) ?_
        refine m_bake (At.mk : At 0) ?_; refine m_bake (At.mk : At 1) ?_; refine m_bake (At.mk : At 2) ?_; refine m_bake (At.mk : At 3) ?_
        refine TB.know (t := 56) (v := .int .i64 ((first + root : Nat) : Int)) (congrArg (Value.int .i64) (by rw [i64_in (by omega) (by omega)]; omega)) ?_
        refine m_bake (At.mk : At 4) ?_; refine m_bake (At.mk : At 5) ?_; refine m_bake (At.mk : At 6) ?_; refine m_bake (At.mk : At 7) ?_
        refine TB.know (t := 60) (v := .int .i64 ((first + (2 * root + 1) : Nat) : Int)) (congrArg (Value.int .i64) (by rw [i64_in (by omega) (by omega)]; omega)) ?_
        refine m_bake (At.mk : At 8) ?_; refine m_bake (At.mk : At 9) ?_; refine m_bake (At.mk : At 10) ?_; refine m_bake (At.mk : At 11) ?_
        refine TB.know (t := 64) (v := .int .i64 ((first + (2 * root + 1) : Nat) : Int)) (congrArg (Value.int .i64) (by rw [i64_in (by omega) (by omega)]; omega)) ?_
        refine m_bake (At.mk : At 12) ?_; refine m_bake (At.mk : At 13) ?_; refine m_bake (At.mk : At 14) ?_; refine m_bake (At.mk : At 15) ?_; refine m_bake (At.mk : At 16) ?_; refine m_bake (At.mk : At 17) ?_
        refine TB.know (t := 70) (v := .int .i64 ((first + root : Nat) : Int)) (congrArg (Value.int .i64) (by rw [i64_in (by omega) (by omega)]; omega)) ?_
        refine m_bake (At.mk : At 18) ?_; refine m_bake (At.mk : At 19) ?_; refine m_bake (At.mk : At 20) ?_
        (apply TB.last; kernel_rfl; exact rfl)
        (apply TL.storeOwn 0 (first + root); exact rfl; exact rfl; exact rfl; exact rfl; exact tb rfl; exact rfl; exact (Nat.zero_add _).symm; exact (by omega))
        refine TL.back (by (focus ((repeat (first | assumption | exact Ent.refl _ | apply Ent.tail)); done))) ?_
        refine m_take (At.mk : At 22) ?_
        (apply TA.one 23; kernel_rfl; exact rfl)
        (apply TL.storeOwn 0 (first + (2 * root + 1)); exact rfl; exact rfl; exact rfl; exact rfl; exact tb rfl; exact rfl; exact (Nat.zero_add _).symm; exact (by omega))
        refine TL.back (by (focus ((repeat (first | assumption | exact Ent.refl _ | apply Ent.tail)); done))) ?_
        refine TA.done (by kernel_rfl) ?_
        refine TK.imp (Δ := DD b c n (swp d (first + root) (first + (2 * root + 1))) :: Γ) (fun _ h => by show all (own _ _ _ _ (nums _ (swp d (first + root) (first + (2 * root + 1))).toList) :: _) _; rw [← swpD]; exact h) ?_
        have hsz : (swp d (first + root) (first + (2 * root + 1))).size = n := (size_swp _ _ _).trans hsz
        clear hcI hcK
        refine m_run ?_
        exact IH (m - 1) _ _ (by omega) ⟨2 * root + 1, _, by omega, by omega, hsz, hX, rfl, rfl, rfl, rfl, rfl⟩
      · refine TA.isT 52 rfl (not_t (decide_eq_false h2)) ?_
        refine TA.done (by kernel_rfl) ?_
        rw [if_pos (by simp [ltInt, h2])] at hX
        rw [hX]
        refine m_run ?_
        (apply TK.ret0; exact rfl; exact rfl)
        exact ⟨_, rfl, rfl, rfl⟩

theorem sift_size (hi first root : Nat) (d : Array Int) (h : first + hi ≤ d.size) : (siftDown ltInt hi first root d).size = d.size := by
  have key : ∀ (N root : Nat) (d : Array Int), hi - root ≤ N → (siftDown ltInt hi first root d).size = d.size := by
    intro N
    induction N with
    | zero => intro root d hN; rw [Sort.siftDown, dif_pos (by omega)]
    | succ N ih =>
      intro root d hN
      rw [Sort.siftDown]
      split
      · rfl
      · split
        · split
          · rfl
          · split
            · rw [ih _ _ (by omega), size_swp]
            · rfl
        · split
          · rfl
          · rw [ih _ _ (by omega), size_swp]
  exact key _ root d (Nat.le_refl _)
set_option maxRecDepth 100000 in
set_option maxHeartbeats 4000000 in
theorem heap_t (b c n a e : Nat) (d0 : Array Int) (Γ : List HP) (hsz0 : d0.size = n) (hae : a < e) (he : e ≤ n) (hn : n ≤ 1000000000) :
    FnV Try.prog 86 [.slice (some ⟨b, 0, none⟩) n c, .int .i64 (a : Int), .int .i64 (e : Int)] (DD b c n d0 :: Γ) fun v Γ' => v = .tuple #[] ∧ Γ' = DD b c n (heapSort ltInt d0 a e) :: Γ := by
  refine Fn.enter Try.func86 rfl rfl rfl fun E => ?_
  unfold heapSort
  generalize hB : heapBuild ltInt (e - a) a ((e - a - 1) / 2 + 1) d0 = B
  generalize hX : heapPop ltInt a (e - a) B = X
  have hq : IntKind.i64.wrap ((IntKind.i64.wrap (((e - a : Nat) : Int) - 1)).tdiv 2) = (((e - a - 1) / 2 : Nat) : Int) := by
    rw [i64_in (x := ((e - a : Nat) : Int) - 1) (by omega) (by omega), show ((e - a : Nat) : Int) - 1 = ((e - a - 1 : Nat) : Int) by omega, show ((e - a - 1 : Nat) : Int).tdiv 2 = (((e - a - 1) / 2 : Nat) : Int) from rfl, i64_in (by omega) (by omega)]
  refine m_run ?_
  refine TK.know (t := 8) (v := .int .i64 ((e - a : Nat) : Int)) (congrArg (Value.int .i64) (by rw [i64_in (by omega) (by omega)]; omega)) ?_
  refine m_run ?_
  apply TK.iter (fun m ρ' Γ' => ∃ (d : Array Int), m ≤ (e - a - 1) / 2 + 1 ∧ d.size = n ∧ heapBuild ltInt (e - a) a m d = B ∧ lk ρ' 0 = .slice (some ⟨b, 0, none⟩) n c ∧ lk ρ' 6 = .int .i64 (a : Int) ∧ lk ρ' 7 = .int .i64 0 ∧ lk ρ' 8 = .int .i64 ((e - a : Nat) : Int) ∧ lk ρ' 9 = .int .i64 ((m : Int) - 1) ∧ Γ' = DD b c n d :: Γ) ((e - a - 1) / 2 + 1)
  · exact ⟨d0, Nat.le_refl _, hsz0, hB, rfl, rfl, rfl, rfl, congrArg (Value.int .i64) (by
      rw [show IntKind.i64.wrap ((e : Int) - (a : Int)) = ((e - a : Nat) : Int) by rw [i64_in (by omega) (by omega)]; omega, hq]; omega), rfl⟩
  clear hB
  rintro m IH ρ' _ ⟨d, hm, hsz, hB, e0, e6, e7, e8, e9, rfl⟩
  refine TK.know5 e0 e6 e7 e8 e9 ?_
  cases m with
  | succ m =>
    rw [Sort.heapBuild] at hB
    refine TK.know (t := 9) (v := .int .i64 (m : Int)) (congrArg (Value.int .i64) (by omega)) ?_
    refine m_run ?_
    (apply TL.callV; exact rfl; exact callB_of (by kernel_rfl); exact rfl; exact fun _ h => h)
    exact sift_t b c n m (e - a) a d Γ hsz (by omega) (by omega) hn
    rintro _ _ ⟨rfl, rfl⟩
    have hsz : (siftDown ltInt (e - a) a m d).size = n := (sift_size _ _ _ _ (by omega)).trans hsz
    refine m_run ?_
    exact IH m _ _ (by omega) ⟨_, by omega, hsz, hB, rfl, rfl, rfl, rfl, congrArg (Value.int .i64) (by rw [i64_in (by omega) (by omega)]), rfl⟩
  | zero =>
    rw [Sort.heapBuild] at hB
    rw [hB]
    refine TK.know (t := 9) (v := .int .i64 (-1)) (congrArg (Value.int .i64) (by omega)) ?_
    have hszB : B.size = n := hB ▸ hsz
    clear IH hB hsz
    refine m_run ?_
    apply TK.iter (fun m ρ' Γ' => ∃ (d : Array Int), m ≤ e - a ∧ d.size = n ∧ heapPop ltInt a m d = X ∧ lk ρ' 0 = .slice (some ⟨b, 0, none⟩) n c ∧ lk ρ' 6 = .int .i64 (a : Int) ∧ lk ρ' 7 = .int .i64 0 ∧ lk ρ' 10 = .int .i64 ((m : Int) - 1) ∧ Γ' = DD b c n d :: Γ) (e - a)
    · exact ⟨B, Nat.le_refl _, hszB, hX, rfl, rfl, rfl, congrArg (Value.int .i64) (by rw [i64_in (by omega) (by omega)]), rfl⟩
    clear hX
    rintro m IH ρ' _ ⟨d, hm, hsz, hX, e0, e6, e7, e10, rfl⟩
    refine TK.know4 e0 e6 e7 e10 ?_
    cases m with
    | succ m =>
      rw [Sort.heapPop] at hX
      refine TK.know (t := 10) (v := .int .i64 (m : Int)) (congrArg (Value.int .i64) (by omega)) ?_
      refine m_run ?_
      have hcI := cellD (b := b) (c := c) (Γ := Γ) hsz (show a < n by omega)
      have hcK := cellD (b := b) (c := c) (Γ := Γ) hsz (show a + m < n by omega)
      refine TK.drawB mixed rfl 17 (DD b c n d :: Γ) (Γ) ?_
      refine m_bake (At.mk : At 0) ?_; refine m_bake (At.mk : At 1) ?_; refine m_bake (At.mk : At 2) ?_; refine m_bake (At.mk : At 3) ?_; refine m_bake (At.mk : At 4) ?_; refine m_bake (At.mk : At 5) ?_
      refine TB.know (t := 38) (v := .int .i64 ((a + m : Nat) : Int)) (congrArg (Value.int .i64) (by rw [i64_in (by omega) (by omega)]; omega)) ?_
      refine m_bake (At.mk : At 6) ?_; refine m_bake (At.mk : At 7) ?_; refine m_bake (At.mk : At 8) ?_; refine m_bake (At.mk : At 9) ?_
      refine TB.know (t := 42) (v := .int .i64 ((a + m : Nat) : Int)) (congrArg (Value.int .i64) (by rw [i64_in (by omega) (by omega)]; omega)) ?_
      refine m_bake (At.mk : At 10) ?_; refine m_bake (At.mk : At 11) ?_; refine m_bake (At.mk : At 12) ?_; refine m_bake (At.mk : At 13) ?_; refine m_bake (At.mk : At 14) ?_; refine m_bake (At.mk : At 15) ?_; refine m_bake (At.mk : At 16) ?_
      (apply TB.last; kernel_rfl; exact rfl)
      (apply TL.storeOwn 0 (a); exact rfl; exact rfl; exact rfl; exact rfl; exact tb rfl; exact rfl; exact (Nat.zero_add _).symm; exact (by omega))
      refine TL.back (by (focus ((repeat (first | assumption | exact Ent.refl _ | apply Ent.tail)); done))) ?_
      refine m_take (At.mk : At 18) ?_
      (apply TA.one 19; kernel_rfl; exact rfl)
      (apply TL.storeOwn 0 (a + m); exact rfl; exact rfl; exact rfl; exact rfl; exact tb rfl; exact rfl; exact (Nat.zero_add _).symm; exact (by omega))
      refine TL.back (by (focus ((repeat (first | assumption | exact Ent.refl _ | apply Ent.tail)); done))) ?_
      refine TA.done (by kernel_rfl) ?_
      refine TK.imp (Δ := DD b c n (swp d (a) (a + m)) :: Γ) (fun _ h => by show all (own _ _ _ _ (nums _ (swp d (a) (a + m)).toList) :: _) _; rw [← swpD]; exact h) ?_
      have hsz : (swp d (a) (a + m)).size = n := (size_swp _ _ _).trans hsz
      clear hcI hcK
      refine m_run ?_
      (apply TL.callV; exact rfl; exact callB_of (by kernel_rfl); exact rfl; exact fun _ h => h)
      exact sift_t b c n 0 m a _ Γ hsz (by omega) (by omega) hn
      rintro _ _ ⟨rfl, rfl⟩
      have hsz : (siftDown ltInt m a 0 (swp d a (a + m))).size = n := (sift_size _ _ _ _ (by omega)).trans hsz
      refine m_run ?_
      exact IH m _ _ (by omega) ⟨_, by omega, hsz, hX, rfl, rfl, rfl, congrArg (Value.int .i64) (by rw [i64_in (by omega) (by omega)]), rfl⟩
    | zero =>
      rw [Sort.heapPop] at hX
      rw [hX]
      refine TK.know (t := 10) (v := .int .i64 (-1)) (congrArg (Value.int .i64) (by omega)) ?_
      refine m_run ?_
      exact TK.over0 rfl rfl ⟨_, rfl, rfl, rfl⟩

set_option maxRecDepth 100000 in
set_option maxHeartbeats 4000000 in
theorem partEq_t (b c n a e p : Nat) (d0 : Array Int) (Γ : List HP) (hsz0 : d0.size = n) (hap : a ≤ p) (hpe : p < e) (he : e ≤ n) (hn : n ≤ 1000000000) :
    FnV Try.prog 92 [.slice (some ⟨b, 0, none⟩) n c, .int .i64 (a : Int), .int .i64 (e : Int), .int .i64 (p : Int)] (DD b c n d0 :: Γ) fun v Γ' => v = .int .i64 ((partitionEqual ltInt d0 a e p).1 : Int) ∧ Γ' = DD b c n (partitionEqual ltInt d0 a e p).2 :: Γ := by
  refine Fn.enter Try.func92 rfl rfl rfl fun E => ?_
  unfold partitionEqual
  generalize hX : partEqLoop ltInt a (a + 1) (e - 1) (swp d0 a p) = X
  have hsz := hsz0
  refine m_run ?_
  have hcI := cellD (b := b) (c := c) (Γ := Γ) hsz (show a < n by omega)
  have hcK := cellD (b := b) (c := c) (Γ := Γ) hsz (show p < n by omega)
  refine TK.drawB mixed rfl 13 (DD b c n d0 :: Γ) (Γ) ?_
  refine m_bake (At.mk : At 0) ?_; refine m_bake (At.mk : At 1) ?_; refine m_bake (At.mk : At 2) ?_; refine m_bake (At.mk : At 3) ?_; refine m_bake (At.mk : At 4) ?_; refine m_bake (At.mk : At 5) ?_; refine m_bake (At.mk : At 6) ?_; refine m_bake (At.mk : At 7) ?_; refine m_bake (At.mk : At 8) ?_; refine m_bake (At.mk : At 9) ?_; refine m_bake (At.mk : At 10) ?_; refine m_bake (At.mk : At 11) ?_; refine m_bake (At.mk : At 12) ?_
  (apply TB.last; kernel_rfl; exact rfl)
  (apply TL.storeOwn 0 (a); exact rfl; exact rfl; exact rfl; exact rfl; exact tb rfl; exact rfl; exact (Nat.zero_add _).symm; exact (by omega))
  refine TL.back (by (focus ((repeat (first | assumption | exact Ent.refl _ | apply Ent.tail)); done))) ?_
  refine m_take (At.mk : At 14) ?_
  (apply TA.one 15; kernel_rfl; exact rfl)
  (apply TL.storeOwn 0 (p); exact rfl; exact rfl; exact rfl; exact rfl; exact tb rfl; exact rfl; exact (Nat.zero_add _).symm; exact (by omega))
  refine TL.back (by (focus ((repeat (first | assumption | exact Ent.refl _ | apply Ent.tail)); done))) ?_
  refine TA.done (by kernel_rfl) ?_
  refine TK.imp (Δ := DD b c n (swp d0 (a) (p)) :: Γ) (fun _ h => by show all (own _ _ _ _ (nums _ (swp d0 (a) (p)).toList) :: _) _; rw [← swpD]; exact h) ?_
  have hsz : (swp d0 (a) (p)).size = n := (size_swp _ _ _).trans hsz
  clear hcI hcK
  refine m_run ?_
  apply TK.iter (fun m ρ' Γ' => ∃ (i j : Nat) (d : Array Int), j + 1 - i ≤ m ∧ a + 1 ≤ i ∧ i ≤ j + 1 ∧ j < n ∧ d.size = n ∧ partEqLoop ltInt a i j d = X ∧ lk ρ' 0 = .slice (some ⟨b, 0, none⟩) n c ∧ lk ρ' 1 = .int .i64 (a : Int) ∧ lk ρ' 9 = .int .i64 (i : Int) ∧ lk ρ' 10 = .int .i64 (j : Int) ∧ Γ' = DD b c n d :: Γ) n
  · exact ⟨a + 1, e - 1, _, by omega, by omega, by omega, by omega, hsz, hX, rfl, rfl, congrArg (Value.int .i64) (by rw [i64_in (by omega) (by omega)]; omega), congrArg (Value.int .i64) (by rw [i64_in (by omega) (by omega)]; omega), rfl⟩
  clear hX hsz
  rintro m IH ρ' _ ⟨i, j, d, hm, hi1, hij, hjn, hsz, hX, e0, e1, e9, e10, rfl⟩
  refine TK.know4 e0 e1 e9 e10 ?_
  rw [partEqLoop_eq] at hX
  (repeat (first | refine TK.seq ?_ | refine TK.skip ?_))
  refine TK.block ?_
  (repeat (first | refine TK.seq ?_ | refine TK.skip ?_))
  apply TK.cut (fun ρ' Γ' => lk ρ' 0 = .slice (some ⟨b, 0, none⟩) n c ∧ lk ρ' 1 = .int .i64 (a : Int) ∧ lk ρ' 9 = .int .i64 ((scanUp (fun x => !ltInt d[a]! x) d (j) (i) : Nat) : Int) ∧ lk ρ' 10 = .int .i64 (j : Int) ∧ Γ' = DD b c n d :: Γ)
  · intro k' hk'
    generalize hS : scanUp (fun x => !ltInt d[a]! x) d (j) (i) = I at hk'
    refine m_run ?_
    apply TK.iter (fun m ρ' Γ' => ∃ (x : Nat), (j) + 1 - x ≤ m ∧ (i) ≤ x ∧ x ≤ (j) + 1 ∧ scanUp (fun x => !ltInt d[a]! x) d (j) x = I ∧ lk ρ' 0 = .slice (some ⟨b, 0, none⟩) n c ∧ lk ρ' 1 = .int .i64 (a : Int) ∧ lk ρ' 9 = .int .i64 (x : Int) ∧ lk ρ' 10 = .int .i64 (j : Int) ∧ Γ' = DD b c n d :: Γ) ((j) + 1)
    · exact ⟨i, by omega, Nat.le_refl _, by omega, hS, rfl, rfl, rfl, rfl, rfl⟩
    clear hS
    rintro m IH ρ' _ ⟨x, hm, hx1, hx2, hS, e0, e1, ei, ej, rfl⟩
    refine TK.know4 e0 e1 ei ej ?_
    rw [Sort.scanUp] at hS
    by_cases hx : x ≤ j
    · have hc1 := cellD (b := b) (c := c) (Γ := Γ) hsz (show x < n by omega)
      have hc2 := cellD (b := b) (c := c) (Γ := Γ) hsz (show a < n by omega)
      refine m_run ?_
      refine TK.drawS mixed rfl ?_
      refine m_take (At.mk : At 0) ?_; refine m_take (At.mk : At 1) ?_; refine m_take (At.mk : At 2) ?_
      refine TA.isT 31 rfl (decide_eq_true (by omega)) ?_
      refine m_take (At.mk : At 3) ?_; refine m_take (At.mk : At 4) ?_; refine m_take (At.mk : At 5) ?_; refine m_take (At.mk : At 6) ?_; refine m_take (At.mk : At 7) ?_; refine m_take (At.mk : At 8) ?_; refine m_take (At.mk : At 9) ?_; refine m_take (At.mk : At 10) ?_; refine m_take (At.mk : At 11) ?_
      (apply TA.one 12; kernel_rfl; exact rfl)
      refine m_rrun ?_
      (apply TL.callV; exact rfl; exact callB_of (by kernel_rfl); exact rfl; exact fun _ h => h)
      exact less_t _ _ _
      rintro _ _ ⟨rfl, rfl⟩
      refine TL.back (by (focus ((repeat (first | assumption | exact Ent.refl _ | apply Ent.tail)); done))) ?_
      refine m_take (At.mk : At 13) ?_; refine m_take (At.mk : At 14) ?_
      by_cases h : d[a]! < d[x]!
      · rw [if_neg (by simp [ltInt, h])] at hS
        refine TA.isF 43 rfl (not_f (decide_eq_true h)) ?_
        refine TA.done (by kernel_rfl) ?_
        clear hc1 hc2
        refine m_run ?_
        exact hk' _ _ ⟨rfl, rfl, congrArg (fun z : Nat => Value.int .i64 (z : Int)) hS, rfl, rfl⟩
      · rw [if_pos (by simp [ltInt, h]; omega)] at hS
        refine TA.isT 43 rfl (not_t (decide_eq_false h)) ?_
        refine TA.done (by kernel_rfl) ?_
        clear hc1 hc2
        refine m_run ?_
        exact IH (m - 1) _ _ (by omega) ⟨x + 1, by omega, by omega, by omega, hS, rfl, rfl, congrArg (Value.int .i64) (i64_succ x (by omega)), rfl, rfl⟩
    · rw [if_neg (by simp; omega)] at hS
      refine m_run ?_
      refine TK.drawS mixed rfl ?_
      refine m_take (At.mk : At 0) ?_; refine m_take (At.mk : At 1) ?_; refine m_take (At.mk : At 2) ?_
      refine TA.isF 31 rfl (decide_eq_false (by omega)) ?_
      refine m_take (At.mk : At 3) ?_; refine m_take (At.mk : At 4) ?_; refine m_take (At.mk : At 5) ?_; refine m_take (At.mk : At 6) ?_; refine m_take (At.mk : At 7) ?_; refine m_take (At.mk : At 8) ?_; refine m_take (At.mk : At 9) ?_; refine m_take (At.mk : At 10) ?_; refine m_take (At.mk : At 11) ?_; refine m_take (At.mk : At 12) ?_; refine m_take (At.mk : At 13) ?_; refine m_take (At.mk : At 14) ?_
      refine TA.done (by kernel_rfl) ?_
      refine m_run ?_
      exact hk' _ _ ⟨rfl, rfl, congrArg (fun z : Nat => Value.int .i64 (z : Int)) hS, rfl, rfl⟩
  rintro ρ' _ ⟨e0, e1, ei, ej, rfl⟩
  refine TK.know4 e0 e1 ei ej ?_
  obtain ⟨hs1, hs2, _, hs4⟩ := scanUp_spec (fun x => !ltInt d[a]! x) d j _ i rfl
  have hs2 := hs2 hij
  generalize hI : scanUp (fun x => !ltInt d[a]! x) d j i = i2 at *
  (repeat (first | refine TK.seq ?_ | refine TK.skip ?_))
  apply TK.cut (fun ρ' Γ' => lk ρ' 0 = .slice (some ⟨b, 0, none⟩) n c ∧ lk ρ' 1 = .int .i64 (a : Int) ∧ lk ρ' 9 = .int .i64 (i2 : Int) ∧ lk ρ' 10 = .int .i64 ((scanDown (fun x => ltInt d[a]! x) d (i2) (j) : Nat) : Int) ∧ Γ' = DD b c n d :: Γ)
  · intro k' hk'
    generalize hS : scanDown (fun x => ltInt d[a]! x) d (i2) (j) = J at hk'
    refine m_run ?_
    apply TK.iter (fun m ρ' Γ' => m ≤ j ∧ (i2) ≤ m + 1 ∧ scanDown (fun x => ltInt d[a]! x) d (i2) m = J ∧ lk ρ' 0 = .slice (some ⟨b, 0, none⟩) n c ∧ lk ρ' 1 = .int .i64 (a : Int) ∧ lk ρ' 9 = .int .i64 (i2 : Int) ∧ lk ρ' 10 = .int .i64 (m : Int) ∧ Γ' = DD b c n d :: Γ) (j)
    · exact ⟨Nat.le_refl _, by omega, hS, rfl, rfl, rfl, rfl, rfl⟩
    clear hS
    rintro x IH ρ' _ ⟨hx1, hx2, hS, e0, e1, ei, ej, rfl⟩
    refine TK.know4 e0 e1 ei ej ?_
    by_cases hx : i2 ≤ x
    · obtain ⟨w, rfl⟩ : ∃ w, x = w + 1 := ⟨x - 1, by omega⟩
      rw [Sort.scanDown] at hS
      have hc1 := cellD (b := b) (c := c) (Γ := Γ) hsz (show w + 1 < n by omega)
      have hc2 := cellD (b := b) (c := c) (Γ := Γ) hsz (show a < n by omega)
      refine m_run ?_
      refine TK.drawS mixed rfl ?_
      refine m_take (At.mk : At 0) ?_; refine m_take (At.mk : At 1) ?_; refine m_take (At.mk : At 2) ?_
      refine TA.isT 48 rfl (decide_eq_true (by omega)) ?_
      refine m_take (At.mk : At 3) ?_; refine m_take (At.mk : At 4) ?_; refine m_take (At.mk : At 5) ?_; refine m_take (At.mk : At 6) ?_; refine m_take (At.mk : At 7) ?_; refine m_take (At.mk : At 8) ?_; refine m_take (At.mk : At 9) ?_; refine m_take (At.mk : At 10) ?_; refine m_take (At.mk : At 11) ?_
      (apply TA.one 12; kernel_rfl; exact rfl)
      refine m_rrun ?_
      (apply TL.callV; exact rfl; exact callB_of (by kernel_rfl); exact rfl; exact fun _ h => h)
      exact less_t _ _ _
      rintro _ _ ⟨rfl, rfl⟩
      refine TL.back (by (focus ((repeat (first | assumption | exact Ent.refl _ | apply Ent.tail)); done))) ?_
      refine m_take (At.mk : At 13) ?_
      by_cases h : d[a]! < d[w + 1]!
      · rw [if_pos (by simp [ltInt, h]; omega)] at hS
        refine TA.isT 59 rfl (decide_eq_true h) ?_
        refine TA.done (by kernel_rfl) ?_
        clear hc1 hc2
        refine m_run ?_
        exact IH w _ _ (by omega) ⟨by omega, by omega, hS, rfl, rfl, rfl, congrArg (Value.int .i64) (by rw [i64_in (by omega) (by omega)]; omega), rfl⟩
      · rw [if_neg (by simp [ltInt, h])] at hS
        refine TA.isF 59 rfl (decide_eq_false h) ?_
        refine TA.done (by kernel_rfl) ?_
        clear hc1 hc2
        refine m_run ?_
        exact hk' _ _ ⟨rfl, rfl, rfl, congrArg (fun z : Nat => Value.int .i64 (z : Int)) hS, rfl⟩
    · have hS : x = J := by
        rw [← hS]
        cases x with
        | zero => rw [Sort.scanDown]
        | succ w => rw [Sort.scanDown, if_neg (by simp; omega)]
      refine m_run ?_
      refine TK.drawS mixed rfl ?_
      refine m_take (At.mk : At 0) ?_; refine m_take (At.mk : At 1) ?_; refine m_take (At.mk : At 2) ?_
      refine TA.isF 48 rfl (decide_eq_false (by omega)) ?_
      refine m_take (At.mk : At 3) ?_; refine m_take (At.mk : At 4) ?_; refine m_take (At.mk : At 5) ?_; refine m_take (At.mk : At 6) ?_; refine m_take (At.mk : At 7) ?_; refine m_take (At.mk : At 8) ?_; refine m_take (At.mk : At 9) ?_; refine m_take (At.mk : At 10) ?_; refine m_take (At.mk : At 11) ?_; refine m_take (At.mk : At 12) ?_; refine m_take (At.mk : At 13) ?_
      refine TA.done (by kernel_rfl) ?_
      refine m_run ?_
      exact hk' _ _ ⟨rfl, rfl, rfl, congrArg (fun z : Nat => Value.int .i64 (z : Int)) hS, rfl⟩
  rintro ρ' _ ⟨e0, e1, ei, ej, rfl⟩
  refine TK.know4 e0 e1 ei ej ?_
  obtain ⟨ht1, ht2, _, ht4⟩ := scanDown_spec (fun x => ltInt d[a]! x) d i2 j
  have ht2 := ht2 hs2
  generalize hJ : scanDown (fun x => ltInt d[a]! x) d i2 j = j2 at *
  by_cases hgt : i2 > j2
  · rw [if_pos hgt] at hX
    rw [← hX]
    refine m_run ?_
    (apply TK.ret1; exact rfl; exact rfl; (exact m_val))
    exact ⟨_, rfl, rfl, rfl⟩
  · rw [if_neg hgt] at hX
    have hne : i2 ≠ j2 := fun e => by
      have h1 := hs4 (by omega)
      have h2 := ht4 (by omega) (by omega)
      rw [← e] at h2
      simp only [h2] at h1
      cases h1
    refine m_run ?_
    have hcI := cellD (b := b) (c := c) (Γ := Γ) hsz (show i2 < n by omega)
    have hcK := cellD (b := b) (c := c) (Γ := Γ) hsz (show j2 < n by omega)
    refine TK.drawB mixed rfl 13 (DD b c n d :: Γ) (Γ) ?_
    refine m_bake (At.mk : At 0) ?_; refine m_bake (At.mk : At 1) ?_; refine m_bake (At.mk : At 2) ?_; refine m_bake (At.mk : At 3) ?_; refine m_bake (At.mk : At 4) ?_; refine m_bake (At.mk : At 5) ?_; refine m_bake (At.mk : At 6) ?_; refine m_bake (At.mk : At 7) ?_; refine m_bake (At.mk : At 8) ?_; refine m_bake (At.mk : At 9) ?_; refine m_bake (At.mk : At 10) ?_; refine m_bake (At.mk : At 11) ?_; refine m_bake (At.mk : At 12) ?_
    (apply TB.last; kernel_rfl; exact rfl)
    (apply TL.storeOwn 0 (i2); exact rfl; exact rfl; exact rfl; exact rfl; exact tb rfl; exact rfl; exact (Nat.zero_add _).symm; exact (by omega))
    refine TL.back (by (focus ((repeat (first | assumption | exact Ent.refl _ | apply Ent.tail)); done))) ?_
    refine m_take (At.mk : At 14) ?_
    (apply TA.one 15; kernel_rfl; exact rfl)
    (apply TL.storeOwn 0 (j2); exact rfl; exact rfl; exact rfl; exact rfl; exact tb rfl; exact rfl; exact (Nat.zero_add _).symm; exact (by omega))
    refine TL.back (by (focus ((repeat (first | assumption | exact Ent.refl _ | apply Ent.tail)); done))) ?_
    refine TA.done (by kernel_rfl) ?_
    refine TK.imp (Δ := DD b c n (swp d (i2) (j2)) :: Γ) (fun _ h => by show all (own _ _ _ _ (nums _ (swp d (i2) (j2)).toList) :: _) _; rw [← swpD]; exact h) ?_
    have hsz : (swp d (i2) (j2)).size = n := (size_swp _ _ _).trans hsz
    clear hcI hcK
    refine m_run ?_
    exact IH (m - 1) _ _ (by omega) ⟨i2 + 1, j2 - 1, _, by omega, by omega, by omega, by omega, hsz, hX, rfl, rfl, congrArg (Value.int .i64) (by rw [i64_in (by omega) (by omega)]; omega), congrArg (Value.int .i64) (by rw [i64_in (by omega) (by omega)]; omega), rfl⟩
end Go.Proofs.Ythbcfamfaicneaa.E.SI
