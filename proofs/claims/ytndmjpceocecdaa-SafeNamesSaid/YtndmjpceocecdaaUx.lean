/- SafeNames, walked. -/
import Derived.Test.YtndmjpceocecdaaUw
namespace Go.Proofs.Ytndmjpceocecdaa.E
open Go Go.RowKit Go.Proofs
attribute [local irreducible] TK TL TQ TA TB Fn PV
/-- Memory to which pieces were added; what was handed in is still there. -/
def Bs (A F : Option Addr) (l : List Cl) (fs : List Fct) (Γ Γ2 : List HP) : Prop := Γ.Sublist Γ2 ∧ clsAt A l Γ2 ∧ has Γ2 (srcAt 2 F fs.length (fcsC fs))
theorem beh3 {H A B C : HP} {Γ : List HP} : (H :: A :: B :: C :: Γ).Perm (A :: B :: C :: H :: Γ) := (List.perm_middle (a := H) (l₁ := [A, B, C]) (l₂ := Γ)).symm
theorem bs_cons {A F : Option Addr} {l : List Cl} {fs : List Fct} {Γ Γ2 : List HP} {H : HP} (h : Bs A F l fs Γ Γ2) : Bs A F l fs Γ (H :: Γ2) := ⟨.cons _ h.1, clsAt_tl h.2.1, has_tls h.2.2⟩
theorem ren_few {mv y : Nat} {l l' : List Cl} (h : Renamed mv y l l') (hf : ∀ c ∈ l, c.few) : ∀ c ∈ l', c.few := by
  intro c' hc'
  obtain ⟨k, hk, hkc⟩ := List.mem_iff_getElem.1 hc'
  have hl := ren_len h
  have hc : l[k]? = some (l[k]'(by omega)) := List.getElem?_eq_getElem (by omega)
  have hp := ren_get h hc (by rw [List.getElem?_eq_getElem hk, hkc])
  obtain ⟨h1, h2, h3⟩ := hf _ (List.mem_of_getElem? hc)
  simp only [pureC, renD] at hp
  injection hp with hp1 hp2
  injection hp2 with hp2 hp3
  refine ⟨by have := congrArg List.length hp3; simp at this; omega, by have := congrArg List.length hp2; simp at this; omega, fun x hx => ?_⟩
  have hxm : pureL x ∈ c'.l.map pureL := List.mem_map.2 ⟨x, hx, rfl⟩
  rw [hp3] at hxm
  obtain ⟨z, hz, hzx⟩ := List.mem_map.1 hxm
  obtain ⟨w, hw, rfl⟩ := List.mem_map.1 hz
  have h4 := h3 w hw
  simp only [pureL, renL] at hzx
  injection hzx with _ hzx
  injection hzx with _ hzx
  have := congrArg List.length hzx
  simp at this
  omega
set_option maxRecDepth 100000 in
set_option maxHeartbeats 16000000 in
theorem safeNames_t (A F : Option Addr) (cc fc : Nat) (l : List Cl) (fs : List Fct) (mv y : Nat) (Γ : List HP) (h : clsAt A l Γ) (hf : has Γ (srcAt 2 F fs.length (fcsC fs))) (hy : y < 256) (hb : ∀ a ∈ atsL l, a.1 < 4294967296) (hfb : ∀ f ∈ fs, f.p < 4294967296) :
    FnV Try.prog 5 [.slice A l.length cc, .slice F fs.length fc, .int .u32 (mv : Int), .int .u8 (y : Int)] Γ fun v Γ' => v = .bool true ∧ Γ' = Γ := by
  refine Fn.enter Try.func5 rfl rfl rfl fun E => ?_
  refine TK.seq ?_
  refine TK.region ?_
  refine m_rrun ?_
  refine TL.nil ?_
  (repeat (first | refine TK.seq ?_ | refine TK.skip ?_))
  refine TK.cut (fun ρ' Γ' => ∃ b, (b = false → FewOk l fs ∧ l.length ≤ 40 ∧ fs.length ≤ 40) ∧ lk ρ' 36 = .bool b ∧ lk ρ' 0 = .slice A l.length cc ∧ lk ρ' 1 = .slice F fs.length fc ∧ lk ρ' 2 = .int .u32 (mv : Int) ∧ lk ρ' 3 = .int .u8 (y : Int) ∧ Γ' = Γ) ?_ ?_
  · intro k' hk'
    refine m_run ?_
    (apply TL.callV; exact rfl; exact callB_of (by kernel_rfl); exact rfl; exact fun _ h => h)
    exact few_t A F cc fc l fs _ h hf
    rintro _ Γ ⟨⟨B1, rfl, hB1⟩, rfl⟩
    cases B1 with
    | false =>
      refine m_run ?_
      exact hk' _ _ ⟨true, (fun h => by cases h), rfl, rfl, rfl, rfl, rfl, rfl⟩
    | true =>
      have g1 := hB1 rfl
      by_cases h40 : 40 < l.length
      · refine m_run ?_
        exact hk' _ _ ⟨true, (fun h => by cases h), rfl, rfl, rfl, rfl, rfl, rfl⟩
      · by_cases h41 : 40 < fs.length
        · refine m_run ?_
          exact hk' _ _ ⟨true, (fun h => by cases h), congrArg Value.bool (decide_eq_true (by omega)), rfl, rfl, rfl, rfl, rfl⟩
        · refine m_run ?_
          exact hk' _ _ ⟨false, (fun _ => ⟨g1, by omega, by omega⟩), congrArg Value.bool (decide_eq_false (by omega)), rfl, rfl, rfl, rfl, rfl⟩
  rintro ρ1 Γ ⟨b, hbb, f36, f0, f1, f2, f3, rfl⟩
  refine TK.know5 f36 f0 f1 f2 f3 ?_
  cases b with
  | true =>
    refine m_run ?_
    (apply TL.callV; exact rfl; exact callB_of (by kernel_rfl); exact rfl; exact fun _ h => h)
    exact works_t _
    rintro _ Γ ⟨rfl, rfl⟩
    refine m_run ?_
    (apply TK.ret1; exact rfl; exact rfl; (exact m_val))
    exact ⟨_, rfl, rfl, rfl⟩
  | false =>
  obtain ⟨hfl, hl40, hf40⟩ := hbb rfl
  have hfew := hfl.2.2.2.1
  refine TK.free (H := own 36 3 (.slice none 0 0) 0 []) (fun m hm => own_nil _ _ hm) ?_
  refine m_run ?_
  apply TK.iter (fun j ρ' Γ' => ∃ (i : Nat) (K : List Cl) (B : Option Addr) (k : Nat) (Γ2 : List HP), l.length = i + j ∧ Bs A F l fs Γ Γ2 ∧ Renamed mv y (l.take i) K ∧ (∀ c ∈ K, c.ok Γ2) ∧ i ≤ k ∧ lk ρ' 0 = .slice A l.length cc ∧ lk ρ' 1 = .slice F fs.length fc ∧ lk ρ' 2 = .int .u32 (mv : Int) ∧ lk ρ' 3 = .int .u8 (y : Int) ∧ lk ρ' 9 = .slice B i k ∧ lk ρ' 10 = .int .i64 (i : Int) ∧ Γ' = own 36 3 (.slice B i k) i (clsC K) :: Γ2) l.length
  · exact ⟨0, [], none, 0, Γ, by omega, ⟨.refl _, h, hf⟩, rfl, by simp, Nat.le_refl _, rfl, rfl, rfl, rfl, rfl, rfl, rfl⟩
  rintro j IH ρ' _ ⟨i, K, B, k, Γ2, hj, hB, hR, hK, hk, e0, e1, e2, e3, e9, e10, rfl⟩
  refine TK.know6 e0 e1 e2 e3 e9 e10 ?_
  by_cases hi : i < l.length
  · obtain ⟨⟨⟨hp, hA, hc, hl⟩, CA, Cc, CL⟩, hci⟩ : ∃ c, l[i]? = some c := ⟨l[i], List.getElem?_eq_getElem hi⟩
    have hcm := List.mem_of_getElem? hci
    have hcf := hfew _ hcm
    have hb30 : CL.length ≤ 30 := hcf.1
    have hh30 : hl.length ≤ 30 := hcf.2.1
    refine TK.mem fun m0 hm0 => ?_
    obtain ⟨b, o, rfl⟩ := src_some ((has_tls hB.2.1.1 : has (_ :: Γ2) _) m0 hm0) (by rw [clsC_len]; omega)
    clear hm0 m0
    have hel : has Γ2 (fun m => cellsAt m b (o + i * 3) [.int .u32 (hp : Int), .slice hA hl.length hc, .slice CA CL.length Cc]) := has_el (sz := 3) (f := Cl.cells) (fun _ => rfl) (by decide) hB.2.1.1 hci
    have hh : has Γ2 (fun m => cellsAt m b (o + i * 3) [.int .u32 (hp : Int), .slice hA hl.length hc]) := has_imp hel fun _ hm j v hv => hm j v (by
      match j, hv with
      | 0, hv => exact hv
      | 1, hv => exact hv)
    have hho := (hB.2.1.2 _ hcm).1
    refine m_run ?_
    (apply TL.callV; exact rfl; exact callB_of (by kernel_rfl); exact rfl; exact fun _ h => h)
    exact called_t ⟨hp, hA, hc, hl⟩ mv y _ (Atm.ok_tl hho) (Nat.le_trans hh30 (by decide)) hy
    rintro _ _ ⟨Bh, kh, hkh, rfl, rfl⟩
    generalize hHL : hl.map (renT y) = HL at *
    (apply TL.pv; exact rfl; (apply PV.build tabs; exact rfl; exact rfl; exact rfl; exact rfl; exact rfl; exact (rfl : _ = ([.int .u32 ((preN mv hp : Nat) : Int), .slice Bh HL.length kh, .slice none 0 0] : List Value))))
    (apply TL.alloc; exact rfl; exact tb rfl; exact (rfl : _ = [_, _, _]))
    intro b11
    refine m_run ?_
    refine TK.free (H := own 38 3 (.slice none 0 0) 0 []) (fun m hm => own_nil _ _ hm) ?_
    refine TK.perm (Δ := own 38 3 (.slice none 0 0) 0 [] :: row b11 [.int .u32 ((preN mv hp : Nat) : Int), .slice Bh HL.length kh, .slice none 0 0] 36 :: own 36 3 (.slice B i k) i (clsC K) :: ownTm Bh kh HL :: Γ2) (.cons _ (.cons _ (.swap _ _ _))) ?_
    have hho' : Atm.ok ⟨preN mv hp, Bh, kh, HL⟩ (ownTm Bh kh HL :: Γ2) := ⟨has_at (up_src _ _ _ _) 0 rfl fun _ h => own_src h, hkh⟩
    apply TK.iter (fun j ρ' Γ' => ∃ (q : Nat) (M : List Lt) (D : Option Addr) (kd : Nat) (Γ3 : List HP), CL.length = q + j ∧ Bs (some ⟨b, o, none⟩) F l fs Γ Γ3 ∧ (∀ x ∈ M, x.a.ok Γ3) ∧ Atm.ok ⟨preN mv hp, Bh, kh, HL⟩ Γ3 ∧ (∀ d ∈ K, d.ok Γ3) ∧ M.map pureL = (CL.take q).map (fun x => renL mv y (pureL x)) ∧ q ≤ kd ∧ lk ρ' 0 = .slice (some ⟨b, o, none⟩) l.length cc ∧ lk ρ' 1 = .slice F fs.length fc ∧ lk ρ' 2 = .int .u32 (mv : Int) ∧ lk ρ' 3 = .int .u8 (y : Int) ∧ lk ρ' 9 = .slice B i k ∧ lk ρ' 10 = .int .i64 (i : Int) ∧ lk ρ' 11 = .pointer (some ⟨b11, 0, none⟩) ∧ lk ρ' 12 = .int .i64 (q : Int) ∧ Γ' = own 38 3 (.slice D q kd) q (ltsC M) :: row b11 [.int .u32 ((preN mv hp : Nat) : Int), .slice Bh HL.length kh, .slice D q kd] 36 :: own 36 3 (.slice B i k) i (clsC K) :: Γ3) CL.length
    · exact ⟨0, [], none, 0, ownTm Bh kh HL :: Γ2, by omega, bs_cons hB, by simp, hho', fun d hd => Cl.ok_tl (hK d hd), rfl, Nat.le_refl _, rfl, rfl, rfl, rfl, rfl, rfl, rfl, rfl, rfl⟩
    clear hh hel hho hho' hK hB
    rintro j2 IH2 ρ2 _ ⟨q, M, D, kd, Γ3, hq, hB, hM, hho, hK, hpm, hkd, e0, e1, e2, e3, e9, e10, e11, e12, rfl⟩
    refine TK.know8 e0 e1 e2 e3 e9 e10 e11 e12 ?_
    have hco := hB.2.1.2 _ hcm
    have hel : has Γ3 (fun m => cellsAt m b (o + i * 3) [.int .u32 (hp : Int), .slice hA hl.length hc, .slice CA CL.length Cc]) := has_el (sz := 3) (f := Cl.cells) (fun _ => rfl) (by decide) hB.2.1.1 hci
    have hc2 := has_cell hel 2 rfl
    have hMl : M.length = q := by have := congrArg List.length hpm; simp at this; omega
    by_cases hqi : q < CL.length
    · obtain ⟨x, hx⟩ : ∃ x, CL[q]? = some x := ⟨CL[q], List.getElem?_eq_getElem hqi⟩
      have hxm := List.mem_of_getElem? hx
      have hx30 : x.a.l.length ≤ 30 := hcf.2.2 x hxm
      have hlit0 : has Γ3 (srcAt 3 CA CL.length (ltsC CL)) := hco.2.1
      refine TK.mem fun m0 hm0 => ?_
      obtain ⟨g, u, hgA⟩ := src_some ((has_tls (has_tls (has_tls hlit0)) : has (_ :: _ :: _ :: Γ3) _) m0 hm0) (by rw [ltsC_len]; omega)
      clear hm0 m0
      rw [hgA] at hlit0 hc2
      obtain ⟨_, hno, hat⟩ := has_lit hlit0 hx
      have hxo := hco.2.2.2 x hxm
      refine m_run ?_
      refine TK.drawB mixed rfl 27 (row b11 [.int .u32 ((preN mv hp : Nat) : Int), .slice Bh HL.length kh, .slice D q kd] 36 :: own 36 3 (.slice B i k) i (clsC K) :: Γ3) Γ3 ?_
      refine m_bake (At.mk : At 0) ?_; refine m_bake (At.mk : At 1) ?_; refine m_bake (At.mk : At 2) ?_; refine m_bake (At.mk : At 3) ?_; refine m_bake (At.mk : At 4) ?_; refine m_bake (At.mk : At 5) ?_; refine m_bake (At.mk : At 6) ?_; refine m_bake (At.mk : At 7) ?_; refine m_bake (At.mk : At 8) ?_; refine m_bake (At.mk : At 9) ?_; refine m_bake (At.mk : At 10) ?_; refine m_bake (At.mk : At 11) ?_; refine m_bake (At.mk : At 12) ?_; refine m_bake (At.mk : At 13) ?_; refine m_bake (At.mk : At 14) ?_; refine m_bake (At.mk : At 15) ?_; refine m_bake (At.mk : At 16) ?_; refine m_bake (At.mk : At 17) ?_; refine m_bake (At.mk : At 18) ?_; refine m_bake (At.mk : At 19) ?_; refine m_bake (At.mk : At 20) ?_; refine m_bake (At.mk : At 21) ?_
      (apply TB.one 22; kernel_rfl; exact rfl; exact rfl)
      (apply TL.callV; exact rfl; exact callB_of (by kernel_rfl); exact rfl; exact fun _ h => h)
      exact called_t x.a mv y _ (Atm.ok_tl (Atm.ok_tl (Atm.ok_tl hxo))) (Nat.le_trans hx30 (by decide)) hy
      rintro _ _ ⟨Bx, kx, hkx, rfl, rfl⟩
      generalize hXL : x.a.l.map (renT y) = XL at *
      refine TL.backB (by (focus ((repeat (first | assumption | exact Ent.refl _ | apply Ent.tail)); done))) ?_
      (apply TB.takeA (At.mk : At 23); exact rfl; exact rfl; kernel_rfl; exact rfl; ((focus ((repeat (first | assumption | exact Ent.refl _ | apply Ent.tail)); done))); (apply PV.build tabs; exact rfl; exact rfl; exact rfl; exact rfl; exact rfl; exact (rfl : _ = Lt.cells ⟨x.no, ⟨preN mv x.a.p, Bx, kx, XL⟩⟩)))
      (apply TB.one 24; kernel_rfl; exact rfl; exact rfl)
      (apply TL.buildSlice (l := Lt.cells ⟨x.no, ⟨preN mv x.a.p, Bx, kx, XL⟩⟩); exact rfl; exact tb rfl; exact rfl; exact tb rfl; exact rfl; exact rfl; exact rfl; exact rfl; exact rfl)
      intro b87
      refine TL.backB (by (focus ((repeat (first | assumption | exact Ent.refl _ | apply Ent.tail)); done))) ?_
      (apply TB.one 25; kernel_rfl; exact rfl; exact rfl)
      (apply TL.append 2; exact rfl; exact rfl; exact tb rfl; exact rfl; exact tb rfl; exact rfl; exact rfl; exact rfl)
      · exact fun _ h => h
      · exact rfl
      · exact has_src_row 0 rfl rfl
      · exact by intro u hu; simp only [Lt.cells, Atm.cells, List.mem_cons, List.not_mem_nil, or_false] at hu; rcases hu with rfl | rfl | rfl <;> rfl
      · show (q + 1) * 40 ≤ _; omega
      · show q + 1 ≤ maxLen; unfold maxLen; omega
      · exact fun _ => (rfl : _ = _ :: _ :: _ :: _)
      intro D2 k2 hk2
      rw [show ltsC M ++ Lt.cells ⟨x.no, ⟨preN mv x.a.p, Bx, kx, XL⟩⟩ = ltsC (M ++ [⟨x.no, ⟨preN mv x.a.p, Bx, kx, XL⟩⟩]) by simp [ltsC]]
      refine TL.backB (by (focus ((repeat (first | assumption | exact Ent.refl _ | apply Ent.tail)); done))) ?_
      refine m_bake (At.mk : At 26) ?_
      (apply TB.last; kernel_rfl; exact rfl)
      (apply TL.storeR 3; exact rfl; exact rfl; (exact m_val); exact rfl; exact tb rfl; exact rfl; exact rfl; (exact m_lst); exact (rfl : _ = _ :: _ :: _ :: _ :: _))
      refine TL.back (by (focus ((repeat (first | assumption | exact Ent.refl _ | apply Ent.tail)); done))) ?_
      refine TA.done (by kernel_rfl) ?_
      refine TK.drop ?_
      refine TK.perm beh3 ?_
      refine m_run ?_
      refine IH2 (j2 - 1) _ _ (by omega) ⟨q + 1, M ++ [⟨x.no, ⟨preN mv x.a.p, Bx, kx, XL⟩⟩], D2, k2, ownTm Bx kx XL :: Γ3, by omega, bs_cons hB, fun z hz => ?_, Atm.ok_tl hho, fun d hd => Cl.ok_tl (hK d hd), ?_, hk2, rfl, rfl, rfl, rfl, rfl, rfl, rfl, congrArg (Value.int .i64) (i64_succ q (by omega)), rfl⟩
      · rcases List.mem_append.1 hz with hz | hz
        · exact Atm.ok_tl (hM z hz)
        · rw [List.mem_singleton.1 hz]
          exact ⟨has_at (up_src _ _ _ _) 0 rfl fun _ h => own_src h, hkx⟩
      · rw [List.map_append, hpm, List.take_add_one, hx, List.map_append]
        simp only [List.map_cons, List.map_nil, Option.toList, pureL, renL, hXL]
    · obtain rfl : q = CL.length := by omega
      rw [List.take_length] at hpm
      refine m_run ?_
      (apply TL.buildSlice (l := [.int .u32 ((preN mv hp : Nat) : Int), .slice Bh HL.length kh, .slice D CL.length kd]); exact rfl; exact tb rfl; exact rfl; exact tb rfl; exact rfl; exact rfl; exact rfl; exact rfl; exact rfl)
      intro b92
      refine m_run ?_
      (apply TL.append 3; exact rfl; exact rfl; exact tb rfl; exact rfl; exact tb rfl; exact rfl; exact rfl; exact rfl)
      · exact fun _ h => h
      · exact rfl
      · exact has_src_row 0 rfl rfl
      · exact by intro u hu; simp only [List.mem_cons, List.not_mem_nil, or_false] at hu; rcases hu with rfl | rfl | rfl <;> rfl
      · show (i + 1) * 56 ≤ _; omega
      · show i + 1 ≤ maxLen; unfold maxLen; omega
      · exact fun _ => (rfl : _ = _ :: _ :: _ :: _ :: _)
      intro B2 k2 hk2
      have hcells : clsC K ++ [.int .u32 ((preN mv hp : Nat) : Int), .slice Bh HL.length kh, .slice D CL.length kd] = clsC (K ++ [⟨⟨preN mv hp, Bh, kh, HL⟩, D, kd, M⟩]) := by
        rw [← clsC_app]
        show _ = clsC K ++ [.int .u32 ((preN mv hp : Nat) : Int), .slice Bh HL.length kh, .slice D M.length kd]
        rw [hMl]
      rw [hcells]
      refine m_run ?_
      refine TK.sub (Δ := own 38 3 (.slice D CL.length kd) CL.length (ltsC M) :: own 36 3 (.slice B2 (i + 1) k2) (i + 1) (clsC (K ++ [⟨⟨preN mv hp, Bh, kh, HL⟩, D, kd, M⟩])) :: Γ3) (by (repeat (first | exact List.Sublist.refl _ | apply List.Sublist.cons_cons | apply List.Sublist.cons))) ?_
      refine TK.perm (.swap _ _ _) ?_
      refine IH (j - 1) _ _ (by omega) ⟨i + 1, K ++ [⟨⟨preN mv hp, Bh, kh, HL⟩, D, kd, M⟩], B2, k2, own 38 3 (.slice D CL.length kd) CL.length (ltsC M) :: Γ3, by omega, bs_cons hB, ?_, fun d hd => ?_, hk2, rfl, rfl, rfl, rfl, rfl, congrArg (Value.int .i64) (i64_succ i (by omega)), rfl⟩
      · unfold Renamed at hR ⊢
        rw [List.map_append, hR, List.take_add_one, hci, List.map_append]
        simp only [List.map_cons, List.map_nil, Option.toList, pureC, renD, hpm, ← hHL, List.map_map]
        rfl
      · rcases List.mem_append.1 hd with hd | hd
        · exact Cl.ok_tl (hK d hd)
        · rw [List.mem_singleton.1 hd]
          refine ⟨Atm.ok_tl hho, ?_, by show M.length ≤ kd; omega, fun z hz => Atm.ok_tl (hM z hz)⟩
          show has _ (srcAt 3 D M.length (ltsC M))
          rw [hMl]
          exact has_at (up_src _ _ _ _) 0 rfl fun _ h => own_src h
  obtain rfl : i = l.length := by omega
  rw [List.take_length] at hR
  clear IH
  refine TK.free (H := own 43 2 (.slice none 0 0) 0 []) (fun m hm => own_nil _ _ hm) ?_
  refine m_run ?_
  apply TK.iter (fun j ρ' Γ' => ∃ (q : Nat) (G : List Fct) (D : Option Addr) (kd : Nat), fs.length = q + j ∧ RenF mv (fs.take q) G ∧ q ≤ kd ∧ lk ρ' 0 = .slice A l.length cc ∧ lk ρ' 1 = .slice F fs.length fc ∧ lk ρ' 2 = .int .u32 (mv : Int) ∧ lk ρ' 9 = .slice B l.length k ∧ lk ρ' 13 = .slice D q kd ∧ lk ρ' 14 = .int .i64 (q : Int) ∧ Γ' = own 43 2 (.slice D q kd) q (fcsC G) :: own 36 3 (.slice B l.length k) l.length (clsC K) :: Γ2) fs.length
  · exact ⟨0, [], none, 0, by omega, rfl, Nat.le_refl _, rfl, rfl, rfl, rfl, rfl, rfl, rfl⟩
  rintro j2 IH ρ2 _ ⟨q, G, D, kd, hq, hG, hkd, f0, f1, f2, f9, f13, f14, rfl⟩
  refine TK.know6 f0 f1 f2 f9 f13 f14 ?_
  have hf2 := hB.2.2
  by_cases hqi : q < fs.length
  · obtain ⟨f, hfq⟩ : ∃ f, fs[q]? = some f := ⟨fs[q], List.getElem?_eq_getElem hqi⟩
    refine TK.mem fun m0 hm0 => ?_
    obtain ⟨g, u, hgA⟩ := src_some ((has_tls (has_tls hf2) : has (_ :: _ :: Γ2) _) m0 hm0) (by rw [fcsC_len]; omega)
    clear hm0 m0
    subst hgA
    have hel := has_el (sz := 2) (f := Fct.cells) (fun _ => rfl) (by decide) hf2 hfq
    have hc0 := has_cell hel 0 rfl
    have hc1 := has_cell hel 1 rfl
    refine m_run ?_
    refine TK.drawE mixed rfl (own 36 3 (.slice B l.length k) l.length (clsC K) :: Γ2) ?_
    refine m_take (At.mk : At 0) ?_; refine m_take (At.mk : At 1) ?_; refine m_take (At.mk : At 2) ?_; refine m_take (At.mk : At 3) ?_; refine m_take (At.mk : At 4) ?_; refine m_take (At.mk : At 5) ?_; refine m_take (At.mk : At 6) ?_; refine m_take (At.mk : At 7) ?_
    refine TA.know (t := 107) (v := .int .u32 ((preN mv f.p : Nat) : Int)) (congrArg (Value.int .u32) (u32_add f.p mv)) ?_
    refine m_take (At.mk : At 8) ?_; refine m_take (At.mk : At 9) ?_; refine m_take (At.mk : At 10) ?_; refine m_take (At.mk : At 11) ?_; refine m_take (At.mk : At 12) ?_
    (apply TA.takeA (At.mk : At 13); exact rfl; exact rfl; kernel_rfl; ((focus ((repeat (first | assumption | exact Ent.refl _ | apply Ent.tail)); done))); (apply PV.build tabs; exact rfl; exact rfl; exact rfl; exact rfl; exact rfl; exact (rfl : _ = Fct.cells ⟨preN mv f.p, f.A, f.c, f.l⟩)))
    (apply TA.one 14; kernel_rfl; exact rfl)
    (apply TL.buildSlice (l := Fct.cells ⟨preN mv f.p, f.A, f.c, f.l⟩); exact rfl; exact tb rfl; exact rfl; exact tb rfl; exact rfl; exact rfl; exact rfl; exact rfl; exact rfl)
    intro b114
    refine TL.back (by (focus ((repeat (first | assumption | exact Ent.refl _ | apply Ent.tail)); done))) ?_
    (apply TA.one 15; kernel_rfl; exact rfl)
    (apply TL.append 1; exact rfl; exact rfl; exact tb rfl; exact rfl; exact tb rfl; exact rfl; exact rfl; exact rfl)
    · exact fun _ h => h
    · exact rfl
    · exact has_src_row 0 rfl rfl
    · exact by intro u hu; simp only [Fct.cells, List.mem_cons, List.not_mem_nil, or_false] at hu; rcases hu with rfl | rfl <;> rfl
    · show (q + 1) * 32 ≤ _; omega
    · show q + 1 ≤ maxLen; unfold maxLen; omega
    · exact fun _ => (rfl : _ = _ :: _ :: _)
    intro D2 k2 hk2
    rw [show fcsC G ++ Fct.cells ⟨preN mv f.p, f.A, f.c, f.l⟩ = fcsC (G ++ [⟨preN mv f.p, f.A, f.c, f.l⟩]) by simp [fcsC]]
    refine TL.back (by (focus ((repeat (first | assumption | exact Ent.refl _ | apply Ent.tail)); done))) ?_
    refine m_take (At.mk : At 16) ?_
    refine TA.done (by kernel_rfl) ?_
    refine TK.drop ?_
    refine m_run ?_
    refine IH (j2 - 1) _ _ (by omega) ⟨q + 1, G ++ [⟨preN mv f.p, f.A, f.c, f.l⟩], D2, k2, by omega, ?_, hk2, rfl, rfl, rfl, rfl, rfl, congrArg (Value.int .i64) (i64_succ q (by omega)), rfl⟩
    unfold RenF at hG ⊢
    rw [fa_snoc hfq, List.map_append, ← hG]
    simp [fa, renP]
  obtain rfl : q = fs.length := by omega
  rw [List.take_length] at hG
  clear IH
  have hKl := ren_len hR
  have hGl : G.length = fs.length := by simpa [fa, RenF] using congrArg List.length hG
  have hokl : clsOk A l Γ2 := few_cls hB.2.1 hfew
  have hokK : clsOk B K (own 36 3 (.slice B l.length k) l.length (clsC K) :: Γ2) := by
    refine ⟨?_, fun c hc => ⟨Cl.ok_tl (hK c hc), few_small (ren_few hR hfew c hc)⟩⟩
    rw [hKl]
    exact has_at (up_src _ _ _ _) 0 rfl fun _ h => own_src h
  have hGs : has (own 43 2 (.slice D fs.length kd) fs.length (fcsC G) :: own 36 3 (.slice B l.length k) l.length (clsC K) :: Γ2) (srcAt 2 D G.length (fcsC G)) := by
    rw [hGl]
    exact has_at (up_src _ _ _ _) 0 rfl fun _ h => own_src h
  have hrK := fun Γ h1 => right_t B k K Γ h1 (by omega)
  have haK := fun Γ h1 h2 => arities_t B D k kd K G Γ h1 h2 (by omega) (by omega)
  rw [hKl] at hrK haK
  rw [hGl] at haK
  refine m_run ?_
  (apply TL.callV; exact rfl; exact callB_of (by kernel_rfl); exact rfl; exact fun _ h => h)
  exact right_t A cc l _ (cls_tl (cls_tl hokl)) (by omega)
  rintro v _ ⟨⟨n, e, rfl, hr⟩, rfl⟩
  refine m_run ?_
  (apply TL.callV; exact rfl; exact callB_of (by kernel_rfl); exact rfl; exact fun _ h => h)
  exact hrK _ (cls_tl hokK)
  rintro v _ ⟨hv, rfl⟩
  have hrR := ren_res hR hb hr
  have hv := rightIs_of hv hrR
  subst hv
  by_cases he : e = 0
  rotate_left
  · refine m_run ?_
    (apply TL.callV; exact rfl; exact callB_of (by kernel_rfl); exact rfl; exact fun _ h => h)
    exact works_t _
    rintro _ _ ⟨rfl, rfl⟩
    refine m_run ?_
    (apply TK.retS1; exact rfl; exact rfl; (exact m_val))
    exact ⟨_, rfl, rfl, rfl⟩
    exact .cons _ (.cons _ hB.1)
  subst he
  refine m_run ?_
  (apply TL.callV; exact rfl; exact callB_of (by kernel_rfl); exact rfl; exact fun _ h => h)
  exact arities_t A F cc fc l fs _ (cls_tl (cls_tl hokl)) (has_tls (has_tls hf2)) (by omega) (by omega)
  rintro v _ ⟨⟨_, hv⟩, rfl⟩
  obtain ⟨n2, e2, rfl, hra⟩ := hv (res_cons hr)
  refine m_run ?_
  (apply TL.callV; exact rfl; exact callB_of (by kernel_rfl); exact rfl; exact fun _ h => h)
  exact haK _ (cls_tl hokK) (hGl ▸ hGs)
  rintro v _ ⟨⟨_, hv⟩, rfl⟩
  obtain ⟨n3, e3, rfl, hrb⟩ := hv (res_cons hrR)
  rw [ren_ats hR] at hrb
  obtain ⟨rfl, rfl⟩ := resA_one (renF_res hG hb hfb hra) hrb
  refine m_run ?_
  (apply TL.callV; exact rfl; exact callB_of (by kernel_rfl); exact rfl; exact fun _ h => h)
  exact works_t _
  rintro _ _ ⟨rfl, rfl⟩
  refine m_run ?_
  (apply TK.retS1; exact rfl; exact rfl; (exact m_val))
  exact ⟨_, rfl, rfl, rfl⟩
  exact .cons _ (.cons _ hB.1)
end Go.Proofs.Ytndmjpceocecdaa.E
