/- SafeParts, walked. -/
import Derived.Test.YtndmjpceocecdaaUr
namespace Go.Proofs.Ytndmjpceocecdaa.E
open Go Go.RowKit Go.Proofs
attribute [local irreducible] TK TL TQ TA Fn PV
theorem clsC_one (l : List Cl) : ∀ u ∈ clsC l, u.oneCell' = true := by
  intro u hu
  obtain ⟨p, _, hp⟩ := List.mem_flatMap.1 hu
  simp only [Cl.cells, List.mem_cons, List.not_mem_nil, or_false] at hp
  rcases hp with rfl | rfl | rfl <;> rfl
theorem clsC_app (l m : List Cl) : clsC l ++ clsC m = clsC (l ++ m) := by simp [clsC]
theorem ownCls {A' : Option Addr} {k n : Nat} {l : List Cl} {Γ : List HP} (hl : l.length = n) (h : ∀ c ∈ l, c.ok Γ ∧ c.small) : clsOk A' l (own 36 3 (.slice A' n k) n (clsC l) :: Γ) := by
  subst hl
  exact ⟨has_at (up_src _ _ _ _) 0 rfl fun _ h => own_src h, fun c hc => ⟨Cl.ok_tl (h c hc).1, (h c hc).2⟩⟩
theorem cls_erase (l : List Cl) (k : Nat) : [] ++ ((clsC l).drop (0 * 3)).take ((k - 0) * 3) ++ ((clsC l).drop ((k + 1) * 3)).take ((l.length - (k + 1)) * 3) = clsC (l.eraseIdx k) := by
  rw [Nat.zero_mul, List.drop_zero, Nat.sub_zero, List.nil_append, ← flat_take (f := Cl.cells) (sz := 3) (fun _ => rfl), ← flat_drop (f := Cl.cells) (sz := 3) (fun _ => rfl), List.take_of_length_le (l := (l.drop (k + 1)).flatMap Cl.cells), List.eraseIdx_eq_take_drop_succ, clsC, List.flatMap_append]
  rw [clsC_len, List.length_drop]
  exact Nat.le_refl _
theorem cpart_one (l : List Cl) (i j : Nat) : ∀ u ∈ ((clsC l).drop i).take j, u.oneCell' = true := fun u hu => clsC_one l u (List.mem_of_mem_drop (List.mem_of_mem_take hu))
set_option maxRecDepth 100000 in
set_option maxHeartbeats 8000000 in
theorem safeParts_t (A M : Option Addr) (cc mc : Nat) (l more : List Cl) (at_ : Nat) (Γ : List HP) (h : clsAt A l Γ) (hm : clsAt M more Γ) (hcc : l.length ≤ cc) (_ : more.length ≤ mc) (hat : at_ < 256) :
    FnV Try.prog 4 [.slice A l.length cc, .slice M more.length mc, .int .u8 (at_ : Int)] Γ fun v Γ' => v = .bool true ∧ Γ' = Γ := by
  refine Fn.enter Try.func4 rfl rfl rfl fun E => ?_
  refine TK.seq ?_
  refine TK.region ?_
  refine m_rrun ?_
  refine TL.nil ?_
  (repeat (first | refine TK.seq ?_ | refine TK.skip ?_))
  refine TK.cut (fun ρ' Γ' => ∃ b, (b = false → FewOk l [] ∧ FewOk more [] ∧ l.length + more.length ≤ 120) ∧ lk ρ' 33 = .bool b ∧ lk ρ' 0 = .slice A l.length cc ∧ lk ρ' 1 = .slice M more.length mc ∧ lk ρ' 2 = .int .u8 (at_ : Int) ∧ Γ' = Γ) ?_ ?_
  · intro k' hk'
    refine m_run ?_
    (apply TL.callV; exact rfl; exact callB_of (by kernel_rfl); exact rfl; exact fun _ h => h)
    exact few_t A none cc 0 l [] _ h (has_srcnil _ _)
    rintro _ Γ ⟨⟨B1, rfl, hB1⟩, rfl⟩
    cases B1 with
    | false =>
      refine m_run ?_
      exact hk' _ _ ⟨true, (fun h => by cases h), rfl, rfl, rfl, rfl, rfl⟩
    | true =>
    refine m_run ?_
    (apply TL.callV; exact rfl; exact callB_of (by kernel_rfl); exact rfl; exact fun _ h => h)
    exact few_t M none mc 0 more [] _ hm (has_srcnil _ _)
    rintro _ Γ ⟨⟨B2, rfl, hB2⟩, rfl⟩
    cases B2 with
    | false =>
      refine m_run ?_
      exact hk' _ _ ⟨true, (fun h => by cases h), rfl, rfl, rfl, rfl, rfl⟩
    | true =>
      have g1 := hB1 rfl
      have g2 := hB2 rfl
      have g3 := g1.1
      have g4 := g2.1
      refine m_run ?_
      refine hk' _ _ ⟨_, fun hb => ⟨g1, g2, ?_⟩, rfl, rfl, rfl, rfl, rfl⟩
      have := of_decide_eq_false hb
      rw [i64_in (by omega) (by omega)] at this
      omega
  rintro ρ1 Γ ⟨b, hb, f33, f0, f1, f2, rfl⟩
  refine TK.know4 f33 f0 f1 f2 ?_
  cases b with
  | true =>
    refine m_run ?_
    (apply TL.callV; exact rfl; exact callB_of (by kernel_rfl); exact rfl; exact fun _ h => h)
    exact works_t _
    rintro _ Γ ⟨rfl, rfl⟩
    refine m_run ?_
    (apply TK.ret1; exact rfl; exact rfl; (exact m_val))
    exact ⟨_, rfl, rfl, rfl⟩
  | false =>
  obtain ⟨hfl, hfm, hsum⟩ := hb rfl
  have hok := few_cls h hfl.2.2.2.1
  have hmk := few_cls hm hfm.2.2.2.1
  have hl1 : l.length ≤ 1000000 := by omega
  refine m_run ?_
  (apply TL.callV; exact rfl; exact callB_of (by kernel_rfl); exact rfl; exact fun _ h => h)
  exact right_t A cc l _ hok hl1
  rintro v Γ ⟨⟨n, e, rfl, hr⟩, rfl⟩
  have hsm := res_small hr
  by_cases he : e = 0
  rotate_left
  · refine m_run ?_
    (apply TL.buildSlice; exact rfl; exact tb rfl; exact rfl; exact tb rfl; exact rfl; exact rfl; exact rfl; exact rfl; (exact m_lst))
    intro b0
    refine m_run ?_
    (apply TL.append 0; exact rfl; exact rfl; exact tb rfl; exact rfl; exact tb rfl; exact rfl; exact rfl; exact rfl)
    · exact fun _ h => own_row (n := 0) rfl (by decide) h
    · exact rfl
    · exact has_tls h.1
    · exact clsC_one l
    · show (0 + l.length) * 56 ≤ _; omega
    · show 0 + l.length ≤ maxLen; unfold maxLen; omega
    · exact fun _ => (rfl : _ = _ :: _)
    intro A2 c2 hc2
    refine m_run ?_
    (apply TL.append 0; exact rfl; exact rfl; exact tb rfl; exact rfl; exact tb rfl; exact rfl; exact rfl; exact rfl)
    · exact fun _ h => h
    · exact rfl
    · exact has_tls hm.1
    · exact clsC_one more
    · show (0 + l.length + more.length) * 56 ≤ _; omega
    · show 0 + l.length + more.length ≤ maxLen; unfold maxLen; omega
    · exact fun _ => (rfl : _ = _ :: _)
    intro A3 c3 hc3
    have hlen : (l ++ more).length = 0 + l.length + more.length := by rw [List.length_append]; omega
    rw [List.nil_append, clsC_app, ← hlen]
    have hok3 : clsOk A3 (l ++ more) (own 36 3 (.slice A3 (l ++ more).length c3) (l ++ more).length (clsC (l ++ more)) :: Γ) := ownCls rfl fun c hc => by
      rcases List.mem_append.1 hc with hc | hc
      · exact hok.2 c hc
      · exact hmk.2 c hc
    refine m_run ?_
    (apply TL.callV; exact rfl; exact callB_of (by kernel_rfl); exact rfl; exact fun _ h => h)
    exact right_t A3 c3 (l ++ more) _ hok3 (by rw [List.length_append]; omega)
    rintro v _ ⟨hv, rfl⟩
    have hv := rightIs_of hv (res_more hr he hsum)
    subst hv
    refine m_run ?_
    (apply TL.callV; exact rfl; exact callB_of (by kernel_rfl); exact rfl; exact fun _ h => h)
    exact works_t _
    rintro _ _ ⟨rfl, rfl⟩
    refine m_run ?_
    (apply TK.retS1; exact rfl; exact rfl; (exact m_val))
    exact ⟨_, rfl, rfl, rfl⟩
    (repeat (first | exact List.Sublist.refl _ | apply List.Sublist.cons_cons | apply List.Sublist.cons))
  subst he
  obtain ⟨_, rfl, h4⟩ := res_ok hr
  by_cases h0 : l.length = 0
  · refine m_run ?_
    (apply TL.callV; exact rfl; exact callB_of (by kernel_rfl); exact rfl; exact fun _ h => h)
    exact works_t _
    rintro _ Γ ⟨rfl, rfl⟩
    refine m_run ?_
    (apply TK.ret1; exact rfl; exact rfl; (exact m_val))
    exact ⟨_, rfl, rfl, rfl⟩
  refine TL.mem fun m0 hm0 => ?_
  obtain ⟨b, o, rfl⟩ := src_some (h.1 m0 hm0) (by rw [clsC_len]; omega)
  clear hm0 m0
  refine m_run ?_
  refine TL.know (t := 76) (v := .int .i64 (at_ : Int)) (congrArg (Value.int .i64) (i64_in (by omega) (by omega))) ?_
  refine m_run ?_
  (apply TL.pv; exact rfl; (apply PV.remN (n := at_) (m := l.length); exact rfl; exact rfl; exact rfl; exact h0))
  have hkl : at_ % l.length < l.length := Nat.mod_lt _ (by omega)
  generalize at_ % l.length = k at *
  obtain ⟨⟨⟨hp, hAA, hhc, hl⟩, CA, Cc, CL⟩, hc⟩ : ∃ c, l[k]? = some c := ⟨l[k], List.getElem?_eq_getElem hkl⟩
  have hcm := List.mem_of_getElem? hc
  have hcf := hfl.2.2.2.1 _ hcm
  have hco := h.2 _ hcm
  have hb30 : CL.length ≤ 30 := hcf.1
  have hcap : CL.length ≤ Cc := hco.2.2.1
  have hlit0 : has Γ (srcAt 3 CA CL.length (ltsC CL)) := hco.2.1
  have hel : has Γ (fun m => cellsAt m b (o + k * 3) [.int .u32 (hp : Int), .slice hAA hl.length hhc, .slice CA CL.length Cc]) := has_el (sz := 3) (f := Cl.cells) (fun _ => rfl) (by decide) h.1 hc
  have hs1 := has_imp h.1 fun _ hm => src_part hm (Nat.zero_le k) (Nat.le_of_lt hkl) (Nat.le_trans (Nat.le_of_lt hkl) hcc)
  have hs2 := has_imp h.1 fun _ hm => src_part hm (show k + 1 ≤ l.length from hkl) (Nat.le_refl _) hcc
  refine m_run ?_
  refine TK.drawE mixed rfl Γ ?_
  refine m_take (At.mk : At 1) ?_; refine m_take (At.mk : At 2) ?_
  (apply TA.takeA (At.mk : At 3); exact rfl; exact rfl; kernel_rfl; ((focus ((repeat (first | assumption | exact Ent.refl _ | apply Ent.tail)); done))); (apply PV.sliceS (i := 0) (j := k); exact rfl; exact tb rfl; exact rfl; exact tb rfl; exact .none; exact .some rfl; exact Nat.zero_le _; exact Nat.le_trans (Nat.le_of_lt hkl) hcc))
  refine m_take (At.mk : At 5) ?_; refine m_take (At.mk : At 6) ?_; refine m_take (At.mk : At 7) ?_
  refine TA.know (t := 87) (v := .int .i64 ((k + 1 : Nat) : Int)) (congrArg (Value.int .i64) (i64_succ k (by omega))) ?_
  (apply TA.takeA (At.mk : At 8); exact rfl; exact rfl; kernel_rfl; ((focus ((repeat (first | assumption | exact Ent.refl _ | apply Ent.tail)); done))); (apply PV.sliceS (i := k + 1) (j := l.length); exact rfl; exact tb rfl; exact rfl; exact tb rfl; exact .some rfl; exact .none; exact hkl; exact hcc))
  (apply TA.one 0; kernel_rfl; exact rfl)
  (apply TL.buildSlice; exact rfl; exact tb rfl; exact rfl; exact tb rfl; exact rfl; exact rfl; exact rfl; exact rfl; (exact m_lst))
  intro b80
  refine TL.back (by (focus ((repeat (first | assumption | exact Ent.refl _ | apply Ent.tail)); done))) ?_
  (apply TA.one 4; kernel_rfl; exact rfl)
  (apply TL.append 0; exact rfl; exact rfl; exact tb rfl; exact rfl; exact tb rfl; exact rfl; exact rfl; exact rfl)
  · exact fun _ h => own_row (n := 0) rfl (by decide) h
  · exact rfl
  · exact has_tls hs1
  · exact cpart_one l _ _
  · show (0 + (k - 0)) * 56 ≤ _; omega
  · show 0 + (k - 0) ≤ maxLen; unfold maxLen; omega
  · exact fun _ => (rfl : _ = _ :: _)
  intro A2 c2 hc2
  refine TL.back (by (focus ((repeat (first | assumption | exact Ent.refl _ | apply Ent.tail)); done))) ?_
  (apply TA.one 9; kernel_rfl; exact rfl)
  (apply TL.append 0; exact rfl; exact rfl; exact tb rfl; exact rfl; exact tb rfl; exact rfl; exact rfl; exact rfl)
  · exact fun _ h => h
  · exact rfl
  · exact has_tls hs2
  · exact cpart_one l _ _
  · show (0 + (k - 0) + (l.length - (k + 1))) * 56 ≤ _; omega
  · show 0 + (k - 0) + (l.length - (k + 1)) ≤ maxLen; unfold maxLen; omega
  · exact fun _ => (rfl : _ = _ :: _)
  intro A3 c3 hc3
  refine TL.back (by (focus ((repeat (first | assumption | exact Ent.refl _ | apply Ent.tail)); done))) ?_
  refine m_take (At.mk : At 10) ?_
  refine TA.done (by kernel_rfl) ?_
  have hll : (l.eraseIdx k).length + 1 = l.length := by rw [List.length_eraseIdx, if_pos hkl]; omega
  have hcs := cls_erase l k
  have hlen : 0 + (k - 0) + (l.length - (k + 1)) = (l.eraseIdx k).length := by omega
  rw [hlen] at hc3 ⊢
  refine TK.imp (Δ := own 36 3 (.slice A3 (l.eraseIdx k).length c3) (l.eraseIdx k).length (clsC (l.eraseIdx k)) :: Γ) (fun m hm => by rw [← hcs]; exact hm) ?_
  have hsub : ∀ x ∈ l.eraseIdx k, x ∈ l := fun x hx => List.mem_of_mem_eraseIdx hx
  generalize l.eraseIdx k = L at *
  have hLk : ∀ c ∈ L, c.ok Γ ∧ c.small := fun c hc => hok.2 c (hsub c hc)
  refine m_run ?_
  (apply TL.callV; exact rfl; exact callB_of (by kernel_rfl); exact rfl; exact fun _ h => h)
  exact right_t A3 c3 L _ (ownCls rfl hLk) (by omega)
  rintro v _ ⟨hv, rfl⟩
  have hv := rightIs_of hv (res_less hr hsub (by omega))
  subst hv
  refine m_run ?_
  (apply TL.alloc; exact rfl; exact tb rfl; exact (rfl : _ = [_, _, _]))
  intro b15
  by_cases hL0 : CL.length = 0
  · refine m_run ?_
    (apply TL.callV; exact rfl; exact callB_of (by kernel_rfl); exact rfl; exact fun _ h => h)
    exact works_t _
    rintro _ _ ⟨rfl, rfl⟩
    refine m_run ?_
    (apply TK.retS1; exact rfl; exact rfl; (exact m_val))
    exact ⟨_, rfl, rfl, rfl⟩
    (repeat (first | exact List.Sublist.refl _ | apply List.Sublist.cons_cons | apply List.Sublist.cons))
  obtain ⟨n, hn⟩ : ∃ n, CL.length = n + 1 := ⟨CL.length - 1, by omega⟩
  obtain ⟨x, hx⟩ : ∃ x, CL[n]? = some x := ⟨CL[n], List.getElem?_eq_getElem (by omega)⟩
  refine TL.mem fun m0 hm0 => ?_
  obtain ⟨g, u, hA⟩ := src_some ((has_tls (has_tls hlit0) : has (_ :: _ :: Γ) _) m0 hm0) (by rw [ltsC_len]; omega)
  clear hm0 m0
  subst hA
  have hlits : has Γ (srcAt 3 (some ⟨g, u, none⟩) CL.length (ltsC CL)) := hlit0
  obtain ⟨_, hno, _⟩ := has_lit hlits hx
  refine m_run ?_
  refine TL.know (t := 111) (v := .int .i64 (n : Int)) (congrArg (Value.int .i64) (by rw [hn, i64_in (by omega) (by omega)]; omega)) ?_
  cases hxn : x.no with
  | false =>
    rw [hxn] at hno
    refine m_run ?_
    (apply TL.callV; exact rfl; exact callB_of (by kernel_rfl); exact rfl; exact fun _ h => h)
    exact works_t _
    rintro _ _ ⟨rfl, rfl⟩
    refine m_run ?_
    (apply TK.retS1; exact rfl; exact rfl; (exact m_val))
    exact ⟨_, rfl, rfl, rfl⟩
    (repeat (first | exact List.Sublist.refl _ | apply List.Sublist.cons_cons | apply List.Sublist.cons))
  | true =>
  rw [hxn] at hno
  refine m_run ?_
  refine TL.know (t := 121) (v := .int .i64 (n : Int)) (congrArg (Value.int .i64) (by rw [hn, i64_in (by omega) (by omega)]; omega)) ?_
  (apply TL.pv; exact rfl; (apply PV.sliceS (i := 0) (j := n); exact rfl; exact tb rfl; exact rfl; exact tb rfl; exact .none; exact .some rfl; exact Nat.zero_le _; exact (by omega)))
  obtain ⟨DA, hDA, hs3⟩ : ∃ DA, (if Cc = 0 then (some ⟨g, u, none⟩ : Option Addr) else Option.map (fun a : Addr => a.add (0 * 3)) (some ⟨g, u, none⟩)) = DA ∧ has Γ (srcAt 3 DA (n - 0) (((ltsC CL).drop (0 * 3)).take ((n - 0) * 3))) := ⟨_, rfl, has_imp hlits fun _ hm => src_part hm (Nat.zero_le n) (show n ≤ CL.length by omega) (show n ≤ Cc by omega)⟩
  refine TL.know (t := 122) (v := .slice DA n Cc) (by rw [← hDA]; rfl) ?_
  have hDt : (CL.take n).length = n := by rw [List.length_take]; omega
  have hDs : has Γ (srcAt 3 DA (CL.take n).length (ltsC (CL.take n))) := by
    rw [hDt, ltsC, flat_take (f := Lt.cells) (sz := 3) (fun _ => rfl)]
    simpa using hs3
  have hpos := lits_cut (L := CL) hn hx hxn
  have hdmem : ∀ y ∈ CL.take n, y ∈ CL := fun y hy => List.mem_of_mem_take hy
  have hdok : Cl.ok ⟨⟨hp, hAA, hhc, hl⟩, DA, Cc, CL.take n⟩ Γ := ⟨hco.1, hDs, by show (CL.take n).length ≤ Cc; omega, fun y hy => hco.2.2.2 y (hdmem y hy)⟩
  have hdsm : Cl.small ⟨⟨hp, hAA, hhc, hl⟩, DA, Cc, CL.take n⟩ := by
    have := few_small hcf
    exact ⟨by show (CL.take n).length ≤ 1000000; omega, this.2.1, fun y hy => this.2.2 y (hdmem y hy)⟩
  have hresd : Res (L ++ [⟨⟨hp, hAA, hhc, hl⟩, DA, Cc, CL.take n⟩]) 0 0 := res_cut (c := ⟨⟨hp, hAA, hhc, hl⟩, some ⟨g, u, none⟩, Cc, CL⟩) hr hcm hsub (by omega) rfl rfl hdmem (by show (CL.take n).length ≤ CL.length; omega) hpos
  have hcells : clsC L ++ [.int .u32 (hp : Int), .slice hAA hl.length hhc, .slice DA n Cc] = clsC (L ++ [⟨⟨hp, hAA, hhc, hl⟩, DA, Cc, CL.take n⟩]) := by
    rw [← clsC_app]
    show _ = clsC L ++ [.int .u32 (hp : Int), .slice hAA hl.length hhc, .slice DA (CL.take n).length Cc]
    rw [hDt]
  have hLd : ∀ c ∈ L ++ [⟨⟨hp, hAA, hhc, hl⟩, DA, Cc, CL.take n⟩], c.ok Γ ∧ c.small := fun c hc => by
    rcases List.mem_append.1 hc with hc | hc
    · exact hLk c hc
    · rw [List.mem_singleton.1 hc]; exact ⟨hdok, hdsm⟩
  refine m_run ?_
  refine TK.drawS mixed rfl ?_
  refine m_take (At.mk : At 1) ?_; refine m_take (At.mk : At 3) ?_
  have hown : has (row b15 [.int .u32 (hp : Int), .slice hAA hl.length hhc, .slice DA n Cc] 36 :: own 36 3 (.slice A3 L.length c3) L.length (clsC L) :: Γ) (srcAt 3 A3 L.length (clsC L)) := has_at (up_src _ _ _ _) 1 rfl fun _ h => own_src h
  refine TA.cutJ [0, 2, 4] (fun ρ' Γ' => ∃ (b129 : Nat) (B2 : Option Addr) (k2 : Nat), L.length ≤ k2 ∧ lk ρ' 15 = .pointer (some ⟨b15, 0, none⟩) ∧ lk ρ' 127 = .slice B2 L.length k2 ∧ lk ρ' 129 = .slice (some ⟨b129, 0, none⟩) 1 1 ∧ Γ' = row b129 [.int .u32 (hp : Int), .slice hAA hl.length hhc, .slice DA n Cc] 36 :: own 36 3 (.slice B2 L.length k2) L.length (clsC L) :: row b15 [.int .u32 (hp : Int), .slice hAA hl.length hhc, .slice DA n Cc] 36 :: own 36 3 (.slice A3 L.length c3) L.length (clsC L) :: Γ) rfl ?_ ?_
  · intro tail
    refine TA.two 0 4 (by kernel_rfl) rfl rfl ?_ ?_
    · (apply TL.buildSlice (l := []); exact rfl; exact tb rfl; exact rfl; exact tb rfl; exact rfl; exact rfl; exact rfl; exact rfl; exact rfl)
      intro b125
      refine TL.back (by (focus ((repeat (first | assumption | exact Ent.refl _ | apply Ent.tail)); done))) ?_
      refine TA.two 2 4 (by kernel_rfl) rfl rfl ?_ ?_
      · skip
        (apply TL.append 0 (n := 0) (m := L.length) (cs := []) (news := clsC L); exact rfl; exact rfl; exact tb rfl; exact rfl; exact tb rfl; exact rfl; exact rfl; exact rfl)
        · exact fun _ h => own_row (n := 0) rfl (by decide) h
        · exact rfl
        · exact has_tls hown
        · exact clsC_one L
        · show (0 + L.length) * 56 ≤ _; omega
        · show 0 + L.length ≤ maxLen; unfold maxLen; omega
        · exact fun _ => (rfl : _ = _ :: _)
        intro B2 k2 hk2
        simp only [Nat.zero_add, List.nil_append] at hk2 ⊢
        refine TL.back (by (focus ((repeat (first | assumption | exact Ent.refl _ | apply Ent.tail)); done))) ?_
        (apply TA.one 4; kernel_rfl; exact rfl)
        (apply TL.buildSlice (l := [.int .u32 (hp : Int), .slice hAA hl.length hhc, .slice DA n Cc]); exact rfl; exact tb rfl; exact rfl; exact tb rfl; exact rfl; exact rfl; exact rfl; exact rfl; exact rfl)
        intro b129
        refine TL.back (by (focus ((repeat (first | assumption | exact Ent.refl _ | apply Ent.tail)); done))) ?_
        refine TA.eqL ?_ (tail _ _ ⟨b129, B2, k2, hk2, rfl, rfl, rfl, rfl⟩)
        kernel_rfl
      · (apply TL.buildSlice (l := [.int .u32 (hp : Int), .slice hAA hl.length hhc, .slice DA n Cc]); exact rfl; exact tb rfl; exact rfl; exact tb rfl; exact rfl; exact rfl; exact rfl; exact rfl; exact rfl)
        intro b129
        refine TL.back (by (focus ((repeat (first | assumption | exact Ent.refl _ | apply Ent.tail)); done))) ?_
        (apply TA.one 2; kernel_rfl; exact rfl)
        (apply TL.append 1 (n := 0) (m := L.length) (cs := []) (news := clsC L); exact rfl; exact rfl; exact tb rfl; exact rfl; exact tb rfl; exact rfl; exact rfl; exact rfl)
        · exact fun _ h => own_row (n := 0) rfl (by decide) h
        · exact rfl
        · exact has_tls (has_tls hown)
        · exact clsC_one L
        · show (0 + L.length) * 56 ≤ _; omega
        · show 0 + L.length ≤ maxLen; unfold maxLen; omega
        · exact fun _ => (rfl : _ = _ :: _ :: _)
        intro B2 k2 hk2
        simp only [Nat.zero_add, List.nil_append] at hk2 ⊢
        refine TL.back (by (focus ((repeat (first | assumption | exact Ent.refl _ | apply Ent.tail)); done))) ?_
        refine TA.eqL ?_ (tail _ _ ⟨b129, B2, k2, hk2, rfl, rfl, rfl, rfl⟩)
        kernel_rfl
    · (apply TL.buildSlice (l := [.int .u32 (hp : Int), .slice hAA hl.length hhc, .slice DA n Cc]); exact rfl; exact tb rfl; exact rfl; exact tb rfl; exact rfl; exact rfl; exact rfl; exact rfl; exact rfl)
      intro b129
      refine TL.back (by (focus ((repeat (first | assumption | exact Ent.refl _ | apply Ent.tail)); done))) ?_
      (apply TA.one 0; kernel_rfl; exact rfl)
      (apply TL.buildSlice (l := []); exact rfl; exact tb rfl; exact rfl; exact tb rfl; exact rfl; exact rfl; exact rfl; exact rfl; exact rfl)
      intro b125
      refine TL.back (by (focus ((repeat (first | assumption | exact Ent.refl _ | apply Ent.tail)); done))) ?_
      (apply TA.one 2; kernel_rfl; exact rfl)
      (apply TL.append 0 (n := 0) (m := L.length) (cs := []) (news := clsC L); exact rfl; exact rfl; exact tb rfl; exact rfl; exact tb rfl; exact rfl; exact rfl; exact rfl)
      · exact fun _ h => own_row (n := 0) rfl (by decide) h
      · exact rfl
      · exact has_tls (has_tls hown)
      · exact clsC_one L
      · show (0 + L.length) * 56 ≤ _; omega
      · show 0 + L.length ≤ maxLen; unfold maxLen; omega
      · exact fun _ => (rfl : _ = _ :: _)
      intro B2 k2 hk2
      simp only [Nat.zero_add, List.nil_append] at hk2 ⊢
      refine TL.back (by (focus ((repeat (first | assumption | exact Ent.refl _ | apply Ent.tail)); done))) ?_
      refine TA.perm (.swap _ _ _) ?_
      refine TA.eqL ?_ (tail _ _ ⟨b129, B2, k2, hk2, rfl, rfl, rfl, rfl⟩)
      kernel_rfl
  rintro ρ5 _ ⟨b129, B2, k2, hk2, q15, q127, q129, rfl⟩
  refine TA.know (t := 15) (v := .pointer (some ⟨b15, 0, none⟩)) q15 (TA.know (t := 127) (v := .slice B2 L.length k2) q127 (TA.know (t := 129) (v := .slice (some ⟨b129, 0, none⟩) 1 1) q129 ?_))
  (apply TA.one 5; kernel_rfl; exact rfl)
  (apply TL.append 1; exact rfl; exact rfl; exact tb rfl; exact rfl; exact tb rfl; exact rfl; exact rfl; exact rfl)
  · exact fun _ h => h
  · exact rfl
  · exact has_src_row 0 rfl rfl
  · exact clsC_one [⟨⟨hp, hAA, hhc, hl⟩, DA, Cc, CL.take n⟩] |> fun h u hu => h u (by simp only [clsC, List.flatMap_cons, List.flatMap_nil, List.append_nil, Cl.cells]; rw [hDt]; exact hu)
  · show (L.length + 1) * 56 ≤ _; omega
  · show L.length + 1 ≤ maxLen; unfold maxLen; omega
  · exact fun _ => (rfl : _ = _ :: _ :: _)
  intro B3 k3 hk3
  have hl3 : (L ++ [(⟨⟨hp, hAA, hhc, hl⟩, DA, Cc, CL.take n⟩ : Cl)]).length = L.length + 1 := by simp
  rw [hcells, ← hl3]
  generalize hLL : L ++ [(⟨⟨hp, hAA, hhc, hl⟩, DA, Cc, CL.take n⟩ : Cl)] = LL at *
  refine TL.back (by (focus ((repeat (first | assumption | exact Ent.refl _ | apply Ent.tail)); done))) ?_
  (apply TA.one 6; kernel_rfl; exact rfl)
  (apply TL.callV; exact rfl; exact callB_of (by kernel_rfl); exact rfl; exact fun _ h => h)
  exact right_t B3 k3 LL _ ⟨has_at (up_src _ _ _ _) 1 rfl fun _ h => own_src h, fun c hc => ⟨Cl.ok_tl (Cl.ok_tl (Cl.ok_tl (Cl.ok_tl (hLd c hc).1))), (hLd c hc).2⟩⟩ (by omega)
  rintro v _ ⟨hv, rfl⟩
  have hv := rightIs_of hv hresd
  subst hv
  refine TL.back (by (focus ((repeat (first | assumption | exact Ent.refl _ | apply Ent.tail)); done))) ?_
  refine m_take (At.mk : At 7) ?_; refine m_take (At.mk : At 8) ?_; refine m_take (At.mk : At 9) ?_; refine m_take (At.mk : At 10) ?_; refine m_take (At.mk : At 11) ?_
  refine TA.done (by kernel_rfl) ?_
  refine m_run ?_
  (apply TL.callV; exact rfl; exact callB_of (by kernel_rfl); exact rfl; exact fun _ h => h)
  exact works_t _
  rintro _ _ ⟨rfl, rfl⟩
  refine m_run ?_
  (apply TK.retS1; exact rfl; exact rfl; (exact m_val))
  exact ⟨_, rfl, rfl, rfl⟩
  (repeat (first | exact List.Sublist.refl _ | apply List.Sublist.cons_cons | apply List.Sublist.cons))
end Go.Proofs.Ytndmjpceocecdaa.E
