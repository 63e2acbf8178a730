/- WireClauses, WireRules: walked. -/
import Derived.Test.YtokggdgagfmacaaXi
namespace Go.Proofs.Ytokggdgagfmacaa.E
open Go Go.RowKit Go.Proofs
attribute [local irreducible] TK TL TQ TA TB Fn PV
theorem sameLs_val : ∀ {l m : List Lt}, l.map litVal = m.map litVal → sameLs l m = true
  | [], [], _ => rfl
  | [], _ :: _, h => by cases h
  | _ :: _, [], h => by cases h
  | x :: l, y :: m, h => by
    rw [List.map_cons, List.map_cons] at h
    injection h with h1 h2
    injection h1 with h1 h3
    injection h3 with h3 h4
    simp only [sameLs, sameA]
    rw [h1, h3, h4, sameLs_val h2]
    simp
theorem sameC_val {a b : Cl} (h : clVal a = clVal b) : sameC a b = true := by
  injection h with h1 h2
  injection h1 with h1 h3
  unfold sameC sameA
  rw [h1, h3, sameLs_val h2]
  simp
theorem sameY_val {a b : Sy} (h : syVal a = syVal b) : sameY a b = true := by
  injection h with h1 h2
  injection h2 with h2 h3
  injection h3 with h3 h4
  unfold sameY sameA
  rw [h1, h2, h3, h4]
  simp
theorem sameCs_val : ∀ {l m : List Cd}, l.map cdVal = m.map cdVal → sameCs l m = true
  | [], [], _ => rfl
  | [], _ :: _, h => by cases h
  | _ :: _, [], h => by cases h
  | x :: l, y :: m, h => by
    rw [List.map_cons, List.map_cons] at h
    injection h with h1 h2
    injection h1 with h1 h3
    simp only [sameCs]
    rw [h1, sameY_val h3, sameCs_val h2]
    simp
theorem sameR_val {a b : Rl} (h : rlVal a = rlVal b) : sameR a b = true := by
  injection h with h1 h2
  unfold sameR
  rw [sameY_val h1, sameCs_val h2]
  rfl
theorem smallR_of {c : Rl} (h : bigR c = false) : c.small := by
  unfold bigR at h
  rw [Bool.or_eq_false_iff, Bool.or_eq_false_iff, decide_eq_false_iff_not, decide_eq_false_iff_not] at h
  refine ⟨by omega, by omega, fun x hx => ?_⟩
  have h1 := List.any_eq_false.1 h.2 x hx
  have h2 : ¬ 100 < x.y.a.l.length := by simpa using h1
  omega
theorem clB_len {c : Cl} (h : c.fit) (hm : mayC c = true) : (clB c).length ≤ 1000 := by
  obtain ⟨hm8, hmh, hms⟩ := mayC_inv hm
  have h1 := atmB_len h.1
  have h2 : (litsB c.l).length ≤ c.l.length * 37 := flatB_len _ fun x hx => litB_len (h.2 x hx) (hms x hx)
  simp only [clB, List.length_append, List.length_singleton]; omega
theorem rlB_len {c : Rl} (h : c.fit) (hm : mayR c = true) : (rlB c).length ≤ 1000 := by
  obtain ⟨hm8, hmh, hms⟩ := mayR_inv hm
  have h1 := sayB_len h.1
  have h2 : (cdsB c.l).length ≤ c.l.length * 43 := flatB_len _ fun x hx => cdB_len (h.2 x hx) (hms x hx)
  simp only [rlB, List.length_append, List.length_singleton]; omega
set_option maxRecDepth 100000 in
set_option maxHeartbeats 16000000 in
theorem wclauses_t (A B : Option Addr) (m c m' c' : Nat) (head b : List UInt8) (r : Cl) (at_ : Int) (Γ : List HP) (h1 : has Γ (srcAt 1 A m (bytesV head))) (h2 : has Γ (srcAt 1 B m' (bytesV b))) (hc' : m' ≤ c') (hf : r.ok Γ) (hfit : r.fit) :
    FnV Try.prog 4 [.slice A m c, .agg r.cells.toArray, .slice B m' c', .int .i64 at_] Γ fun v Γ' => v = .bool true ∧ Γ' = Γ := by
  refine Fn.enter Try.func4 rfl rfl rfl fun E => ?_
  refine TK.mem fun m0 hm0 => ?_
  obtain rfl := src_lenB (h1 m0 hm0)
  obtain rfl := src_lenB (h2 m0 hm0)
  clear hm0 m0
  obtain ⟨⟨x, next, e⟩, hT⟩ : ∃ z, tookC b at_ = z := ⟨_, rfl⟩
  by_cases hv1 : 4096 < head.length
  · refine m_run ?_
    (apply TL.box; exact rfl; exact rfl; (exact m_lst))
    intro b5
    refine TL.imp (Δ := row b5 [.int .u32 (r.h.p : Int), .slice r.h.A r.h.l.length r.h.c, .slice r.A r.l.length r.c] 45 :: Γ) (fun _ h => h) ?_
    refine m_run ?_
    (apply TL.callV; exact rfl; exact callB_of (by kernel_rfl); exact rfl; exact fun _ h => h)
    exact vast_t A head.length c _
    rintro _ _ ⟨rfl, rfl⟩
    rw [decide_eq_true hv1]
    refine m_run ?_
    (apply TL.callV; exact rfl; exact callB_of (by kernel_rfl); exact rfl; exact fun _ h => h)
    exact works6_t _
    rintro _ _ ⟨rfl, rfl⟩
    refine m_run ?_
    (apply TK.retS1; exact rfl; exact rfl; (exact m_val))
    · exact ⟨_, rfl, rfl, rfl⟩
    · (repeat (first | exact List.Sublist.refl _ | apply List.Sublist.cons_cons | apply List.Sublist.cons))
  by_cases hv2 : 4096 < b.length
  · refine m_run ?_
    (apply TL.box; exact rfl; exact rfl; (exact m_lst))
    intro b5
    refine TL.imp (Δ := row b5 [.int .u32 (r.h.p : Int), .slice r.h.A r.h.l.length r.h.c, .slice r.A r.l.length r.c] 45 :: Γ) (fun _ h => h) ?_
    refine m_run ?_
    (apply TL.callV; exact rfl; exact callB_of (by kernel_rfl); exact rfl; exact fun _ h => h)
    exact vast_t A head.length c _
    rintro _ _ ⟨rfl, rfl⟩
    rw [decide_eq_false hv1]
    refine m_run ?_
    (apply TL.callV; exact rfl; exact callB_of (by kernel_rfl); exact rfl; exact fun _ h => h)
    exact vast_t B b.length c' _
    rintro _ _ ⟨rfl, rfl⟩
    rw [decide_eq_true hv2]
    refine m_run ?_
    (apply TL.callV; exact rfl; exact callB_of (by kernel_rfl); exact rfl; exact fun _ h => h)
    exact works6_t _
    rintro _ _ ⟨rfl, rfl⟩
    refine m_run ?_
    (apply TK.retS1; exact rfl; exact rfl; (exact m_val))
    · exact ⟨_, rfl, rfl, rfl⟩
    · (repeat (first | exact List.Sublist.refl _ | apply List.Sublist.cons_cons | apply List.Sublist.cons))
  cases hb : bigC r with
  | true =>
    refine m_run ?_
    (apply TL.box; exact rfl; exact rfl; (exact m_lst))
    intro b5
    refine TL.imp (Δ := row b5 [.int .u32 (r.h.p : Int), .slice r.h.A r.h.l.length r.h.c, .slice r.A r.l.length r.c] 45 :: Γ) (fun _ h => h) ?_
    refine m_run ?_
    (apply TL.callV; exact rfl; exact callB_of (by kernel_rfl); exact rfl; exact fun _ h => h)
    exact vast_t A head.length c _
    rintro _ _ ⟨rfl, rfl⟩
    rw [decide_eq_false hv1]
    refine m_run ?_
    (apply TL.callV; exact rfl; exact callB_of (by kernel_rfl); exact rfl; exact fun _ h => h)
    exact vast_t B b.length c' _
    rintro _ _ ⟨rfl, rfl⟩
    rw [decide_eq_false hv2]
    refine m_run ?_
    (apply TL.callV; exact rfl; exact callB_of (by kernel_rfl); exact rfl; exact fun _ h => h)
    exact rbigC_t r _ (Cl.ok_tl hf)
    rintro _ _ ⟨rfl, rfl⟩
    rw [hb]
    refine m_run ?_
    (apply TL.callV; exact rfl; exact callB_of (by kernel_rfl); exact rfl; exact fun _ h => h)
    exact works6_t _
    rintro _ _ ⟨rfl, rfl⟩
    refine m_run ?_
    (apply TK.retS1; exact rfl; exact rfl; (exact m_val))
    · exact ⟨_, rfl, rfl, rfl⟩
    · (repeat (first | exact List.Sublist.refl _ | apply List.Sublist.cons_cons | apply List.Sublist.cons))
  | false =>
    have hsm : r.small := small_of hb
    refine m_run ?_
    (apply TL.box; exact rfl; exact rfl; (exact m_lst))
    intro b5
    refine TL.imp (Δ := row b5 [.int .u32 (r.h.p : Int), .slice r.h.A r.h.l.length r.h.c, .slice r.A r.l.length r.c] 45 :: Γ) (fun _ h => h) ?_
    refine m_run ?_
    (apply TL.callV; exact rfl; exact callB_of (by kernel_rfl); exact rfl; exact fun _ h => h)
    exact vast_t A head.length c _
    rintro _ _ ⟨rfl, rfl⟩
    rw [decide_eq_false hv1]
    refine m_run ?_
    (apply TL.callV; exact rfl; exact callB_of (by kernel_rfl); exact rfl; exact fun _ h => h)
    exact vast_t B b.length c' _
    rintro _ _ ⟨rfl, rfl⟩
    rw [decide_eq_false hv2]
    refine m_run ?_
    (apply TL.callV; exact rfl; exact callB_of (by kernel_rfl); exact rfl; exact fun _ h => h)
    exact rbigC_t r _ (Cl.ok_tl hf)
    rintro _ _ ⟨rfl, rfl⟩
    rw [hb]
    refine m_run ?_
    (apply TL.callV; exact rfl; exact callB_of (by kernel_rfl); exact rfl; exact fun _ h => h)
    exact roomy_t A head.length c head _ (by exact m_hsrc) (by omega)
    rintro _ _ ⟨g, rfl, rfl⟩
    refine m_run ?_
    (apply TL.callV; exact rfl; exact callB_of (by kernel_rfl); exact rfl; exact fun _ h => h)
    exact putclause_t (some ⟨g, 0, none⟩) head.length (head.length + 600) head r _ (has_rowB 0 rfl rfl) (Cl.ok_tl (Cl.ok_tl hf)) hfit hsm (by omega)
    intro v Γ' hput
    cases hm : mayC r with
    | true =>
      obtain ⟨hm8, hmh, hms⟩ := mayC_inv hm
      have hbl : (clB r).length ≤ 1000 := clB_len hfit hm
      obtain ⟨A1, c1, rfl, hc1, rfl⟩ := hput.got hm
      refine m_run ?_
      refine TK.drawS mixed rfl ?_
      refine m_take (At.mk : At 0) ?_; refine m_take (At.mk : At 1) ?_
      (apply TA.one 2; kernel_rfl; exact rfl)
      (apply TL.callV; exact rfl; exact callB_of (by kernel_rfl); exact rfl; exact fun _ h => h)
      exact kept_t (some ⟨g, 0, none⟩) A head.length c head _ (has_rowA 1 rfl (by simp)) (by exact m_hsrc) (by omega)
      rintro _ _ ⟨rfl, rfl⟩
      refine TL.back (by (focus ((repeat (first | assumption | exact Ent.refl _ | apply Ent.tail)); done))) ?_
      refine m_take (At.mk : At 3) ?_; refine m_take (At.mk : At 4) ?_; refine m_take (At.mk : At 5) ?_; refine m_take (At.mk : At 6) ?_; refine m_take (At.mk : At 7) ?_
      (apply TA.one 8; kernel_rfl; exact rfl)
      refine m_rrun ?_
      (apply TL.callV; exact rfl; exact callB_of (by kernel_rfl); exact rfl; exact fun _ h => h)
      exact rmay_t r _ (Cl.ok_tl (Cl.ok_tl (Cl.ok_tl hf))) hsm
      rintro _ _ ⟨rfl, rfl⟩
      rw [hm]
      refine TL.back (by (focus ((repeat (first | assumption | exact Ent.refl _ | apply Ent.tail)); done))) ?_
      refine m_take (At.mk : At 9) ?_; refine m_take (At.mk : At 10) ?_; refine m_take (At.mk : At 11) ?_; refine m_take (At.mk : At 12) ?_; refine m_take (At.mk : At 13) ?_; refine m_take (At.mk : At 14) ?_; refine m_take (At.mk : At 15) ?_; refine m_take (At.mk : At 16) ?_; refine m_take (At.mk : At 17) ?_; refine m_take (At.mk : At 18) ?_; refine m_take (At.mk : At 19) ?_; refine m_take (At.mk : At 20) ?_; refine m_take (At.mk : At 21) ?_; refine m_take (At.mk : At 22) ?_; refine m_take (At.mk : At 23) ?_; refine m_take (At.mk : At 24) ?_; refine m_take (At.mk : At 25) ?_; refine m_take (At.mk : At 26) ?_; refine m_take (At.mk : At 27) ?_; refine m_take (At.mk : At 28) ?_
      (apply TA.takeY (At.mk : At 29); exact rfl; exact rfl; exact rfl; exact rfl; exact rfl; kernel_rfl; ((focus ((repeat (first | assumption | exact Ent.refl _ | apply Ent.tail)); done))); (apply PV.convBS; exact rfl; exact tb rfl; exact rfl; exact tb rfl; exact rfl; exact tb rfl; exact rfl; (exact m_hsrc)))
      refine m_take (At.mk : At 30) ?_
      (apply TA.takeY (At.mk : At 31); exact rfl; exact rfl; exact rfl; exact rfl; exact rfl; kernel_rfl; ((focus ((repeat (first | assumption | exact Ent.refl _ | apply Ent.tail)); done))); (apply PV.convBS; exact rfl; exact tb rfl; exact rfl; exact tb rfl; exact rfl; exact tb rfl; exact rfl; (exact m_hsrc)))
      refine m_take (At.mk : At 32) ?_
      (apply TA.one 33; kernel_rfl; exact rfl)
      refine m_rrun ?_
      (apply TL.callV; exact rfl; exact callB_of (by kernel_rfl); exact rfl; exact fun _ h => h)
      exact rclause_t r _ (Cl.ok_tl (Cl.ok_tl (Cl.ok_tl hf))) hfit ⟨Nat.le_trans hm8 (by decide), Nat.le_trans hmh (by decide), fun x hx => Nat.le_trans (hms x hx) (by decide)⟩
      rintro _ _ ⟨A2, c2, rfl, hc2, rfl⟩
      refine TL.back (by (focus ((repeat (first | assumption | exact Ent.refl _ | apply Ent.tail)); done))) ?_
      (apply TA.one 34; kernel_rfl; exact rfl)
      refine m_rrun ?_
      refine TL.back (by (focus ((repeat (first | assumption | exact Ent.refl _ | apply Ent.tail)); done))) ?_
      (apply TA.takeY (At.mk : At 35); exact rfl; exact rfl; exact rfl; exact rfl; exact rfl; kernel_rfl; ((focus ((repeat (first | assumption | exact Ent.refl _ | apply Ent.tail)); done))); (apply PV.catS (a := head) (b := clB r); exact rfl; exact rfl; omega))
      refine m_take (At.mk : At 36) ?_
      refine TA.isF 73 rfl (by simp) ?_
      refine m_take (At.mk : At 37) ?_; refine m_take (At.mk : At 38) ?_
      refine TA.done (by kernel_rfl) ?_
      refine m_run ?_
      (apply TL.callV; exact rfl; exact callB_of (by kernel_rfl); exact rfl; exact fun _ h => h)
      exact takeclause_t B b.length c' b at_ _ (by exact m_hsrc) hc' (by omega)
      rw [hT]
      rintro _ _ ⟨C1, hC1, hg1, rfl, rfl⟩
      refine m_run ?_
      (apply TL.alloc; exact rfl; exact tb rfl; exact (rfl : _ = [_, _, _]))
      intro b12
      refine m_run ?_
      (apply TL.callV; exact rfl; exact callB_of (by kernel_rfl); exact rfl; exact fun _ h => h)
      exact rtakeclause_t B b.length c' b at_ _ (by exact m_hsrc) hc' (by omega)
      rw [hT]
      rintro _ _ ⟨C2, hC2, hg2, rfl, rfl⟩
      refine m_run ?_
      (apply TL.alloc; exact rfl; exact tb rfl; exact (rfl : _ = [_, _, _]))
      intro b15
      refine TL.imp (Δ := row b15 [.int .u32 0, .slice none 0 0, .slice none 0 0] 45 :: own 86 3 (.slice C2.A C2.l.length C2.c) C2.l.length (ltsC C2.l) :: alls litH C2.l :: ownT C2.h.A C2.h.c C2.h.l :: row b12 [.int .u32 (C1.h.p : Int), .slice C1.h.A C1.h.l.length C1.h.c, .slice C1.A C1.l.length C1.c] 45 :: own 86 3 (.slice C1.A C1.l.length C1.c) C1.l.length (ltsC C1.l) :: alls litH C1.l :: ownT C1.h.A C1.h.c C1.h.l :: _) (fun _ h => h) ?_
      refine m_run ?_
      (apply TL.callV; exact rfl; exact callB_of (by kernel_rfl); exact rfl; exact fun _ h => h)
      exact rsame_t C1 C2 _ (cl_own 5 6 7 rfl rfl rfl hg1) (cl_own 1 2 3 rfl rfl rfl hg2) hg1.small
      rintro _ _ ⟨rfl, rfl⟩
      rw [sameC_val (hC1.trans hC2.symm)]
      refine m_run ?_
      (apply TL.callV; exact rfl; exact callB_of (by kernel_rfl); exact rfl; exact fun _ h => h)
      exact works6_t _
      rintro _ _ ⟨rfl, rfl⟩
      refine m_run ?_
      (apply TK.retS1; exact rfl; exact rfl; (exact m_val))
      · exact ⟨_, rfl, rfl, rfl⟩
      · (repeat (first | exact List.Sublist.refl _ | apply List.Sublist.cons_cons | apply List.Sublist.cons))
    | false =>
      obtain ⟨rfl, rfl⟩ := hput.lost hm
      refine m_run ?_
      refine TK.drawS mixed rfl ?_
      refine m_take (At.mk : At 0) ?_; refine m_take (At.mk : At 1) ?_
      (apply TA.one 2; kernel_rfl; exact rfl)
      (apply TL.callV; exact rfl; exact callB_of (by kernel_rfl); exact rfl; exact fun _ h => h)
      exact kept_t (some ⟨g, 0, none⟩) A head.length c head _ (has_rowA 0 rfl (by simp)) (by exact m_hsrc) (by omega)
      rintro _ _ ⟨rfl, rfl⟩
      refine TL.back (by (focus ((repeat (first | assumption | exact Ent.refl _ | apply Ent.tail)); done))) ?_
      refine m_take (At.mk : At 3) ?_; refine m_take (At.mk : At 4) ?_; refine m_take (At.mk : At 5) ?_; refine m_take (At.mk : At 6) ?_; refine m_take (At.mk : At 7) ?_
      (apply TA.one 8; kernel_rfl; exact rfl)
      refine m_rrun ?_
      (apply TL.callV; exact rfl; exact callB_of (by kernel_rfl); exact rfl; exact fun _ h => h)
      exact rmay_t r _ (Cl.ok_tl (Cl.ok_tl hf)) hsm
      rintro _ _ ⟨rfl, rfl⟩
      rw [hm]
      refine TL.back (by (focus ((repeat (first | assumption | exact Ent.refl _ | apply Ent.tail)); done))) ?_
      refine m_take (At.mk : At 9) ?_; refine m_take (At.mk : At 10) ?_; refine m_take (At.mk : At 11) ?_; refine m_take (At.mk : At 12) ?_; refine m_take (At.mk : At 13) ?_; refine m_take (At.mk : At 14) ?_; refine m_take (At.mk : At 15) ?_; refine m_take (At.mk : At 16) ?_; refine m_take (At.mk : At 17) ?_; refine m_take (At.mk : At 18) ?_; refine m_take (At.mk : At 19) ?_; refine m_take (At.mk : At 20) ?_; refine m_take (At.mk : At 21) ?_; refine m_take (At.mk : At 22) ?_; refine m_take (At.mk : At 23) ?_; refine m_take (At.mk : At 24) ?_; refine m_take (At.mk : At 25) ?_; refine m_take (At.mk : At 26) ?_; refine m_take (At.mk : At 27) ?_; refine m_take (At.mk : At 28) ?_
      refine m_take (At.mk : At 29) ?_; refine m_take (At.mk : At 30) ?_; refine m_take (At.mk : At 31) ?_; refine m_take (At.mk : At 32) ?_; refine m_take (At.mk : At 33) ?_; refine m_take (At.mk : At 34) ?_; refine m_take (At.mk : At 35) ?_; refine m_take (At.mk : At 36) ?_; refine m_take (At.mk : At 37) ?_; refine m_take (At.mk : At 38) ?_
      refine TA.done (by kernel_rfl) ?_
      refine m_run ?_
      (apply TL.callV; exact rfl; exact callB_of (by kernel_rfl); exact rfl; exact fun _ h => h)
      exact takeclause_t B b.length c' b at_ _ (by exact m_hsrc) hc' (by omega)
      rw [hT]
      rintro _ _ ⟨C1, hC1, hg1, rfl, rfl⟩
      refine m_run ?_
      (apply TL.alloc; exact rfl; exact tb rfl; exact (rfl : _ = [_, _, _]))
      intro b12
      refine m_run ?_
      (apply TL.callV; exact rfl; exact callB_of (by kernel_rfl); exact rfl; exact fun _ h => h)
      exact rtakeclause_t B b.length c' b at_ _ (by exact m_hsrc) hc' (by omega)
      rw [hT]
      rintro _ _ ⟨C2, hC2, hg2, rfl, rfl⟩
      refine m_run ?_
      (apply TL.alloc; exact rfl; exact tb rfl; exact (rfl : _ = [_, _, _]))
      intro b15
      refine TL.imp (Δ := row b15 [.int .u32 0, .slice none 0 0, .slice none 0 0] 45 :: own 86 3 (.slice C2.A C2.l.length C2.c) C2.l.length (ltsC C2.l) :: alls litH C2.l :: ownT C2.h.A C2.h.c C2.h.l :: row b12 [.int .u32 (C1.h.p : Int), .slice C1.h.A C1.h.l.length C1.h.c, .slice C1.A C1.l.length C1.c] 45 :: own 86 3 (.slice C1.A C1.l.length C1.c) C1.l.length (ltsC C1.l) :: alls litH C1.l :: ownT C1.h.A C1.h.c C1.h.l :: _) (fun _ h => h) ?_
      refine m_run ?_
      (apply TL.callV; exact rfl; exact callB_of (by kernel_rfl); exact rfl; exact fun _ h => h)
      exact rsame_t C1 C2 _ (cl_own 5 6 7 rfl rfl rfl hg1) (cl_own 1 2 3 rfl rfl rfl hg2) hg1.small
      rintro _ _ ⟨rfl, rfl⟩
      rw [sameC_val (hC1.trans hC2.symm)]
      refine m_run ?_
      (apply TL.callV; exact rfl; exact callB_of (by kernel_rfl); exact rfl; exact fun _ h => h)
      exact works6_t _
      rintro _ _ ⟨rfl, rfl⟩
      refine m_run ?_
      (apply TK.retS1; exact rfl; exact rfl; (exact m_val))
      · exact ⟨_, rfl, rfl, rfl⟩
      · (repeat (first | exact List.Sublist.refl _ | apply List.Sublist.cons_cons | apply List.Sublist.cons))
set_option maxRecDepth 100000 in
set_option maxHeartbeats 16000000 in
theorem wrules_t (A B : Option Addr) (m c m' c' : Nat) (head b : List UInt8) (r : Rl) (at_ : Int) (Γ : List HP) (h1 : has Γ (srcAt 1 A m (bytesV head))) (h2 : has Γ (srcAt 1 B m' (bytesV b))) (hc' : m' ≤ c') (hf : r.ok Γ) (hfit : r.fit) :
    FnV Try.prog 5 [.slice A m c, .agg r.cells.toArray, .slice B m' c', .int .i64 at_] Γ fun v Γ' => v = .bool true ∧ Γ' = Γ := by
  refine Fn.enter Try.func5 rfl rfl rfl fun E => ?_
  refine TK.mem fun m0 hm0 => ?_
  obtain rfl := src_lenB (h1 m0 hm0)
  obtain rfl := src_lenB (h2 m0 hm0)
  clear hm0 m0
  obtain ⟨⟨x, next, e⟩, hT⟩ : ∃ z, tookR b at_ = z := ⟨_, rfl⟩
  by_cases hv1 : 4096 < head.length
  · refine m_run ?_
    (apply TL.box; exact rfl; exact rfl; (exact m_lst))
    intro b5
    refine TL.imp (Δ := row b5 [.bool r.h.s, .bool r.h.w.v, .int .u32 (r.h.w.n : Int), .int .u32 (r.h.a.p : Int), .slice r.h.a.A r.h.a.l.length r.h.a.c, .slice r.A r.l.length r.c] 59 :: Γ) (fun _ h => h) ?_
    refine m_run ?_
    (apply TL.callV; exact rfl; exact callB_of (by kernel_rfl); exact rfl; exact fun _ h => h)
    exact vast_t A head.length c _
    rintro _ _ ⟨rfl, rfl⟩
    rw [decide_eq_true hv1]
    refine m_run ?_
    (apply TL.callV; exact rfl; exact callB_of (by kernel_rfl); exact rfl; exact fun _ h => h)
    exact works6_t _
    rintro _ _ ⟨rfl, rfl⟩
    refine m_run ?_
    (apply TK.retS1; exact rfl; exact rfl; (exact m_val))
    · exact ⟨_, rfl, rfl, rfl⟩
    · (repeat (first | exact List.Sublist.refl _ | apply List.Sublist.cons_cons | apply List.Sublist.cons))
  by_cases hv2 : 4096 < b.length
  · refine m_run ?_
    (apply TL.box; exact rfl; exact rfl; (exact m_lst))
    intro b5
    refine TL.imp (Δ := row b5 [.bool r.h.s, .bool r.h.w.v, .int .u32 (r.h.w.n : Int), .int .u32 (r.h.a.p : Int), .slice r.h.a.A r.h.a.l.length r.h.a.c, .slice r.A r.l.length r.c] 59 :: Γ) (fun _ h => h) ?_
    refine m_run ?_
    (apply TL.callV; exact rfl; exact callB_of (by kernel_rfl); exact rfl; exact fun _ h => h)
    exact vast_t A head.length c _
    rintro _ _ ⟨rfl, rfl⟩
    rw [decide_eq_false hv1]
    refine m_run ?_
    (apply TL.callV; exact rfl; exact callB_of (by kernel_rfl); exact rfl; exact fun _ h => h)
    exact vast_t B b.length c' _
    rintro _ _ ⟨rfl, rfl⟩
    rw [decide_eq_true hv2]
    refine m_run ?_
    (apply TL.callV; exact rfl; exact callB_of (by kernel_rfl); exact rfl; exact fun _ h => h)
    exact works6_t _
    rintro _ _ ⟨rfl, rfl⟩
    refine m_run ?_
    (apply TK.retS1; exact rfl; exact rfl; (exact m_val))
    · exact ⟨_, rfl, rfl, rfl⟩
    · (repeat (first | exact List.Sublist.refl _ | apply List.Sublist.cons_cons | apply List.Sublist.cons))
  cases hb : bigR r with
  | true =>
    refine m_run ?_
    (apply TL.box; exact rfl; exact rfl; (exact m_lst))
    intro b5
    refine TL.imp (Δ := row b5 [.bool r.h.s, .bool r.h.w.v, .int .u32 (r.h.w.n : Int), .int .u32 (r.h.a.p : Int), .slice r.h.a.A r.h.a.l.length r.h.a.c, .slice r.A r.l.length r.c] 59 :: Γ) (fun _ h => h) ?_
    refine m_run ?_
    (apply TL.callV; exact rfl; exact callB_of (by kernel_rfl); exact rfl; exact fun _ h => h)
    exact vast_t A head.length c _
    rintro _ _ ⟨rfl, rfl⟩
    rw [decide_eq_false hv1]
    refine m_run ?_
    (apply TL.callV; exact rfl; exact callB_of (by kernel_rfl); exact rfl; exact fun _ h => h)
    exact vast_t B b.length c' _
    rintro _ _ ⟨rfl, rfl⟩
    rw [decide_eq_false hv2]
    refine m_run ?_
    (apply TL.callV; exact rfl; exact callB_of (by kernel_rfl); exact rfl; exact fun _ h => h)
    exact rbigR_t r _ (Rl.ok_tl hf)
    rintro _ _ ⟨rfl, rfl⟩
    rw [hb]
    refine m_run ?_
    (apply TL.callV; exact rfl; exact callB_of (by kernel_rfl); exact rfl; exact fun _ h => h)
    exact works6_t _
    rintro _ _ ⟨rfl, rfl⟩
    refine m_run ?_
    (apply TK.retS1; exact rfl; exact rfl; (exact m_val))
    · exact ⟨_, rfl, rfl, rfl⟩
    · (repeat (first | exact List.Sublist.refl _ | apply List.Sublist.cons_cons | apply List.Sublist.cons))
  | false =>
    have hsm : r.small := smallR_of hb
    refine m_run ?_
    (apply TL.box; exact rfl; exact rfl; (exact m_lst))
    intro b5
    refine TL.imp (Δ := row b5 [.bool r.h.s, .bool r.h.w.v, .int .u32 (r.h.w.n : Int), .int .u32 (r.h.a.p : Int), .slice r.h.a.A r.h.a.l.length r.h.a.c, .slice r.A r.l.length r.c] 59 :: Γ) (fun _ h => h) ?_
    refine m_run ?_
    (apply TL.callV; exact rfl; exact callB_of (by kernel_rfl); exact rfl; exact fun _ h => h)
    exact vast_t A head.length c _
    rintro _ _ ⟨rfl, rfl⟩
    rw [decide_eq_false hv1]
    refine m_run ?_
    (apply TL.callV; exact rfl; exact callB_of (by kernel_rfl); exact rfl; exact fun _ h => h)
    exact vast_t B b.length c' _
    rintro _ _ ⟨rfl, rfl⟩
    rw [decide_eq_false hv2]
    refine m_run ?_
    (apply TL.callV; exact rfl; exact callB_of (by kernel_rfl); exact rfl; exact fun _ h => h)
    exact rbigR_t r _ (Rl.ok_tl hf)
    rintro _ _ ⟨rfl, rfl⟩
    rw [hb]
    refine m_run ?_
    (apply TL.callV; exact rfl; exact callB_of (by kernel_rfl); exact rfl; exact fun _ h => h)
    exact roomy_t A head.length c head _ (by exact m_hsrc) (by omega)
    rintro _ _ ⟨g, rfl, rfl⟩
    refine m_run ?_
    (apply TL.callV; exact rfl; exact callB_of (by kernel_rfl); exact rfl; exact fun _ h => h)
    exact putrule_t (some ⟨g, 0, none⟩) head.length (head.length + 600) head r _ (has_rowB 0 rfl rfl) (Rl.ok_tl (Rl.ok_tl hf)) hfit hsm (by omega)
    intro v Γ' hput
    cases hm : mayR r with
    | true =>
      obtain ⟨hm8, hmh, hms⟩ := mayR_inv hm
      have hbl : (rlB r).length ≤ 1000 := rlB_len hfit hm
      obtain ⟨A1, c1, rfl, hc1, rfl⟩ := hput.got hm
      refine m_run ?_
      refine TK.drawS mixed rfl ?_
      refine m_take (At.mk : At 0) ?_; refine m_take (At.mk : At 2) ?_
      (apply TA.one 1; kernel_rfl; exact rfl)
      (apply TL.callV; exact rfl; exact callB_of (by kernel_rfl); exact rfl; exact fun _ h => h)
      exact wmay_t r _ (Rl.ok_tl (Rl.ok_tl (Rl.ok_tl hf))) hsm
      rintro _ _ ⟨rfl, rfl⟩
      rw [hm]
      refine TL.back (by (focus ((repeat (first | assumption | exact Ent.refl _ | apply Ent.tail)); done))) ?_
      (apply TA.one 3; kernel_rfl; exact rfl)
      (apply TL.callV; exact rfl; exact callB_of (by kernel_rfl); exact rfl; exact fun _ h => h)
      exact rmayR_t r _ (Rl.ok_tl (Rl.ok_tl (Rl.ok_tl hf))) hsm
      rintro _ _ ⟨rfl, rfl⟩
      rw [hm]
      refine TL.back (by (focus ((repeat (first | assumption | exact Ent.refl _ | apply Ent.tail)); done))) ?_
      refine m_take (At.mk : At 4) ?_; refine m_take (At.mk : At 5) ?_; refine m_take (At.mk : At 6) ?_; refine m_take (At.mk : At 7) ?_
      (apply TA.one 8; kernel_rfl; exact rfl)
      refine m_rrun ?_
      (apply TL.callV; exact rfl; exact callB_of (by kernel_rfl); exact rfl; exact fun _ h => h)
      exact kept_t (some ⟨g, 0, none⟩) A head.length c head _ (has_rowA 1 rfl (by simp)) (by exact m_hsrc) (by omega)
      rintro _ _ ⟨rfl, rfl⟩
      refine TL.back (by (focus ((repeat (first | assumption | exact Ent.refl _ | apply Ent.tail)); done))) ?_
      refine m_take (At.mk : At 9) ?_; refine m_take (At.mk : At 10) ?_; refine m_take (At.mk : At 11) ?_; refine m_take (At.mk : At 12) ?_; refine m_take (At.mk : At 13) ?_; refine m_take (At.mk : At 14) ?_
      (apply TA.one 15; kernel_rfl; exact rfl)
      refine m_rrun ?_
      (apply TL.callV; exact rfl; exact callB_of (by kernel_rfl); exact rfl; exact fun _ h => h)
      exact rmayR_t r _ (Rl.ok_tl (Rl.ok_tl (Rl.ok_tl hf))) hsm
      rintro _ _ ⟨rfl, rfl⟩
      rw [hm]
      refine TL.back (by (focus ((repeat (first | assumption | exact Ent.refl _ | apply Ent.tail)); done))) ?_
      refine m_take (At.mk : At 16) ?_; refine m_take (At.mk : At 17) ?_; refine m_take (At.mk : At 18) ?_; refine m_take (At.mk : At 19) ?_; refine m_take (At.mk : At 20) ?_; refine m_take (At.mk : At 21) ?_; refine m_take (At.mk : At 22) ?_; refine m_take (At.mk : At 23) ?_; refine m_take (At.mk : At 24) ?_; refine m_take (At.mk : At 25) ?_; refine m_take (At.mk : At 26) ?_; refine m_take (At.mk : At 27) ?_; refine m_take (At.mk : At 28) ?_; refine m_take (At.mk : At 29) ?_; refine m_take (At.mk : At 30) ?_; refine m_take (At.mk : At 31) ?_; refine m_take (At.mk : At 32) ?_; refine m_take (At.mk : At 33) ?_; refine m_take (At.mk : At 34) ?_; refine m_take (At.mk : At 35) ?_
      (apply TA.takeY (At.mk : At 36); exact rfl; exact rfl; exact rfl; exact rfl; exact rfl; kernel_rfl; ((focus ((repeat (first | assumption | exact Ent.refl _ | apply Ent.tail)); done))); (apply PV.convBS; exact rfl; exact tb rfl; exact rfl; exact tb rfl; exact rfl; exact tb rfl; exact rfl; (exact m_hsrc)))
      refine m_take (At.mk : At 37) ?_
      (apply TA.takeY (At.mk : At 38); exact rfl; exact rfl; exact rfl; exact rfl; exact rfl; kernel_rfl; ((focus ((repeat (first | assumption | exact Ent.refl _ | apply Ent.tail)); done))); (apply PV.convBS; exact rfl; exact tb rfl; exact rfl; exact tb rfl; exact rfl; exact tb rfl; exact rfl; (exact m_hsrc)))
      refine m_take (At.mk : At 39) ?_
      (apply TA.one 40; kernel_rfl; exact rfl)
      refine m_rrun ?_
      (apply TL.callV; exact rfl; exact callB_of (by kernel_rfl); exact rfl; exact fun _ h => h)
      exact rrule_t r _ (Rl.ok_tl (Rl.ok_tl (Rl.ok_tl hf))) hfit ⟨Nat.le_trans hm8 (by decide), Nat.le_trans hmh (by decide), fun x hx => Nat.le_trans (hms x hx) (by decide)⟩
      rintro _ _ ⟨A2, c2, rfl, hc2, rfl⟩
      refine TL.back (by (focus ((repeat (first | assumption | exact Ent.refl _ | apply Ent.tail)); done))) ?_
      (apply TA.one 41; kernel_rfl; exact rfl)
      refine m_rrun ?_
      refine TL.back (by (focus ((repeat (first | assumption | exact Ent.refl _ | apply Ent.tail)); done))) ?_
      (apply TA.takeY (At.mk : At 42); exact rfl; exact rfl; exact rfl; exact rfl; exact rfl; kernel_rfl; ((focus ((repeat (first | assumption | exact Ent.refl _ | apply Ent.tail)); done))); (apply PV.catS (a := head) (b := rlB r); exact rfl; exact rfl; omega))
      refine m_take (At.mk : At 43) ?_
      refine TA.isF 80 rfl (by simp) ?_
      refine m_take (At.mk : At 44) ?_; refine m_take (At.mk : At 45) ?_
      refine TA.done (by kernel_rfl) ?_
      refine m_run ?_
      (apply TL.callV; exact rfl; exact callB_of (by kernel_rfl); exact rfl; exact fun _ h => h)
      exact takerule_t B b.length c' b at_ _ (by exact m_hsrc) hc' (by omega)
      rw [hT]
      rintro _ _ ⟨C1, hC1, hg1, rfl, rfl⟩
      refine m_run ?_
      (apply TL.alloc; exact rfl; exact tb rfl; exact (rfl : _ = [_, _, _, _, _, _]))
      intro b12
      refine m_run ?_
      (apply TL.callV; exact rfl; exact callB_of (by kernel_rfl); exact rfl; exact fun _ h => h)
      exact rtakerule_t B b.length c' b at_ _ (by exact m_hsrc) hc' (by omega)
      rw [hT]
      rintro _ _ ⟨C2, hC2, hg2, rfl, rfl⟩
      refine m_run ?_
      (apply TL.alloc; exact rfl; exact tb rfl; exact (rfl : _ = [_, _, _, _, _, _]))
      intro b15
      refine TL.imp (Δ := row b15 [.bool false, .bool false, .int .u32 0, .int .u32 0, .slice none 0 0, .slice none 0 0] 59 :: own 111 6 (.slice C2.A C2.l.length C2.c) C2.l.length (cdsC C2.l) :: alls cdH C2.l :: ownT C2.h.a.A C2.h.a.c C2.h.a.l :: row b12 [.bool C1.h.s, .bool C1.h.w.v, .int .u32 (C1.h.w.n : Int), .int .u32 (C1.h.a.p : Int), .slice C1.h.a.A C1.h.a.l.length C1.h.a.c, .slice C1.A C1.l.length C1.c] 59 :: own 111 6 (.slice C1.A C1.l.length C1.c) C1.l.length (cdsC C1.l) :: alls cdH C1.l :: ownT C1.h.a.A C1.h.a.c C1.h.a.l :: _) (fun _ h => h) ?_
      refine m_run ?_
      (apply TL.callV; exact rfl; exact callB_of (by kernel_rfl); exact rfl; exact fun _ h => h)
      exact rsameR_t C1 C2 _ (rl_own 5 6 7 rfl rfl rfl hg1) (rl_own 1 2 3 rfl rfl rfl hg2) hg1.small
      rintro _ _ ⟨rfl, rfl⟩
      rw [sameR_val (hC1.trans hC2.symm)]
      refine m_run ?_
      (apply TL.callV; exact rfl; exact callB_of (by kernel_rfl); exact rfl; exact fun _ h => h)
      exact works6_t _
      rintro _ _ ⟨rfl, rfl⟩
      refine m_run ?_
      (apply TK.retS1; exact rfl; exact rfl; (exact m_val))
      · exact ⟨_, rfl, rfl, rfl⟩
      · (repeat (first | exact List.Sublist.refl _ | apply List.Sublist.cons_cons | apply List.Sublist.cons))
    | false =>
      obtain ⟨rfl, rfl⟩ := hput.lost hm
      refine m_run ?_
      refine TK.drawS mixed rfl ?_
      refine m_take (At.mk : At 0) ?_; refine m_take (At.mk : At 2) ?_
      (apply TA.one 1; kernel_rfl; exact rfl)
      (apply TL.callV; exact rfl; exact callB_of (by kernel_rfl); exact rfl; exact fun _ h => h)
      exact wmay_t r _ (Rl.ok_tl (Rl.ok_tl hf)) hsm
      rintro _ _ ⟨rfl, rfl⟩
      rw [hm]
      refine TL.back (by (focus ((repeat (first | assumption | exact Ent.refl _ | apply Ent.tail)); done))) ?_
      (apply TA.one 3; kernel_rfl; exact rfl)
      (apply TL.callV; exact rfl; exact callB_of (by kernel_rfl); exact rfl; exact fun _ h => h)
      exact rmayR_t r _ (Rl.ok_tl (Rl.ok_tl hf)) hsm
      rintro _ _ ⟨rfl, rfl⟩
      rw [hm]
      refine TL.back (by (focus ((repeat (first | assumption | exact Ent.refl _ | apply Ent.tail)); done))) ?_
      refine m_take (At.mk : At 4) ?_; refine m_take (At.mk : At 5) ?_; refine m_take (At.mk : At 6) ?_; refine m_take (At.mk : At 7) ?_
      (apply TA.one 8; kernel_rfl; exact rfl)
      refine m_rrun ?_
      (apply TL.callV; exact rfl; exact callB_of (by kernel_rfl); exact rfl; exact fun _ h => h)
      exact kept_t (some ⟨g, 0, none⟩) A head.length c head _ (has_rowA 0 rfl (by simp)) (by exact m_hsrc) (by omega)
      rintro _ _ ⟨rfl, rfl⟩
      refine TL.back (by (focus ((repeat (first | assumption | exact Ent.refl _ | apply Ent.tail)); done))) ?_
      refine m_take (At.mk : At 9) ?_; refine m_take (At.mk : At 10) ?_; refine m_take (At.mk : At 11) ?_; refine m_take (At.mk : At 12) ?_; refine m_take (At.mk : At 13) ?_; refine m_take (At.mk : At 14) ?_
      (apply TA.one 15; kernel_rfl; exact rfl)
      refine m_rrun ?_
      (apply TL.callV; exact rfl; exact callB_of (by kernel_rfl); exact rfl; exact fun _ h => h)
      exact rmayR_t r _ (Rl.ok_tl (Rl.ok_tl hf)) hsm
      rintro _ _ ⟨rfl, rfl⟩
      rw [hm]
      refine TL.back (by (focus ((repeat (first | assumption | exact Ent.refl _ | apply Ent.tail)); done))) ?_
      refine m_take (At.mk : At 16) ?_; refine m_take (At.mk : At 17) ?_; refine m_take (At.mk : At 18) ?_; refine m_take (At.mk : At 19) ?_; refine m_take (At.mk : At 20) ?_; refine m_take (At.mk : At 21) ?_; refine m_take (At.mk : At 22) ?_; refine m_take (At.mk : At 23) ?_; refine m_take (At.mk : At 24) ?_; refine m_take (At.mk : At 25) ?_; refine m_take (At.mk : At 26) ?_; refine m_take (At.mk : At 27) ?_; refine m_take (At.mk : At 28) ?_; refine m_take (At.mk : At 29) ?_; refine m_take (At.mk : At 30) ?_; refine m_take (At.mk : At 31) ?_; refine m_take (At.mk : At 32) ?_; refine m_take (At.mk : At 33) ?_; refine m_take (At.mk : At 34) ?_; refine m_take (At.mk : At 35) ?_
      refine m_take (At.mk : At 36) ?_; refine m_take (At.mk : At 37) ?_; refine m_take (At.mk : At 38) ?_; refine m_take (At.mk : At 39) ?_; refine m_take (At.mk : At 40) ?_; refine m_take (At.mk : At 41) ?_; refine m_take (At.mk : At 42) ?_; refine m_take (At.mk : At 43) ?_; refine m_take (At.mk : At 44) ?_; refine m_take (At.mk : At 45) ?_
      refine TA.done (by kernel_rfl) ?_
      refine m_run ?_
      (apply TL.callV; exact rfl; exact callB_of (by kernel_rfl); exact rfl; exact fun _ h => h)
      exact takerule_t B b.length c' b at_ _ (by exact m_hsrc) hc' (by omega)
      rw [hT]
      rintro _ _ ⟨C1, hC1, hg1, rfl, rfl⟩
      refine m_run ?_
      (apply TL.alloc; exact rfl; exact tb rfl; exact (rfl : _ = [_, _, _, _, _, _]))
      intro b12
      refine m_run ?_
      (apply TL.callV; exact rfl; exact callB_of (by kernel_rfl); exact rfl; exact fun _ h => h)
      exact rtakerule_t B b.length c' b at_ _ (by exact m_hsrc) hc' (by omega)
      rw [hT]
      rintro _ _ ⟨C2, hC2, hg2, rfl, rfl⟩
      refine m_run ?_
      (apply TL.alloc; exact rfl; exact tb rfl; exact (rfl : _ = [_, _, _, _, _, _]))
      intro b15
      refine TL.imp (Δ := row b15 [.bool false, .bool false, .int .u32 0, .int .u32 0, .slice none 0 0, .slice none 0 0] 59 :: own 111 6 (.slice C2.A C2.l.length C2.c) C2.l.length (cdsC C2.l) :: alls cdH C2.l :: ownT C2.h.a.A C2.h.a.c C2.h.a.l :: row b12 [.bool C1.h.s, .bool C1.h.w.v, .int .u32 (C1.h.w.n : Int), .int .u32 (C1.h.a.p : Int), .slice C1.h.a.A C1.h.a.l.length C1.h.a.c, .slice C1.A C1.l.length C1.c] 59 :: own 111 6 (.slice C1.A C1.l.length C1.c) C1.l.length (cdsC C1.l) :: alls cdH C1.l :: ownT C1.h.a.A C1.h.a.c C1.h.a.l :: _) (fun _ h => h) ?_
      refine m_run ?_
      (apply TL.callV; exact rfl; exact callB_of (by kernel_rfl); exact rfl; exact fun _ h => h)
      exact rsameR_t C1 C2 _ (rl_own 5 6 7 rfl rfl rfl hg1) (rl_own 1 2 3 rfl rfl rfl hg2) hg1.small
      rintro _ _ ⟨rfl, rfl⟩
      rw [sameR_val (hC1.trans hC2.symm)]
      refine m_run ?_
      (apply TL.callV; exact rfl; exact callB_of (by kernel_rfl); exact rfl; exact fun _ h => h)
      exact works6_t _
      rintro _ _ ⟨rfl, rfl⟩
      refine m_run ?_
      (apply TK.retS1; exact rfl; exact rfl; (exact m_val))
      · exact ⟨_, rfl, rfl, rfl⟩
      · (repeat (first | exact List.Sublist.refl _ | apply List.Sublist.cons_cons | apply List.Sublist.cons))
end Go.Proofs.Ytokggdgagfmacaa.E
