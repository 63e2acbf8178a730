/- WireFacts: walked. -/
import Derived.Test.YtokggdgagfmacaaXi
namespace Go.Proofs.Ytokggdgagfmacaa.E
open Go Go.RowKit Go.Proofs
section
/- WireFacts: walked. -/
attribute [local irreducible] TK TL TQ TA TB Fn PV
theorem fctS_le {l : List UInt8} {k k' p : Nat} {xs : List Nat} (h : fctS l k = some ((p, xs), k')) : p ≤ 4294967295 ∧ (∀ x ∈ xs, x ≤ 4294967295) ∧ xs.length ≤ 6 ∧ k' ≤ l.length := by
  unfold fctS at h
  rw [Option.bind_eq_some_iff] at h
  obtain ⟨⟨p1, k1⟩, h1, h⟩ := h
  rw [Option.bind_eq_some_iff] at h
  obtain ⟨⟨n, k2⟩, h2, h⟩ := h
  rw [Option.map_eq_some_iff] at h
  obtain ⟨⟨ys, k3⟩, h3, h4⟩ := h
  injection h4 with h4 h5
  injection h4 with h6 h7
  subst h6; subst h7; subst h5
  have := rep_all (p := fun x : Nat => x ≤ 4294967295) (m := l.length) (fun _ _ _ h => numS_le h) (octS_le h2).2 h3
  exact ⟨(numS_le h1).1, this.1, by rw [rep_len h3]; exact (octS_le h2).1, this.2⟩
theorem tookF_le {l : List UInt8} {at_ : Int} {x : Nat × List Nat} {next e : Nat} (h : tookF l at_ = (x, next, e)) : x.1 ≤ 4294967295 ∧ (∀ n ∈ x.2, n ≤ 4294967295) ∧ x.2.length ≤ 6 ∧ next ≤ l.length := by
  unfold tookF tookS at h
  split at h
  · split at h
    · rename_i z hz
      obtain ⟨⟨p, xs⟩, k⟩ := z
      injection h with h1 h2
      injection h2 with h2 h3
      have := fctS_le hz
      subst h1
      exact ⟨this.1, this.2.1, this.2.2.1, by rw [← h2]; exact this.2.2.2⟩
    · injection h with h1 h2
      injection h2 with h2 h3
      subst h1
      exact ⟨Nat.zero_le _, by simp, Nat.zero_le _, by omega⟩
  · injection h with h1 h2
    injection h2 with h2 h3
    subst h1
    exact ⟨Nat.zero_le _, by simp, Nat.zero_le _, by omega⟩
set_option maxRecDepth 100000 in
set_option maxHeartbeats 8000000 in
theorem wfacts_t (A B : Option Addr) (m c m' c' : Nat) (head b : List UInt8) (f : Fct) (at_ : Int) (Γ : List HP) (h1 : has Γ (srcAt 1 A m (bytesV head))) (h2 : has Γ (srcAt 1 B m' (bytesV b))) (hc' : m' ≤ c') (hf : f.ok Γ) (hfit : f.fit) :
    FnV Try.prog 3 [.slice A m c, .agg f.cells.toArray, .slice B m' c', .int .i64 at_] Γ fun v Γ' => v = .bool true ∧ Γ' = Γ := by
  refine Fn.enter Try.func3 rfl rfl rfl fun E => ?_
  refine TK.mem fun m0 hm0 => ?_
  obtain rfl := src_lenB (h1 m0 hm0)
  obtain rfl := src_lenB (h2 m0 hm0)
  clear hm0 m0
  obtain ⟨p, A0, c0, ts⟩ := f
  obtain ⟨⟨x, next, e⟩, hT⟩ : ∃ z, tookF b at_ = z := ⟨_, rfl⟩
  obtain ⟨hx1, hx2, hx3, hnext⟩ := tookF_le hT
  have hxl : x.2.length ≤ 1000000 := by omega
  by_cases hv1 : 4096 < head.length
  · refine m_run ?_
    (apply TL.box; exact rfl; exact rfl; (exact m_lst))
    intro b5
    refine TL.imp (Δ := row b5 [.int .u32 (p : Int), .slice A0 ts.length c0] 26 :: Γ) (fun _ h => h) ?_
    refine m_run ?_
    (apply TL.callV; exact rfl; exact callB_of (by kernel_rfl); exact rfl; exact fun _ h => h)
    exact vast_t A head.length c _
    rintro _ _ ⟨rfl, rfl⟩
    rw [decide_eq_true hv1]
    refine m_run ?_
    (apply TL.callV; exact rfl; exact callB_of (by kernel_rfl); exact rfl; exact fun _ h => h)
    exact works6_t _
    rintro _ _ ⟨rfl, rfl⟩
    refine m_run ?_
    (apply TK.retS1; exact rfl; exact rfl; (exact m_val))
    · exact ⟨_, rfl, rfl, rfl⟩
    · (repeat (first | exact List.Sublist.refl _ | apply List.Sublist.cons_cons | apply List.Sublist.cons))
  by_cases hv2 : 4096 < b.length
  · refine m_run ?_
    (apply TL.box; exact rfl; exact rfl; (exact m_lst))
    intro b5
    refine TL.imp (Δ := row b5 [.int .u32 (p : Int), .slice A0 ts.length c0] 26 :: Γ) (fun _ h => h) ?_
    refine m_run ?_
    (apply TL.callV; exact rfl; exact callB_of (by kernel_rfl); exact rfl; exact fun _ h => h)
    exact vast_t A head.length c _
    rintro _ _ ⟨rfl, rfl⟩
    rw [decide_eq_false hv1]
    refine m_run ?_
    (apply TL.callV; exact rfl; exact callB_of (by kernel_rfl); exact rfl; exact fun _ h => h)
    exact vast_t B b.length c' _
    rintro _ _ ⟨rfl, rfl⟩
    rw [decide_eq_true hv2]
    refine m_run ?_
    (apply TL.callV; exact rfl; exact callB_of (by kernel_rfl); exact rfl; exact fun _ h => h)
    exact works6_t _
    rintro _ _ ⟨rfl, rfl⟩
    refine m_run ?_
    (apply TK.retS1; exact rfl; exact rfl; (exact m_val))
    · exact ⟨_, rfl, rfl, rfl⟩
    · (repeat (first | exact List.Sublist.refl _ | apply List.Sublist.cons_cons | apply List.Sublist.cons))
  by_cases hv3 : 100 < ts.length
  · refine m_run ?_
    (apply TL.box; exact rfl; exact rfl; (exact m_lst))
    intro b5
    refine TL.imp (Δ := row b5 [.int .u32 (p : Int), .slice A0 ts.length c0] 26 :: Γ) (fun _ h => h) ?_
    refine m_run ?_
    (apply TL.callV; exact rfl; exact callB_of (by kernel_rfl); exact rfl; exact fun _ h => h)
    exact vast_t A head.length c _
    rintro _ _ ⟨rfl, rfl⟩
    rw [decide_eq_false hv1]
    refine m_run ?_
    (apply TL.callV; exact rfl; exact callB_of (by kernel_rfl); exact rfl; exact fun _ h => h)
    exact vast_t B b.length c' _
    rintro _ _ ⟨rfl, rfl⟩
    rw [decide_eq_false hv2]
    refine m_run ?_
    (apply TL.callV; exact rfl; exact callB_of (by kernel_rfl); exact rfl; exact fun _ h => h)
    exact works6_t _
    rintro _ _ ⟨rfl, rfl⟩
    refine m_run ?_
    (apply TK.retS1; exact rfl; exact rfl; (exact m_val))
    · exact ⟨_, rfl, rfl, rfl⟩
    · (repeat (first | exact List.Sublist.refl _ | apply List.Sublist.cons_cons | apply List.Sublist.cons))
  have hbl := fctB_len hfit
  replace hbl : (fctB ⟨p, A0, c0, ts⟩).length ≤ 6 + ts.length * 5 := hbl
  refine m_run ?_
  (apply TL.box; exact rfl; exact rfl; (exact m_lst))
  intro b5
  refine TL.imp (Δ := row b5 [.int .u32 (p : Int), .slice A0 ts.length c0] 26 :: Γ) (fun _ h => h) ?_
  refine m_run ?_
  (apply TL.callV; exact rfl; exact callB_of (by kernel_rfl); exact rfl; exact fun _ h => h)
  exact vast_t A head.length c _
  rintro _ _ ⟨rfl, rfl⟩
  rw [decide_eq_false hv1]
  refine m_run ?_
  (apply TL.callV; exact rfl; exact callB_of (by kernel_rfl); exact rfl; exact fun _ h => h)
  exact vast_t B b.length c' _
  rintro _ _ ⟨rfl, rfl⟩
  rw [decide_eq_false hv2]
  refine m_run ?_
  (apply TL.callV; exact rfl; exact callB_of (by kernel_rfl); exact rfl; exact fun _ h => h)
  exact roomy_t A head.length c head _ (by exact m_hsrc) (by omega)
  rintro _ _ ⟨g, rfl, rfl⟩
  refine m_run ?_
  (apply TL.callV; exact rfl; exact callB_of (by kernel_rfl); exact rfl; exact fun _ h => h)
  exact putfact_t (some ⟨g, 0, none⟩) head.length (head.length + 600) head ⟨p, A0, c0, ts⟩ _ (has_rowB 0 rfl rfl) (Fct.ok_tl (Fct.ok_tl hf)) hfit (show ts.length ≤ 1000000 by omega) (by omega)
  intro v Γ' hput
  by_cases h6 : ts.length ≤ 6
  · obtain ⟨A1, c1, rfl, hc1, rfl⟩ := hput.got (decide_eq_true h6)
    refine m_run ?_
    refine TK.drawS mixed rfl ?_
    refine m_take (At.mk : At 0) ?_; refine m_take (At.mk : At 1) ?_
    (apply TA.one 2; kernel_rfl; exact rfl)
    (apply TL.callV; exact rfl; exact callB_of (by kernel_rfl); exact rfl; exact fun _ h => h)
    exact kept_t (some ⟨g, 0, none⟩) A head.length c head _ (has_rowA 1 rfl (by simp)) (by exact m_hsrc) (by omega)
    rintro _ _ ⟨rfl, rfl⟩
    refine TL.back (by (focus ((repeat (first | assumption | exact Ent.refl _ | apply Ent.tail)); done))) ?_
    refine m_take (At.mk : At 3) ?_; refine m_take (At.mk : At 4) ?_; refine m_take (At.mk : At 5) ?_; refine m_take (At.mk : At 6) ?_; refine m_take (At.mk : At 7) ?_
    (apply TA.one 8; kernel_rfl; exact rfl)
    refine m_rrun ?_
    (apply TL.callV; exact rfl; exact callB_of (by kernel_rfl); exact rfl; exact fun _ h => h)
    exact mayfact_t ⟨p, A0, c0, ts⟩ _
    rintro _ _ ⟨rfl, rfl⟩
    rw [show decide ((Fct.l ⟨p, A0, c0, ts⟩).length ≤ 6) = true from decide_eq_true h6]
    refine TL.back (by (focus ((repeat (first | assumption | exact Ent.refl _ | apply Ent.tail)); done))) ?_
    refine m_take (At.mk : At 9) ?_; refine m_take (At.mk : At 10) ?_; refine m_take (At.mk : At 11) ?_; refine m_take (At.mk : At 12) ?_; refine m_take (At.mk : At 13) ?_; refine m_take (At.mk : At 14) ?_; refine m_take (At.mk : At 15) ?_; refine m_take (At.mk : At 16) ?_; refine m_take (At.mk : At 17) ?_; refine m_take (At.mk : At 18) ?_; refine m_take (At.mk : At 19) ?_; refine m_take (At.mk : At 20) ?_; refine m_take (At.mk : At 21) ?_; refine m_take (At.mk : At 22) ?_; refine m_take (At.mk : At 23) ?_; refine m_take (At.mk : At 24) ?_; refine m_take (At.mk : At 25) ?_; refine m_take (At.mk : At 26) ?_; refine m_take (At.mk : At 27) ?_; refine m_take (At.mk : At 28) ?_
    (apply TA.takeY (At.mk : At 29); exact rfl; exact rfl; exact rfl; exact rfl; exact rfl; kernel_rfl; ((focus ((repeat (first | assumption | exact Ent.refl _ | apply Ent.tail)); done))); (apply PV.convBS; exact rfl; exact tb rfl; exact rfl; exact tb rfl; exact rfl; exact tb rfl; exact rfl; (exact m_hsrc)))
    refine m_take (At.mk : At 30) ?_
    (apply TA.takeY (At.mk : At 31); exact rfl; exact rfl; exact rfl; exact rfl; exact rfl; kernel_rfl; ((focus ((repeat (first | assumption | exact Ent.refl _ | apply Ent.tail)); done))); (apply PV.convBS; exact rfl; exact tb rfl; exact rfl; exact tb rfl; exact rfl; exact tb rfl; exact rfl; (exact m_hsrc)))
    refine m_take (At.mk : At 32) ?_
    (apply TA.one 33; kernel_rfl; exact rfl)
    refine m_rrun ?_
    (apply TL.callV; exact rfl; exact callB_of (by kernel_rfl); exact rfl; exact fun _ h => h)
    exact rfact_t ⟨p, A0, c0, ts⟩ _ (Fct.ok_tl (Fct.ok_tl (Fct.ok_tl hf))) hfit (show ts.length ≤ 1000 by omega)
    rintro _ _ ⟨A2, c2, rfl, hc2, rfl⟩
    refine TL.back (by (focus ((repeat (first | assumption | exact Ent.refl _ | apply Ent.tail)); done))) ?_
    (apply TA.one 34; kernel_rfl; exact rfl)
    refine m_rrun ?_
    refine TL.back (by (focus ((repeat (first | assumption | exact Ent.refl _ | apply Ent.tail)); done))) ?_
    (apply TA.takeY (At.mk : At 35); exact rfl; exact rfl; exact rfl; exact rfl; exact rfl; kernel_rfl; ((focus ((repeat (first | assumption | exact Ent.refl _ | apply Ent.tail)); done))); (apply PV.catS (a := head) (b := fctB ⟨p, A0, c0, ts⟩); exact rfl; exact rfl; omega))
    refine m_take (At.mk : At 36) ?_
    refine TA.isF 75 rfl (by simp) ?_
    refine m_take (At.mk : At 37) ?_; refine m_take (At.mk : At 38) ?_
    refine TA.done (by kernel_rfl) ?_
    refine m_run ?_
    (apply TL.callV; exact rfl; exact callB_of (by kernel_rfl); exact rfl; exact fun _ h => h)
    exact takefact_t B b.length c' b at_ _ (by exact m_hsrc) hc' (by omega)
    rw [hT]
    rintro _ _ ⟨B1, k1, hk1, rfl, rfl⟩
    refine m_run ?_
    (apply TL.alloc; exact rfl; exact tb rfl; exact (rfl : _ = [_, _]))
    intro b12
    refine m_run ?_
    (apply TL.callV; exact rfl; exact callB_of (by kernel_rfl); exact rfl; exact fun _ h => h)
    exact rtakefact_t B b.length c' b at_ _ (by exact m_hsrc) hc' (by omega)
    rw [hT]
    rintro _ _ ⟨B2, k2, hk2, rfl, rfl⟩
    refine m_run ?_
    (apply TL.alloc; exact rfl; exact tb rfl; exact (rfl : _ = [_, _]))
    intro b15
    refine TL.imp (Δ := row b15 [.int .u32 0, .slice none 0 0] 26 :: ownU B2 k2 x.2 :: row b12 (Fct.cells ⟨x.1, B1, k1, x.2⟩) 26 :: ownU B1 k1 x.2 :: _) (fun _ h => h) ?_
    refine m_run ?_
    (apply TL.callV; exact rfl; exact callB_of (by kernel_rfl); exact rfl; exact fun _ h => h)
    exact rsameFact_t ⟨x.1, B1, k1, x.2⟩ ⟨x.1, B2, k2, x.2⟩ _ ⟨has_at (up_src _ _ _ _) 3 rfl fun _ h => own_src h, hk1⟩ ⟨has_at (up_src _ _ _ _) 1 rfl fun _ h => own_src h, hk2⟩ hxl
    rintro _ _ ⟨rfl, rfl⟩
    rw [show decide (cmpF ⟨x.1, B1, k1, x.2⟩ ⟨x.1, B2, k2, x.2⟩ = 0) = true from decide_eq_true (cmpF_zero.2 ⟨rfl, rfl⟩)]
    refine m_run ?_
    (apply TL.callV; exact rfl; exact callB_of (by kernel_rfl); exact rfl; exact fun _ h => h)
    exact works6_t _
    rintro _ _ ⟨rfl, rfl⟩
    refine m_run ?_
    (apply TK.retS1; exact rfl; exact rfl; (exact m_val))
    · exact ⟨_, rfl, rfl, rfl⟩
    · (repeat (first | exact List.Sublist.refl _ | apply List.Sublist.cons_cons | apply List.Sublist.cons))
  · obtain ⟨rfl, rfl⟩ := hput.lost (decide_eq_false h6)
    refine m_run ?_
    refine TK.drawS mixed rfl ?_
    refine m_take (At.mk : At 0) ?_; refine m_take (At.mk : At 1) ?_
    (apply TA.one 2; kernel_rfl; exact rfl)
    (apply TL.callV; exact rfl; exact callB_of (by kernel_rfl); exact rfl; exact fun _ h => h)
    exact kept_t (some ⟨g, 0, none⟩) A head.length c head _ (has_rowA 0 rfl (by simp)) (by exact m_hsrc) (by omega)
    rintro _ _ ⟨rfl, rfl⟩
    refine TL.back (by (focus ((repeat (first | assumption | exact Ent.refl _ | apply Ent.tail)); done))) ?_
    refine m_take (At.mk : At 3) ?_; refine m_take (At.mk : At 4) ?_; refine m_take (At.mk : At 5) ?_; refine m_take (At.mk : At 6) ?_; refine m_take (At.mk : At 7) ?_
    (apply TA.one 8; kernel_rfl; exact rfl)
    refine m_rrun ?_
    (apply TL.callV; exact rfl; exact callB_of (by kernel_rfl); exact rfl; exact fun _ h => h)
    exact mayfact_t ⟨p, A0, c0, ts⟩ _
    rintro _ _ ⟨rfl, rfl⟩
    rw [show decide ((Fct.l ⟨p, A0, c0, ts⟩).length ≤ 6) = false from decide_eq_false h6]
    refine TL.back (by (focus ((repeat (first | assumption | exact Ent.refl _ | apply Ent.tail)); done))) ?_
    refine m_take (At.mk : At 9) ?_; refine m_take (At.mk : At 10) ?_; refine m_take (At.mk : At 11) ?_; refine m_take (At.mk : At 12) ?_; refine m_take (At.mk : At 13) ?_; refine m_take (At.mk : At 14) ?_; refine m_take (At.mk : At 15) ?_; refine m_take (At.mk : At 16) ?_; refine m_take (At.mk : At 17) ?_; refine m_take (At.mk : At 18) ?_; refine m_take (At.mk : At 19) ?_; refine m_take (At.mk : At 20) ?_; refine m_take (At.mk : At 21) ?_; refine m_take (At.mk : At 22) ?_; refine m_take (At.mk : At 23) ?_; refine m_take (At.mk : At 24) ?_; refine m_take (At.mk : At 25) ?_; refine m_take (At.mk : At 26) ?_; refine m_take (At.mk : At 27) ?_; refine m_take (At.mk : At 28) ?_; refine m_take (At.mk : At 29) ?_; refine m_take (At.mk : At 30) ?_; refine m_take (At.mk : At 31) ?_; refine m_take (At.mk : At 32) ?_; refine m_take (At.mk : At 33) ?_; refine m_take (At.mk : At 34) ?_; refine m_take (At.mk : At 35) ?_; refine m_take (At.mk : At 36) ?_; refine m_take (At.mk : At 37) ?_; refine m_take (At.mk : At 38) ?_
    refine TA.done (by kernel_rfl) ?_
    refine m_run ?_
    (apply TL.callV; exact rfl; exact callB_of (by kernel_rfl); exact rfl; exact fun _ h => h)
    exact takefact_t B b.length c' b at_ _ (by exact m_hsrc) hc' (by omega)
    rw [hT]
    rintro _ _ ⟨B1, k1, hk1, rfl, rfl⟩
    refine m_run ?_
    (apply TL.alloc; exact rfl; exact tb rfl; exact (rfl : _ = [_, _]))
    intro b12
    refine m_run ?_
    (apply TL.callV; exact rfl; exact callB_of (by kernel_rfl); exact rfl; exact fun _ h => h)
    exact rtakefact_t B b.length c' b at_ _ (by exact m_hsrc) hc' (by omega)
    rw [hT]
    rintro _ _ ⟨B2, k2, hk2, rfl, rfl⟩
    refine m_run ?_
    (apply TL.alloc; exact rfl; exact tb rfl; exact (rfl : _ = [_, _]))
    intro b15
    refine TL.imp (Δ := row b15 [.int .u32 0, .slice none 0 0] 26 :: ownU B2 k2 x.2 :: row b12 (Fct.cells ⟨x.1, B1, k1, x.2⟩) 26 :: ownU B1 k1 x.2 :: _) (fun _ h => h) ?_
    refine m_run ?_
    (apply TL.callV; exact rfl; exact callB_of (by kernel_rfl); exact rfl; exact fun _ h => h)
    exact rsameFact_t ⟨x.1, B1, k1, x.2⟩ ⟨x.1, B2, k2, x.2⟩ _ ⟨has_at (up_src _ _ _ _) 3 rfl fun _ h => own_src h, hk1⟩ ⟨has_at (up_src _ _ _ _) 1 rfl fun _ h => own_src h, hk2⟩ hxl
    rintro _ _ ⟨rfl, rfl⟩
    rw [show decide (cmpF ⟨x.1, B1, k1, x.2⟩ ⟨x.1, B2, k2, x.2⟩ = 0) = true from decide_eq_true (cmpF_zero.2 ⟨rfl, rfl⟩)]
    refine m_run ?_
    (apply TL.callV; exact rfl; exact callB_of (by kernel_rfl); exact rfl; exact fun _ h => h)
    exact works6_t _
    rintro _ _ ⟨rfl, rfl⟩
    refine m_run ?_
    (apply TK.retS1; exact rfl; exact rfl; (exact m_val))
    · exact ⟨_, rfl, rfl, rfl⟩
    · (repeat (first | exact List.Sublist.refl _ | apply List.Sublist.cons_cons | apply List.Sublist.cons))
end
end Go.Proofs.Ytokggdgagfmacaa.E
