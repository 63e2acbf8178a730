/- ShaSums, whatever is handed in (sized): the walk. -/
import Derived.Test.YtdookobgkcnncaaDoorK5
import Derived.Test.YtdookobgkcnncaaDoorJ3
namespace Go.Proofs.YtdookobgkcnncaaDoor.E
open Go Go.RowKit Go.Proofs
attribute [local irreducible] TK TL TQ TA Fn PV
attribute [local irreducible] rounds sched kC comp1 compN rotr hashB hashW
theorem flatS_maps {ss ds : List (Sl UInt8)} (h : ds.map (·.l) = ss.map (·.l)) : flatS ds = flatS ss := by
  have e : ∀ l : List (Sl UInt8), flatS l = (l.map (·.l)).flatten := fun l => by rw [flatS, List.flatMap_def]
  rw [e, e, h]
set_option maxRecDepth 100000 in
set_option maxHeartbeats 1000000 in
theorem sums_t (A : Option Addr) (c : Nat) (ss : List (Sl UInt8)) (Γ : List HP) (hs : has Γ (srcAt 1 A ss.length (ss.map Sl.v))) (hss : ∀ s ∈ ss, has Γ (srcAt 1 s.A s.l.length (bytesV s.l))) (hl : ∀ s ∈ ss, s.l.length ≤ 140737488351232)
    (hB : gBegin Γ) (hK : gConst Γ) :
    FnV Tryd.prog 3 [.slice A ss.length c] Γ fun v Γ' => v = .bool true ∧ Γ' = Γ := by
  refine Fn.enter Tryd.func3 rfl rfl rfl fun E => ?_
  refine m_run ?_
  (apply TL.callV; exact rfl; exact callB_of (by kernel_rfl); exact rfl; exact fun _ h => h)
  exact vast2_t A c ss _ hs hl
  rintro _ Γ ⟨t, rfl, rfl, ht⟩
  cases t with
  | true =>
    refine m_run ?_
    (apply TL.callV; exact rfl; exact callB_of (by kernel_rfl); exact rfl; exact fun _ h => h)
    exact works2_t _ hB hK
    rintro _ Γ ⟨rfl, rfl⟩
    refine m_run ?_
    (apply TK.ret1; exact rfl; exact rfl; (exact m_val))
    exact ⟨_, rfl, rfl, rfl⟩
  | false =>
  obtain ⟨hn, htot⟩ := ht rfl
  clear hl ht
  refine m_run ?_
  (apply TL.callV; exact rfl; exact callB_of (by kernel_rfl); exact rfl; exact fun _ h => h)
  exact copies_t A c ss _ hs hss hn htot
  rintro _ _ ⟨A1, k1, ds, rfl, hk1, hds, hdc, rfl⟩
  have hfl : flatS ds = flatS ss := flatS_maps hds
  have hdl : ds.length = ss.length := by simpa using congrArg List.length hds
  refine m_run ?_
  (apply TL.callV; exact rfl; exact callB_of (by kernel_rfl); exact rfl; exact fun _ h => h)
  exact shasum_t A1 k1 ds _ (has_at (up_src _ _ _ _) 0 rfl fun _ h => own_src h) (fun s h => has_alls 1 rfl (up_src _ _ _ _) h fun _ h => ownS_src h) hdc (by rw [hfl]; omega) (by omega) (has_tlg (has_tlg hB)) (has_tlg (has_tlg hK))
  rintro _ _ ⟨rfl, rfl⟩
  rw [hfl]
  refine m_run ?_
  (apply TL.callV; exact rfl; exact callB_of (by kernel_rfl); exact rfl; exact fun _ h => h)
  exact join_t A c ss _ (has_tls (has_tls hs)) (fun s h => has_tls (has_tls (hss s h))) (by omega) (by omega)
  rintro _ _ ⟨A2, k2, rfl, hk2, rfl⟩
  refine m_run ?_
  (apply TL.callV; exact rfl; exact callB_of (by kernel_rfl); exact rfl; exact fun _ h => h)
  exact refsum_t A2 k2 (flatS ss) _ (has_bs 0 rfl) (by omega)
  rintro _ _ ⟨rfl, rfl⟩
  (apply TL.pv; exact rfl; (apply PV.neBytes (a := hashB (flatS ss)) (b := hashB (flatS ss)); exact rfl; exact rfl; exact tb rfl; exact rfl; exact tb rfl; exact rfl; exact rfl; kernel_rfl; exact hashB_len _; exact hashB_len _))
  refine TL.know (t := 15) (v := .bool false) (congrArg Value.bool (not_f (beq_self_eq_true _))) ?_
  refine m_run ?_
  apply TK.iter (fun j ρ' Γ' => ∃ i : Nat, i + j = ss.length ∧ lk ρ' 0 = .slice A ss.length c ∧ lk ρ' 3 = .slice A1 ds.length k1 ∧ lk ρ' 4 = .int .i64 (i : Int) ∧ Γ' = bsA 5 (.slice A2 (flatS ss).length k2) (flatS ss) :: copiesAt A1 k1 ds Γ) ss.length
  · exact ⟨0, Nat.zero_add _, rfl, rfl, rfl, rfl⟩
  rintro j IH ρ' _ ⟨i, hij, e0, e3, e4, rfl⟩
  refine TK.know3 e0 e3 e4 ?_
  by_cases hi : i < ss.length
  · obtain ⟨s, hsi⟩ : ∃ s, ss[i]? = some s := ⟨ss[i], by simp [hi]⟩
    obtain ⟨d, hdi⟩ : ∃ d, ds[i]? = some d := ⟨ds[i], by simp [hdl, hi]⟩
    have hll : d.l = s.l := by
      have := congrArg (fun l => l[i]?) hds
      simpa [hsi, hdi] using this
    have hsO : has (bsA 5 (.slice A2 (flatS ss).length k2) (flatS ss) :: copiesAt A1 k1 ds Γ) (srcAt 1 A1 ds.length (ds.map Sl.v)) := has_at (up_src _ _ _ _) 1 rfl fun _ h => own_src h
    have hsd : has (bsA 5 (.slice A2 (flatS ss).length k2) (flatS ss) :: copiesAt A1 k1 ds Γ) (srcAt 1 d.A d.l.length (bytesV d.l)) := has_alls 2 rfl (up_src _ _ _ _) (List.mem_of_getElem? hdi) fun _ h => ownS_src h
    have hsI : has (bsA 5 (.slice A2 (flatS ss).length k2) (flatS ss) :: copiesAt A1 k1 ds Γ) (srcAt 1 A ss.length (ss.map Sl.v)) := has_tls (has_tls (has_tls hs))
    have hss2 : has (bsA 5 (.slice A2 (flatS ss).length k2) (flatS ss) :: copiesAt A1 k1 ds Γ) (srcAt 1 s.A s.l.length (bytesV s.l)) := has_tls (has_tls (has_tls (hss s (List.mem_of_getElem? hsi))))
    generalize hG : bsA 5 (.slice A2 (flatS ss).length k2) (flatS ss) :: copiesAt A1 k1 ds Γ = G at hsO hsd hsI hss2
    refine TK.mem fun m0 hm0 => ?_
    obtain ⟨b2, o2, rfl⟩ := src_some (hsI m0 hm0) (by rw [List.length_map]; omega)
    obtain ⟨b3, o3, rfl⟩ := src_some (hsO m0 hm0) (by rw [List.length_map]; omega)
    clear hm0 m0
    have hcell := has_get hsI (slsV_get hsi)
    have hcell2 := has_get hsO (slsV_get hdi)
    refine m_run ?_
    refine TK.drawS mixed rfl ?_
    refine m_take (At.mk : At 0) ?_; refine m_take (At.mk : At 1) ?_; refine m_take (At.mk : At 2) ?_; refine m_take (At.mk : At 3) ?_; refine m_take (At.mk : At 4) ?_; refine m_take (At.mk : At 5) ?_; refine m_take (At.mk : At 6) ?_; refine m_take (At.mk : At 7) ?_; refine m_take (At.mk : At 8) ?_; refine m_take (At.mk : At 9) ?_; refine m_take (At.mk : At 10) ?_
    refine TA.done (by kernel_rfl) ?_
    refine TK.know (t := 32) (v := .bool false) (congrArg Value.bool (not_f (decide_eq_true hll))) ?_
    refine m_run ?_
    subst hG
    exact IH (j - 1) _ _ (by omega) ⟨i + 1, by omega, rfl, rfl, congrArg (Value.int .i64) (i64_succ i (by omega)), rfl⟩
  clear IH e0 e3 e4
  refine m_run ?_
  (apply TL.callV; exact rfl; exact callB_of (by kernel_rfl); exact rfl; exact fun _ h => h)
  exact works2_t _ (has_tlg (has_tlg (has_tlg hB))) (has_tlg (has_tlg (has_tlg hK)))
  rintro _ _ ⟨rfl, rfl⟩
  refine m_run ?_
  (apply TK.retS1; exact rfl; exact rfl; (exact m_val))
  · exact ⟨_, rfl, rfl, rfl⟩
  · (repeat (first | exact List.Sublist.refl _ | apply List.Sublist.cons_cons | apply List.Sublist.cons))
end Go.Proofs.YtdookobgkcnncaaDoor.E
