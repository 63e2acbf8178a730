/- ShaForks, whatever is handed in (sized): the walk. -/
import Derived.Test.YtdookobgkcnncaaDoorH7
namespace Go.Proofs.YtdookobgkcnncaaDoor.E
open Go Go.RowKit Go.Proofs
attribute [local irreducible] TK TL TQ TA Fn PV
attribute [local irreducible] rounds sched kC comp1 compN rotr hashB hashW
/-- Bytes that are read are written into the state in front. -/
theorem flat2 (a b : List UInt8) (A B : Option Addr) (c c' : Nat) : flatS [⟨A, c, a⟩, ⟨B, c', b⟩] = a ++ b := by simp [flatS]
set_option maxRecDepth 100000 in
set_option maxHeartbeats 1000000 in
theorem forks_t (A B D : Option Addr) (c c' c2 : Nat) (a b d : List UInt8) (Γ : List HP) (h1 : has Γ (srcAt 1 A a.length (bytesV a))) (h2 : has Γ (srcAt 1 B b.length (bytesV b))) (h3 : has Γ (srcAt 1 D d.length (bytesV d)))
    (k1 : a.length ≤ c) (k2 : b.length ≤ c') (k3 : d.length ≤ c2) (l1 : a.length ≤ 140737488351232) (l2 : b.length ≤ 140737488351232) (l3 : d.length ≤ 140737488351232) (hB : gBegin Γ) (hK : gConst Γ) :
    FnV Tryd.prog 5 [.slice A a.length c, .slice B b.length c', .slice D d.length c2] Γ fun v Γ' => v = .bool true ∧ Γ' = Γ := by
  refine Fn.enter Tryd.func5 rfl rfl rfl fun E => ?_
  have e1 : IntKind.i64.wrap ((a.length : Int) + (b.length : Int)) = ((a.length + b.length : Nat) : Int) := by rw [← Int.natCast_add, i64_nat (by omega)]
  have e2 : IntKind.i64.wrap (IntKind.i64.wrap ((a.length : Int) + (b.length : Int)) + (d.length : Int)) = ((a.length + b.length + d.length : Nat) : Int) := by rw [e1, ← Int.natCast_add, i64_nat (by omega)]
  by_cases v0 : 8192 < a.length + b.length + d.length
  · refine m_run ?_
    (apply TL.callV; exact rfl; exact callB_of (by kernel_rfl); exact rfl; exact fun _ h => h)
    exact works2_t _ hB hK
    rintro _ Γ ⟨rfl, rfl⟩
    refine m_run ?_
    (apply TK.ret1; exact rfl; exact rfl; (exact m_val))
    exact ⟨_, rfl, rfl, rfl⟩
  clear e1 l1 l2 l3
  refine m_run ?_
  (apply TL.callV; exact rfl; exact callB_of (by kernel_rfl); exact rfl; exact fun _ h => h)
  exact new_t _ hB
  rintro _ _ ⟨b0, rfl, rfl⟩
  refine m_run ?_
  (apply TL.callV; exact rfl; exact callB_of (by kernel_rfl); exact rfl; exact fun _ h => h)
  exact write_t b0 [] a A c Γ h1 k1 (by rw [List.length_nil]; omega) hK
  rintro _ _ ⟨rfl, rfl⟩
  rw [List.nil_append]
  refine m_run ?_
  (apply TL.callV; exact rfl; exact callB_of (by kernel_rfl); exact rfl; exact fun _ h => h)
  exact fork_t b0 a Γ
  rintro _ _ ⟨b1, rfl, rfl⟩
  refine m_run ?_
  (apply TL.callV; exact rfl; exact callB_of (by kernel_rfl); exact rfl; exact fun _ h => h)
  exact write_t b1 a b B c' (stA b0 a :: Γ) (has_tls h2) k2 (by omega) (has_tlg hK)
  rintro _ _ ⟨rfl, rfl⟩
  refine m_run ?_
  (apply TL.callV (Δ := stA b0 a :: stA b1 (a ++ b) :: Γ); exact rfl; exact callB_of (by kernel_rfl); exact rfl; exact fun _ h => all_perm (List.Perm.swap _ _ _) h)
  exact write_t b0 a d D c2 (stA b1 (a ++ b) :: Γ) (has_tls h3) k3 (by omega) (has_tlg hK)
  rintro _ _ ⟨rfl, rfl⟩
  have lab : (a ++ b).length ≤ 8192 := by rw [List.length_append]; omega
  have lad : (a ++ d).length ≤ 8192 := by rw [List.length_append]; omega
  refine m_run ?_
  (apply TL.callV (Δ := stA b1 (a ++ b) :: stA b0 (a ++ d) :: Γ); exact rfl; exact callB_of (by kernel_rfl); exact rfl; exact fun _ h => all_perm (List.Perm.swap _ _ _) h)
  exact sum_t b1 (a ++ b) (stA b0 (a ++ d) :: Γ) (by omega) (has_tlg hK)
  rintro _ _ ⟨rfl, rfl⟩
  refine m_run ?_
  (apply TL.buildSlice; exact rfl; exact tb rfl; exact rfl; exact tb rfl; exact rfl; exact rfl; exact rfl; exact rfl; (exact m_lst))
  intro r1
  refine m_run ?_
  (apply TL.callV; exact rfl; exact callB_of (by kernel_rfl); exact rfl; exact fun _ h => h)
  exact shasum_t (some ⟨r1, 0, none⟩) 2 [⟨A, c, a⟩, ⟨B, c', b⟩] _ (has_src_row 0 rfl rfl) (fun s h => by
    simp only [List.mem_cons, List.not_mem_nil, or_false] at h
    rcases h with rfl | rfl
    · exact has_tls (has_tls (has_tls h1))
    · exact has_tls (has_tls (has_tls h2))) (fun s h => by
    simp only [List.mem_cons, List.not_mem_nil, or_false] at h
    rcases h with rfl | rfl
    · exact k1
    · exact k2) (by rw [flat2]; omega) (show 2 ≤ 1000000000 by decide) (has_tlg (has_tlg (has_tlg hB))) (has_tlg (has_tlg (has_tlg hK)))
  rintro _ _ ⟨rfl, rfl⟩
  rw [flat2]
  refine m_run ?_
  (apply TL.pv; exact rfl; (apply PV.eqBytes (a := hashB (a ++ b)) (b := hashB (a ++ b)); exact rfl; exact rfl; exact tb rfl; exact rfl; exact tb rfl; exact rfl; exact rfl; kernel_rfl; exact hashB_len _; exact hashB_len _))
  refine TL.know (t := 51) (v := .bool true) (congrArg Value.bool (beq_self_eq_true _)) ?_
  refine TL.sub (Δ := stA b1 (a ++ b) :: stA b0 (a ++ d) :: Γ) (by (repeat (first | exact List.Sublist.refl _ | apply List.Sublist.cons_cons | apply List.Sublist.cons))) ?_
  refine m_run ?_
  (apply TL.callV (Δ := stA b0 (a ++ d) :: stA b1 (a ++ b) :: Γ); exact rfl; exact callB_of (by kernel_rfl); exact rfl; exact fun _ h => all_perm (List.Perm.swap _ _ _) h)
  exact sum_t b0 (a ++ d) (stA b1 (a ++ b) :: Γ) (by omega) (has_tlg hK)
  rintro _ _ ⟨rfl, rfl⟩
  refine m_run ?_
  (apply TL.buildSlice; exact rfl; exact tb rfl; exact rfl; exact tb rfl; exact rfl; exact rfl; exact rfl; exact rfl; (exact m_lst))
  intro r2
  refine m_run ?_
  (apply TL.callV; exact rfl; exact callB_of (by kernel_rfl); exact rfl; exact fun _ h => h)
  exact shasum_t (some ⟨r2, 0, none⟩) 2 [⟨A, c, a⟩, ⟨D, c2, d⟩] _ (has_src_row 0 rfl rfl) (fun s h => by
    simp only [List.mem_cons, List.not_mem_nil, or_false] at h
    rcases h with rfl | rfl
    · exact has_tls (has_tls (has_tls h1))
    · exact has_tls (has_tls (has_tls h3))) (fun s h => by
    simp only [List.mem_cons, List.not_mem_nil, or_false] at h
    rcases h with rfl | rfl
    · exact k1
    · exact k3) (by rw [flat2]; omega) (show 2 ≤ 1000000000 by decide) (has_tlg (has_tlg (has_tlg hB))) (has_tlg (has_tlg (has_tlg hK)))
  rintro _ _ ⟨rfl, rfl⟩
  rw [flat2]
  refine m_run ?_
  (apply TL.pv; exact rfl; (apply PV.eqBytes (a := hashB (a ++ d)) (b := hashB (a ++ d)); exact rfl; exact rfl; exact tb rfl; exact rfl; exact tb rfl; exact rfl; exact rfl; kernel_rfl; exact hashB_len _; exact hashB_len _))
  refine TL.know (t := 59) (v := .bool true) (congrArg Value.bool (beq_self_eq_true _)) ?_
  refine TL.sub (Δ := Γ) (List.sublist_append_right (_ :: _ :: [_]) Γ) ?_
  refine m_run ?_
  (apply TL.callV; exact rfl; exact callB_of (by kernel_rfl); exact rfl; exact fun _ h => h)
  exact write_nil A a.length c _
  rintro _ Γ ⟨rfl, rfl⟩
  refine m_run ?_
  (apply TL.callV; exact rfl; exact callB_of (by kernel_rfl); exact rfl; exact fun _ h => h)
  exact fork_nil _
  rintro _ Γ ⟨rfl, rfl⟩
  refine m_run ?_
  (apply TL.callV; exact rfl; exact callB_of (by kernel_rfl); exact rfl; exact fun _ h => h)
  exact sum_nil _
  rintro _ Γ ⟨rfl, rfl⟩
  refine m_run ?_
  (apply TL.buildArr; exact rfl; exact tb rfl; exact rfl; exact tb rfl; exact rfl; exact rfl; exact (by kernel_rfl : _ = List.replicate 32 (Value.int .u8 0)))
  refine m_run ?_
  (apply TL.pv; exact rfl; (apply PV.eqBytes (a := List.replicate 32 0) (b := List.replicate 32 0); exact rfl; exact rfl; exact tb rfl; exact rfl; exact tb rfl; exact rfl; exact rfl; kernel_rfl; exact (List.length_replicate ..); exact (List.length_replicate ..)))
  refine TL.know (t := 76) (v := .bool true) (congrArg Value.bool (beq_self_eq_true _)) ?_
  refine m_run ?_
  (apply TL.callV; exact rfl; exact callB_of (by kernel_rfl); exact rfl; exact fun _ h => h)
  exact works2_t _ hB hK
  rintro _ Γ ⟨rfl, rfl⟩
  refine m_run ?_
  (apply TK.ret1; exact rfl; exact rfl; (exact m_val))
  exact ⟨_, rfl, rfl, rfl⟩
end Go.Proofs.YtdookobgkcnncaaDoor.E
