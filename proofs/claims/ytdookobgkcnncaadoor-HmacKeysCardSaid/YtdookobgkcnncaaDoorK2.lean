/- ShaParts, whatever is handed in (sized): the walk. -/
import Derived.Test.YtdookobgkcnncaaDoorK1
namespace Go.Proofs.YtdookobgkcnncaaDoor.E
open Go Go.RowKit Go.Proofs
attribute [local irreducible] TK TL TQ TA Fn PV
attribute [local irreducible] rounds sched kC comp1 compN rotr hashB hashW
theorem xor_b8 (c : UInt8) (k : Nat) (hk : k < 256) : bitsOf .xor .u8 (c.toNat : Int) (k : Int) = ((b8 (c.toNat ^^^ k)).toNat : Int) := by
  rw [bits_xor rfl (UInt8.toNat_lt c) hk, b8_nat (Nat.xor_lt_two_pow (n := 8) (UInt8.toNat_lt c) hk)]
theorem flat1 (a : List UInt8) (A : Option Addr) (c : Nat) : flatS [⟨A, c, a⟩] = a := by simp [flatS]
def natsV (q : IntKind) (xs : List Nat) : List Value := xs.map fun (n : Nat) => Value.int q (n : Int)
theorem natsV_get {q : IntKind} {xs : List Nat} {i n : Nat} (h : xs[i]? = some n) : (natsV q xs)[i]? = some (.int q (n : Int)) := by simp [natsV, h]
set_option maxRecDepth 100000 in
set_option maxHeartbeats 1000000 in
theorem parts_t (A B : Option Addr) (c c' : Nat) (ss : List (Sl UInt8)) (cs : List Nat) (Γ : List HP) (hs : has Γ (srcAt 1 A ss.length (ss.map Sl.v))) (hss : ∀ s ∈ ss, has Γ (srcAt 1 s.A s.l.length (bytesV s.l))) (hl : ∀ s ∈ ss, s.l.length ≤ 140737488351232)
    (hcs : has Γ (srcAt 1 B cs.length (natsV .u16 cs))) (hc16 : ∀ n ∈ cs, n < 65536) (hB : gBegin Γ) (hK : gConst Γ) :
    FnV Tryd.prog 4 [.slice A ss.length c, .slice B cs.length c'] Γ fun v Γ' => v = .bool true ∧ Γ' = Γ := by
  refine Fn.enter Tryd.func4 rfl rfl rfl fun E => ?_
  refine m_run ?_
  (apply TL.callV; exact rfl; exact callB_of (by kernel_rfl); exact rfl; exact fun _ h => h)
  exact vast2_t A c ss _ hs hl
  rintro _ Γ ⟨t, rfl, rfl, ht⟩
  cases t with
  | true =>
    refine m_run ?_
    (apply TL.callV; exact rfl; exact callB_of (by kernel_rfl); exact rfl; exact fun _ h => h)
    exact works2_t _ hB hK
    rintro _ Γ ⟨rfl, rfl⟩
    refine m_run ?_
    (apply TK.ret1; exact rfl; exact rfl; (exact m_val))
    exact ⟨_, rfl, rfl, rfl⟩
  | false =>
  obtain ⟨hn, htot⟩ := ht rfl
  by_cases v1 : 200 < cs.length
  · refine m_run ?_
    (apply TL.callV; exact rfl; exact callB_of (by kernel_rfl); exact rfl; exact fun _ h => h)
    exact works2_t _ hB hK
    rintro _ Γ ⟨rfl, rfl⟩
    refine m_run ?_
    (apply TK.ret1; exact rfl; exact rfl; (exact m_val))
    exact ⟨_, rfl, rfl, rfl⟩
  clear hl ht
  refine m_run ?_
  (apply TL.callV; exact rfl; exact callB_of (by kernel_rfl); exact rfl; exact fun _ h => h)
  exact new_t _ hB
  rintro _ _ ⟨b0, rfl, rfl⟩
  refine m_run ?_
  (apply TL.callV; exact rfl; exact callB_of (by kernel_rfl); exact rfl; exact fun _ h => h)
  exact sum_t b0 [] Γ (by rw [List.length_nil]; omega) hK
  rintro _ _ ⟨rfl, rfl⟩
  refine m_run ?_
  (apply TL.callV; exact rfl; exact callB_of (by kernel_rfl); exact rfl; exact fun _ h => h)
  exact shasum_t none 0 [] _ (has_srcnil _ _) (fun s h => by cases h) (fun s h => by cases h) (show 0 ≤ 1000000000 by decide) (show 0 ≤ 1000000000 by decide) (has_tlg hB) (has_tlg hK)
  rintro _ _ ⟨rfl, rfl⟩
  refine m_run ?_
  (apply TL.pv; exact rfl; (apply PV.neBytes (a := hashB []) (b := hashB []); exact rfl; exact rfl; exact tb rfl; exact rfl; exact tb rfl; exact rfl; exact rfl; kernel_rfl; exact hashB_len _; exact hashB_len _))
  refine TL.know (t := 29) (v := .bool false) (congrArg Value.bool (not_f (beq_self_eq_true _))) ?_
  refine m_run ?_
  refine TK.free (H := bsA 5 (.slice none 0 0) []) (fun m h => bs_nil _ h) ?_
  apply TK.iter (fun j ρ' Γ' => ∃ (i : Nat) (A' : Option Addr) (k : Nat), i + j = ss.length ∧ lk ρ' 0 = .slice A ss.length c ∧ lk ρ' 1 = .slice B cs.length c' ∧ lk ρ' 5 = .pointer (some ⟨b0, 0, none⟩) ∧ lk ρ' 6 = .slice A' (flatS (ss.take i)).length k ∧ (flatS (ss.take i)).length ≤ k ∧ lk ρ' 7 = .int .i64 (i : Int) ∧
    Γ' = bsA 5 (.slice A' (flatS (ss.take i)).length k) (flatS (ss.take i)) :: stA b0 (flatS (ss.take i)) :: Γ) ss.length
  · exact ⟨0, none, 0, Nat.zero_add _, rfl, rfl, rfl, rfl, Nat.le_refl _, rfl, rfl⟩
  rintro j IH ρ' _ ⟨i, A1, k1, hij, e0, e1, e5, e6, hk1, e7, rfl⟩
  refine TK.know5 e0 e1 e5 e6 e7 ?_
  by_cases hi : i < ss.length
  · obtain ⟨s, hsi⟩ : ∃ s, ss[i]? = some s := ⟨ss[i], by simp [hi]⟩
    have hmem := List.mem_of_getElem? hsi
    have hsrc := hss s hmem
    refine TK.mem fun m0 hm0 => ?_
    obtain ⟨b2, o2, rfl⟩ := src_some (has_tls (has_tls hs) m0 hm0) (by rw [List.length_map]; omega)
    clear hm0 m0
    have hcell := has_get hs (slsV_get hsi)
    have hl1 := flatS_len ss (i + 1)
    have htk := flatS_take hsi
    rw [htk, List.length_append] at hl1
    obtain ⟨X, hX⟩ : ∃ X, flatS (ss.take i) = X := ⟨_, rfl⟩
    rw [hX] at hl1 htk hk1 ⊢
    refine m_run ?_
    (apply TL.buildSlice; exact rfl; exact tb rfl; exact rfl; exact tb rfl; exact rfl; exact rfl; exact rfl; exact rfl; (exact m_lst))
    intro b3
    refine m_run ?_
    (apply TL.appB 0; exact rfl; exact rfl; exact tb rfl; exact rfl; exact tb rfl; exact rfl; exact rfl; exact rfl; exact rfl; exact fun _ h => bs_row (l := []) rfl rfl (by decide) h; exact rfl; (exact m_hsrc))
    · rw [List.length_nil]; omega
    · exact fun _ => (rfl : _ = _ :: _)
    intro A2 c2 hc2
    rw [List.nil_append] at hc2 ⊢
    refine m_run ?_
    (apply TL.callV (Δ := stA b0 X :: bsA 5 (.slice A2 s.l.length c2) s.l :: bsA 5 (.slice A1 X.length k1) X :: Γ); exact rfl; exact callB_of (by kernel_rfl); exact rfl; exact fun _ h => all_perm (List.Perm.append_right Γ (List.perm_append_comm (l₁ := [_, _]) (l₂ := [_]))) h)
    exact write_t b0 X s.l A2 c2 (bsA 5 (.slice A2 s.l.length c2) s.l :: bsA 5 (.slice A1 X.length k1) X :: Γ) (has_bs 0 rfl) hc2 (by omega) (has_tlg (has_tlg hK))
    rintro _ _ ⟨rfl, rfl⟩
    refine m_run ?_
    refine TK.perm (Δ := bsA 5 (.slice A2 s.l.length c2) s.l :: bsA 5 (.slice A1 X.length k1) X :: stA b0 (X ++ s.l) :: Γ) (List.Perm.append_right Γ (List.perm_append_comm (l₁ := [_]) (l₂ := [_, _]))) ?_
    apply TK.iter (fun j ρ' Γ' => ∃ (i2 : Nat) (s2 : List UInt8), i2 + j = s.l.length ∧ s2.length = s.l.length ∧ lk ρ' 0 = .slice (some ⟨b2, o2, none⟩) ss.length c ∧ lk ρ' 1 = .slice B cs.length c' ∧ lk ρ' 5 = .pointer (some ⟨b0, 0, none⟩) ∧ lk ρ' 6 = .slice A1 X.length k1 ∧ lk ρ' 7 = .int .i64 (i : Int) ∧ lk ρ' 8 = .slice A2 s.l.length c2 ∧ lk ρ' 9 = .int .i64 (i2 : Int) ∧
      Γ' = own 5 1 (.slice A2 s.l.length c2) s.l.length (bytesV s2) :: bsA 5 (.slice A1 X.length k1) X :: stA b0 (X ++ s.l) :: Γ) s.l.length
    · exact ⟨0, s.l, Nat.zero_add _, rfl, rfl, rfl, rfl, rfl, rfl, rfl, rfl, rfl⟩
    clear e0 e1 e5 e6 e7
    rintro j2 IH2 ρ' _ ⟨i2, s2, hij2, hs2, e0, e1, e5, e6, e7, e8, e9, rfl⟩
    refine TK.know7 e0 e1 e5 e6 e7 e8 e9 ?_
    by_cases hi2 : i2 < s.l.length
    · obtain ⟨ch, hch⟩ : ∃ ch, s2[i2]? = some ch := ⟨s2[i2]'(by omega), by simp [hs2, hi2]⟩
      have hsrc2 : has (own 5 1 (.slice A2 s.l.length c2) s.l.length (bytesV s2) :: bsA 5 (.slice A1 X.length k1) X :: stA b0 (X ++ s.l) :: Γ) (srcAt 1 A2 s.l.length (bytesV s2)) := has_at (up_src _ _ _ _) 0 rfl fun _ h => own_src h
      refine TK.mem fun m1 hm1 => ?_
      obtain ⟨b4, o4, rfl⟩ := src_some (hsrc2 m1 hm1) (by rw [bytesV_length]; omega)
      have hcell2 := has_byte hsrc2 hch
      refine m_run ?_
      refine TL.know (t := 59) (v := .int .u8 ((b8 (ch.toNat ^^^ 90)).toNat : Int)) (congrArg (Value.int .u8) (xor_b8 ch 90 (by decide))) ?_
      (apply TL.storeOwn 0 i2; exact rfl; exact rfl; exact rfl; exact rfl; exact tb rfl; exact rfl; exact rfl)
      · exact hi2
      refine m_run ?_
      refine IH2 (j2 - 1) _ _ (by omega) ⟨i2 + 1, s2.set i2 (b8 (ch.toNat ^^^ 90)), by omega, by simp [hs2], rfl, rfl, rfl, rfl, rfl, rfl, congrArg (Value.int .i64) (i64_succ i2 (by omega)), ?_⟩
      rw [bytesV_set]; rfl
    clear IH2
    refine m_run ?_
    (apply TL.appB 1; exact rfl; exact rfl; exact tb rfl; exact rfl; exact tb rfl; exact rfl; exact rfl; exact rfl; exact rfl; exact fun _ h => h; exact rfl; (exact m_hsrc))
    · omega
    · exact fun _ => (rfl : _ = _ :: _ :: _)
    intro A3 k3 hk3
    obtain ⟨Y, hY⟩ : ∃ Y, X ++ s.l = Y := ⟨_, rfl⟩
    have hYl : Y.length ≤ 16384 := by rw [← hY, List.length_append]; omega
    rw [hY] at hk3 htk ⊢
    refine m_run ?_
    (apply TL.callV (Δ := stA b0 Y :: own 5 1 (.slice A2 s.l.length c2) s.l.length (bytesV s2) :: bsA 5 (.slice A3 Y.length k3) Y :: Γ); exact rfl; exact callB_of (by kernel_rfl); exact rfl; exact fun _ h => all_perm (List.Perm.append_right Γ (List.perm_append_comm (l₁ := [_, _]) (l₂ := [_]))) h)
    exact sum_t b0 Y (own 5 1 (.slice A2 s.l.length c2) s.l.length (bytesV s2) :: bsA 5 (.slice A3 Y.length k3) Y :: Γ) (by omega) (has_tlg (has_tlg hK))
    rintro _ _ ⟨rfl, rfl⟩
    refine m_run ?_
    (apply TL.buildSlice; exact rfl; exact tb rfl; exact rfl; exact tb rfl; exact rfl; exact rfl; exact rfl; exact rfl; (exact m_lst))
    intro b5
    refine m_run ?_
    (apply TL.callV; exact rfl; exact callB_of (by kernel_rfl); exact rfl; exact fun _ h => h)
    exact shasum_t (some ⟨b5, 0, none⟩) 1 [⟨A3, k3, Y⟩] _ (has_src_row 0 rfl rfl) (fun x h => by
      simp only [List.mem_cons, List.not_mem_nil, or_false] at h
      subst h
      exact has_bs 3 rfl) (fun x h => by
      simp only [List.mem_cons, List.not_mem_nil, or_false] at h
      subst h
      exact hk3) (by rw [flat1]; omega) (show 1 ≤ 1000000000 by decide) (has_tlg (has_tlg (has_tlg (has_tlg hB)))) (has_tlg (has_tlg (has_tlg (has_tlg hK))))
    rintro _ _ ⟨rfl, rfl⟩
    rw [flat1]
    (apply TL.pv; exact rfl; (apply PV.neBytes (a := hashB Y) (b := hashB Y); exact rfl; exact rfl; exact tb rfl; exact rfl; exact tb rfl; exact rfl; exact rfl; kernel_rfl; exact hashB_len _; exact hashB_len _))
    refine TL.know (t := 72) (v := .bool false) (congrArg Value.bool (not_f (beq_self_eq_true _))) ?_
    refine m_run ?_
    refine TK.sub (Δ := stA b0 Y :: bsA 5 (.slice A3 Y.length k3) Y :: Γ) (by (repeat (first | exact List.Sublist.refl _ | apply List.Sublist.cons_cons | apply List.Sublist.cons))) ?_
    refine TK.perm (Δ := bsA 5 (.slice A3 Y.length k3) Y :: stA b0 Y :: Γ) (List.Perm.swap _ _ _) ?_
    refine IH (j - 1) _ _ (by omega) ⟨i + 1, A3, k3, by omega, rfl, rfl, rfl, ?_, ?_, congrArg (Value.int .i64) (i64_succ i (by omega)), ?_⟩
    · rw [htk]; rfl
    · rw [htk]; exact hk3
    · rw [htk]
  obtain rfl : i = ss.length := by omega
  rw [List.take_length] at hk1 ⊢
  clear IH e0 e1 e5 e6 e7
  refine m_run ?_
  (apply TL.callV; exact rfl; exact callB_of (by kernel_rfl); exact rfl; exact fun _ h => h)
  exact new_t _ (has_tlg (has_tlg hB))
  rintro _ _ ⟨b1, rfl, rfl⟩
  obtain ⟨T, hT⟩ : ∃ T, flatS ss = T := ⟨_, rfl⟩
  rw [hT] at htot hk1 ⊢
  have hrT : has (bsA 5 (.slice A1 T.length k1) T :: stA b0 T :: Γ) (srcAt 1 A1 T.length (bytesV T)) := has_bs 0 rfl
  have hcsT : has (bsA 5 (.slice A1 T.length k1) T :: stA b0 T :: Γ) (srcAt 1 B cs.length (natsV .u16 cs)) := has_tls (has_tls hcs)
  have hKT : gConst (bsA 5 (.slice A1 T.length k1) T :: stA b0 T :: Γ) := has_tlg (has_tlg hK)
  obtain ⟨G, hG⟩ : ∃ G, bsA 5 (.slice A1 T.length k1) T :: stA b0 T :: Γ = G := ⟨_, rfl⟩
  rw [hG] at hrT hcsT hKT ⊢
  refine m_run ?_
  apply TK.iter (fun j ρ' Γ' => ∃ (i : Nat) (p r : List UInt8) (Ar : Option Addr) (cr : Nat), i + j = cs.length ∧ p ++ r = T ∧ r.length ≤ cr ∧ has G (srcAt 1 Ar r.length (bytesV r)) ∧ lk ρ' 1 = .slice B cs.length c' ∧ lk ρ' 5 = .pointer (some ⟨b0, 0, none⟩) ∧ lk ρ' 10 = .pointer (some ⟨b1, 0, none⟩) ∧ lk ρ' 11 = .slice Ar r.length cr ∧ lk ρ' 12 = .int .i64 (i : Int) ∧ Γ' = stA b1 p :: G) cs.length
  · exact ⟨0, [], T, A1, k1, Nat.zero_add _, rfl, hk1, hrT, rfl, rfl, rfl, rfl, rfl, rfl⟩
  clear hij hi
  rintro j IH ρ' _ ⟨i, p, r, Ar, cr, hij, hpr, hcr, hr, e1, e5, e10, e11, e12, rfl⟩
  refine TK.know5 e1 e5 e10 e11 e12 ?_
  have hprl : p.length + r.length = T.length := by rw [← hpr, List.length_append]
  by_cases hi : i < cs.length
  · obtain ⟨n, hni⟩ : ∃ n, cs[i]? = some n := ⟨cs[i], by simp [hi]⟩
    have hn16 := hc16 n (List.mem_of_getElem? hni)
    refine TK.mem fun m0 hm0 => ?_
    obtain ⟨b3, o3, rfl⟩ := src_some (has_tls hcsT m0 hm0) (by simp [natsV]; omega)
    clear hm0 m0
    have hcell := has_get hcsT (natsV_get (q := .u16) hni)
    obtain ⟨q, hq⟩ : ∃ q, n % (r.length + 1) = q := ⟨_, rfl⟩
    have hqr : q ≤ r.length := by have := Nat.mod_lt n (show 0 < r.length + 1 by omega); omega
    have hs1 : has G (srcAt 1 (if cr = 0 then Ar else Ar.map fun a => a.add (0 * 1)) (r.take q).length (bytesV (r.take q))) := by
      have h := has_imp hr fun m hm => src_part hm (Nat.zero_le q) hqr (Nat.le_trans hqr hcr)
      have h2 := has_part (l := r) h (by omega)
      rw [List.length_take, Nat.min_eq_left hqr]
      rwa [Nat.sub_zero, List.drop_zero] at h2
    have hrd : (r.drop q).length = r.length - q := List.length_drop
    have hs2 : has G (srcAt 1 (if cr = q then Ar else Ar.map fun a => a.add (q * 1)) (r.drop q).length (bytesV (r.drop q))) := by
      have h := has_imp hr fun m hm => src_part hm hqr (Nat.le_refl _) hcr
      have h2 := has_part (l := r) h (by omega)
      rw [hrd]
      rwa [List.take_of_length_le (by omega)] at h2
    refine m_run ?_
    refine TL.know (t := 85) (v := .int .i64 (n : Int)) (congrArg (Value.int .i64) (i64_nat (by omega))) ?_
    refine TL.know (t := 88) (v := .int .i64 ((r.length + 1 : Nat) : Int)) (congrArg (Value.int .i64) (i64_succ _ (by omega))) ?_
    (apply TL.pv; exact rfl; (apply PV.remN (n := n) (m := r.length + 1); exact rfl; exact rfl; exact rfl; exact (by omega)))
    rw [hq]
    refine m_run ?_
    (apply TL.pv; exact rfl; (apply PV.sliceS (i := 0) (j := q); exact rfl; exact tb rfl; exact rfl; exact tb rfl; exact .none; exact .some rfl; exact Nat.zero_le _; exact Nat.le_trans hqr hcr))
    refine TL.know (t := 93) (v := .slice (if cr = 0 then Ar else Ar.map fun a => a.add (0 * 1)) (r.take q).length cr) (congrArg (fun z : Nat => Value.slice (if cr = 0 then Ar else Ar.map fun a : Addr => a.add (0 * 1)) z cr) (show q - 0 = (r.take q).length by rw [List.length_take, Nat.min_eq_left hqr, Nat.sub_zero])) ?_
    refine m_run ?_
    (apply TL.callV; exact rfl; exact callB_of (by kernel_rfl); exact rfl; exact fun _ h => h)
    exact write_t b1 p (r.take q) _ cr G hs1 (by rw [List.length_take]; omega) (by rw [List.length_take]; omega) hKT
    rintro _ _ ⟨rfl, rfl⟩
    refine m_run ?_
    (apply TL.pv; exact rfl; (apply PV.sliceS (i := q) (j := r.length); exact rfl; exact tb rfl; exact rfl; exact tb rfl; exact .some rfl; exact .none; exact hqr; exact hcr))
    refine m_run ?_
    exact IH (j - 1) _ _ (by omega) ⟨i + 1, p ++ r.take q, r.drop q, _, cr - q, by omega, by rw [List.append_assoc, List.take_append_drop, hpr], by omega, hs2, rfl, rfl, rfl, congrArg (fun z => Value.slice _ z (cr - q)) hrd.symm, congrArg (Value.int .i64) (i64_succ i (by omega)), rfl⟩
  clear IH e1 e5 e10 e11 e12
  refine m_run ?_
  (apply TL.callV; exact rfl; exact callB_of (by kernel_rfl); exact rfl; exact fun _ h => h)
  exact write_t b1 p r Ar cr G hr hcr (by omega) hKT
  rintro _ _ ⟨rfl, rfl⟩
  rw [hpr, ← hG]
  refine TL.sub (Δ := stA b1 T :: stA b0 T :: Γ) (by (repeat (first | exact List.Sublist.refl _ | apply List.Sublist.cons_cons | apply List.Sublist.cons))) ?_
  refine m_run ?_
  (apply TL.callV; exact rfl; exact callB_of (by kernel_rfl); exact rfl; exact fun _ h => h)
  exact sum_t b1 T (stA b0 T :: Γ) (by omega) (has_tlg hK)
  rintro _ _ ⟨rfl, rfl⟩
  refine m_run ?_
  (apply TL.callV (Δ := stA b0 T :: stA b1 T :: Γ); exact rfl; exact callB_of (by kernel_rfl); exact rfl; exact fun _ h => all_perm (List.Perm.swap _ _ _) h)
  exact sum_t b0 T (stA b1 T :: Γ) (by omega) (has_tlg hK)
  rintro _ _ ⟨rfl, rfl⟩
  refine m_run ?_
  (apply TL.pv; exact rfl; (apply PV.eqBytes (a := hashB T) (b := hashB T); exact rfl; exact rfl; exact tb rfl; exact rfl; exact tb rfl; exact rfl; exact rfl; kernel_rfl; exact hashB_len _; exact hashB_len _))
  refine TL.know (t := 105) (v := .bool true) (congrArg Value.bool (beq_self_eq_true _)) ?_
  refine m_run ?_
  (apply TL.callV (Δ := stA b1 T :: stA b0 T :: Γ); exact rfl; exact callB_of (by kernel_rfl); exact rfl; exact fun _ h => all_perm (List.Perm.swap _ _ _) h)
  exact sum_t b1 T (stA b0 T :: Γ) (by omega) (has_tlg hK)
  rintro _ _ ⟨rfl, rfl⟩
  refine m_run ?_
  (apply TL.callV (Δ := stA b0 T :: stA b1 T :: Γ); exact rfl; exact callB_of (by kernel_rfl); exact rfl; exact fun _ h => all_perm (List.Perm.swap _ _ _) h)
  exact sum_t b0 T (stA b1 T :: Γ) (by omega) (has_tlg hK)
  rintro _ _ ⟨rfl, rfl⟩
  refine m_run ?_
  (apply TL.pv; exact rfl; (apply PV.eqBytes (a := hashB T) (b := hashB T); exact rfl; exact rfl; exact tb rfl; exact rfl; exact tb rfl; exact rfl; exact rfl; kernel_rfl; exact hashB_len _; exact hashB_len _))
  refine TL.know (t := 111) (v := .bool true) (congrArg Value.bool (beq_self_eq_true _)) ?_
  refine TL.sub (Δ := Γ) (List.sublist_append_right (_ :: [_]) Γ) ?_
  refine m_run ?_
  (apply TL.callV; exact rfl; exact callB_of (by kernel_rfl); exact rfl; exact fun _ h => h)
  exact works2_t _ hB hK
  rintro _ Γ ⟨rfl, rfl⟩
  refine m_run ?_
  (apply TK.ret1; exact rfl; exact rfl; (exact m_val))
  exact ⟨_, rfl, rfl, rfl⟩
end Go.Proofs.YtdookobgkcnncaaDoor.E
