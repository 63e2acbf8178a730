/- OctetVars, OctetShort, OctetStrings, whatever is handed in: the walks: each answers true. -/
import Derived.Test.YtoccilnobgoncaaP1
namespace Go.Proofs.Ytoccilnobgoncaa.E
open Go Go.RowKit Go.Proofs
attribute [local irreducible] TK TL TQ TA Fn PV
theorem has_rowB {Γ : List HP} {g e n : Nat} {l s : List UInt8} (i : Nat) (hi : Γ[i]? = some (row g (bytesV (l ++ s)) e)) (hn : n = l.length) : has Γ (srcAt 1 (some ⟨g, 0, none⟩) n (bytesV l)) :=
  has_at (up_src _ _ _ _) i hi fun m hm => by
    subst hn
    have h := src_take (src_row (n := (l ++ s).length) hm rfl (by rw [bytesV_length, Nat.mul_one])) (show l.length ≤ (l ++ s).length by simp)
    rwa [bytesV_append, Nat.mul_one, List.take_left' (bytesV_length l)] at h
theorem has_rowA {Γ : List HP} {g e n : Nat} {l : List UInt8} (i : Nat) (hi : Γ[i]? = some (row g (bytesV l) e)) (hn : n = l.length) : has Γ (srcAt 1 (some ⟨g, 0, none⟩) n (bytesV l)) :=
  has_at (up_src _ _ _ _) i hi fun m hm => by
    subst hn
    exact src_row hm rfl (by rw [bytesV_length, Nat.mul_one])
set_option maxRecDepth 100000 in
theorem vars_t (A : Option Addr) (m c : Nat) (l : List UInt8) (n : Nat) (at_ : Int) (Γ : List HP) (hs : has Γ (srcAt 1 A m (bytesV l))) (hmc : m ≤ c) (hn : n < 18446744073709551616) :
    FnV Try.prog 10 [.slice A m c, .int .u64 (n : Int), .int .i64 at_] Γ fun v Γ' => v = .bool true ∧ Γ' = Γ := by
  refine Fn.enter Try.func10 rfl rfl rfl fun E => ?_
  refine TK.mem fun m0 hm0 => ?_
  obtain rfl := src_lenB (hs m0 hm0)
  by_cases hv : 8192 < l.length
  · refine m_run ?_
    (apply TL.callV; exact rfl; exact callB_of (by kernel_rfl); exact rfl; exact fun _ h => h)
    exact vast_t A l.length c _
    rintro _ Γ ⟨rfl, rfl⟩
    refine m_run ?_
    (apply TL.callV; exact rfl; exact callB_of (by kernel_rfl); exact rfl; exact fun _ h => h)
    exact works1_t _
    rintro _ Γ ⟨rfl, rfl⟩
    refine m_run ?_
    (apply TK.ret1; exact rfl; exact rfl; (exact m_val))
    exact ⟨_, rfl, rfl, rfl⟩
  · refine m_run ?_
    (apply TL.callV; exact rfl; exact callB_of (by kernel_rfl); exact rfl; exact fun _ h => h)
    exact vast_t A l.length c _
    rintro _ Γ ⟨rfl, rfl⟩
    refine m_run ?_
    (apply TL.callV; exact rfl; exact callB_of (by kernel_rfl); exact rfl; exact fun _ h => h)
    exact roomy_t A l.length c l _ hs (by omega)
    rintro _ _ ⟨g, rfl, rfl⟩
    refine m_run ?_
    (apply TL.callV; exact rfl; exact callB_of (by kernel_rfl); exact rfl; exact fun _ h => h)
    exact putvar_t (some ⟨g, 0, none⟩) l.length (l.length + 30) l n _ (has_rowB 0 rfl rfl) hn (by omega)
    rintro _ _ ⟨A2, c2, rfl, hc2, rfl⟩
    refine m_run ?_
    (apply TL.callV; exact rfl; exact callB_of (by kernel_rfl); exact rfl; exact fun _ h => h)
    exact kept_t (some ⟨g, 0, none⟩) A 30 l.length c l _ (has_rowA 1 rfl (by simp)) (has_tls (has_tls hs)) (by omega)
    rintro _ _ ⟨rfl, rfl⟩
    refine m_run ?_
    (apply TL.callV; exact rfl; exact callB_of (by kernel_rfl); exact rfl; exact fun _ h => h)
    exact refputvar_t A l.length c l n _ (has_tls (has_tls hs)) hn (by omega)
    rintro _ _ ⟨A3, c3, rfl, hc3, rfl⟩
    refine m_run ?_
    (apply TL.callV; exact rfl; exact callB_of (by kernel_rfl); exact rfl; exact fun _ h => h)
    exact same1_t A2 A3 _ _ _ _ (l ++ varM n) (l ++ varM n) _ (has_bs 1 rfl) (has_bs 0 rfl)
    rintro _ _ ⟨rfl, rfl⟩
    refine m_run ?_
    (apply TL.callV; exact rfl; exact callB_of (by kernel_rfl); exact rfl; exact fun _ h => h)
    exact takevar_t (some ⟨g, 0, none⟩) l.length (l.length + 30) l at_ _ (has_rowB 2 rfl rfl) (by omega) (by omega)
    rintro _ _ ⟨rfl, rfl⟩
    obtain ⟨⟨x, next, e⟩, hT⟩ : ∃ x, takeV l at_ = x := ⟨_, rfl⟩
    rw [show tkV (takeV l at_) = .tuple #[.int .u64 (x : Int), .int .i64 (next : Int), .int .i64 (e : Int)] by rw [hT]; rfl]
    refine m_run ?_
    (apply TL.callV; exact rfl; exact callB_of (by kernel_rfl); exact rfl; exact fun _ h => h)
    exact reftakevar_t A l.length c l at_ _ (has_tls (has_tls (has_tls hs))) hmc (by omega)
    rintro _ _ ⟨rfl, rfl⟩
    rw [show tkV (takeV l at_) = .tuple #[.int .u64 (x : Int), .int .i64 (next : Int), .int .i64 (e : Int)] by rw [hT]; rfl]
    refine m_run ?_
    (apply TL.callV; exact rfl; exact callB_of (by kernel_rfl); exact rfl; exact fun _ h => h)
    exact works1_t _
    rintro _ _ ⟨rfl, rfl⟩
    refine m_run ?_
    (apply TK.retS1; exact rfl; exact rfl; (exact m_val))
    · exact ⟨_, rfl, rfl, rfl⟩
    · (repeat (first | exact List.Sublist.refl _ | apply List.Sublist.cons_cons | apply List.Sublist.cons))
def lenV (m : Nat) : Nat := if m = 0 then 0 else (varM m).length
theorem lenV_var (n : Nat) : (varM n).length = 1 + lenV (n / 128) := by
  unfold lenV
  by_cases h : n < 128
  · rw [varM_lt h, if_pos (by omega)]; rfl
  · rw [varM_ge h, if_neg (by omega), List.length_cons]; omega
theorem lenV_pos {m : Nat} (h : 0 < m) : lenV m = 1 + lenV (m / 128) := by
  rw [← lenV_var]; unfold lenV; rw [if_neg (by omega)]
set_option maxRecDepth 100000 in
theorem short_t (n : Nat) (Γ : List HP) (hn : n < 18446744073709551616) :
    FnV Try.prog 11 [.int .u64 (n : Int)] Γ fun v Γ' => v = .bool true ∧ Γ' = Γ := by
  refine Fn.enter Try.func11 rfl rfl rfl fun E => ?_
  have hvl := varM_len n hn
  refine m_run ?_
  apply TK.iter (fun j ρ' Γ' => ∃ (k m : Nat), m ≤ j ∧ m < 18446744073709551616 ∧ (varM n).length = k + lenV m ∧ lk ρ' 0 = .int .u64 (n : Int) ∧ lk ρ' 3 = .int .i64 (k : Int) ∧ lk ρ' 4 = .int .u64 (m : Int) ∧ Γ' = Γ) (n / 128)
  · exact ⟨1, n / 128, Nat.le_refl _, by omega, lenV_var n, rfl, rfl, congrArg (Value.int .u64) (by rw [show (n : Int).tdiv 128 = ((n / 128 : Nat) : Int) from rfl, u64_nat (by omega)]), rfl⟩
  rintro j IH ρ' Γ ⟨k, m, hmj, hm, hk, e0, e3, e4, rfl⟩
  refine TK.know3 e0 e3 e4 ?_
  by_cases h0 : 0 < m
  · rw [lenV_pos h0] at hk
    refine m_run ?_
    exact IH (m / 128) _ _ (by omega) ⟨k + 1, m / 128, Nat.le_refl _, by omega, by omega, rfl, congrArg (Value.int .i64) (i64_succ k (by omega)), congrArg (Value.int .u64) (by rw [show (m : Int).tdiv 128 = ((m / 128 : Nat) : Int) from rfl, u64_nat (by omega)]), rfl⟩
  · obtain rfl : m = 0 := by omega
    have hk2 : (varM n).length = k := by simpa [lenV] using hk
    refine m_run ?_
    (apply TL.callV; exact rfl; exact callB_of (by kernel_rfl); exact rfl; exact fun _ h => h)
    exact putvar_t none 0 0 [] n _ (has_srcnil _ _) hn (by decide)
    rintro _ _ ⟨A3, c3, rfl, hc3, rfl⟩
    rw [List.nil_append, hk2]
    refine m_run ?_
    (apply TL.callV; exact rfl; exact callB_of (by kernel_rfl); exact rfl; exact fun _ h => h)
    exact works1_t _
    rintro _ _ ⟨rfl, rfl⟩
    refine m_run ?_
    (apply TK.retS1; exact rfl; exact rfl; (exact m_val))
    · exact ⟨_, rfl, rfl, rfl⟩
    · (repeat (first | exact List.Sublist.refl _ | apply List.Sublist.cons_cons | apply List.Sublist.cons))
theorem xor_b8 (c : UInt8) (k : Nat) (hk : k < 256) : bitsOf .xor .u8 (c.toNat : Int) (k : Int) = ((b8 (c.toNat ^^^ k)).toNat : Int) := by
  rw [bits_xor rfl (UInt8.toNat_lt c) hk, b8_nat (Nat.xor_lt_two_pow (n := 8) (UInt8.toNat_lt c) hk)]
theorem row_own {e g n cap : Nat} {cur : List Value} {m : Mem} (h : row g cur e m) (hl : cur.length = cap) (hn : n ≤ cap) (h63 : cap ≤ maxLen) : own e 1 (.slice (some ⟨g, 0, none⟩) n cap) n (cur.take n) m :=
  ⟨by rw [List.length_take, hl, Nat.mul_one]; exact Nat.min_eq_left hn, .inr ⟨g, cap, cur, rfl, hn, h63, by rw [hl, Nat.mul_one], by rw [Nat.mul_one], h⟩⟩
theorem rowB_own {e g r : Nat} {l : List UInt8} {m : Mem} (h : row g (bytesV (l ++ List.replicate r 0)) e m) (hl : l.length + r ≤ 1000000000) : own e 1 (.slice (some ⟨g, 0, none⟩) l.length (l.length + r)) l.length (bytesV l) m := by
  have := row_own (n := l.length) (cap := l.length + r) h (by simp [bytesV_length]) (by omega) (by unfold maxLen; omega)
  rwa [bytesV_append, List.take_left' (bytesV_length l)] at this
set_option maxRecDepth 100000 in
theorem strings_t (A B : Option Addr) (m c m' c' : Nat) (l s : List UInt8) (at_ most : Int) (Γ : List HP) (hs : has Γ (srcAt 1 A m (bytesV l))) (hs' : has Γ (srcAt 1 B m' (bytesV s))) (hmc : m ≤ c) (hm1 : -9223372036854775808 ≤ most) (hm2 : most ≤ 9223372036854775807) :
    FnV Try.prog 12 [.slice A m c, .slice B m' c', .int .i64 at_, .int .i64 most] Γ fun v Γ' => v = .bool true ∧ Γ' = Γ := by
  refine Fn.enter Try.func12 rfl rfl rfl fun E => ?_
  refine TK.mem fun m0 hm0 => ?_
  obtain rfl := src_lenB (hs m0 hm0)
  obtain rfl := src_lenB (hs' m0 hm0)
  by_cases hv : 8192 < l.length ∨ 8192 < s.length
  · by_cases hv1 : 8192 < l.length
    · refine m_run ?_
      (apply TL.callV; exact rfl; exact callB_of (by kernel_rfl); exact rfl; exact fun _ h => h)
      exact vast_t A l.length c _
      rintro _ Γ ⟨rfl, rfl⟩
      refine m_run ?_
      (apply TL.callV; exact rfl; exact callB_of (by kernel_rfl); exact rfl; exact fun _ h => h)
      exact works1_t _
      rintro _ Γ ⟨rfl, rfl⟩
      refine m_run ?_
      (apply TK.ret1; exact rfl; exact rfl; (exact m_val))
      exact ⟨_, rfl, rfl, rfl⟩
    · have hv2 : 8192 < s.length := by omega
      refine m_run ?_
      (apply TL.callV; exact rfl; exact callB_of (by kernel_rfl); exact rfl; exact fun _ h => h)
      exact vast_t A l.length c _
      rintro _ Γ ⟨rfl, rfl⟩
      refine m_run ?_
      (apply TL.callV; exact rfl; exact callB_of (by kernel_rfl); exact rfl; exact fun _ h => h)
      exact vast_t B s.length c' _
      rintro _ Γ ⟨rfl, rfl⟩
      refine m_run ?_
      (apply TL.callV; exact rfl; exact callB_of (by kernel_rfl); exact rfl; exact fun _ h => h)
      exact works1_t _
      rintro _ Γ ⟨rfl, rfl⟩
      refine m_run ?_
      (apply TK.ret1; exact rfl; exact rfl; (exact m_val))
      exact ⟨_, rfl, rfl, rfl⟩
  · have hv1 : ¬ 8192 < l.length := by omega
    have hv2 : ¬ 8192 < s.length := by omega
    refine m_run ?_
    (apply TL.callV; exact rfl; exact callB_of (by kernel_rfl); exact rfl; exact fun _ h => h)
    exact vast_t A l.length c _
    rintro _ Γ ⟨rfl, rfl⟩
    refine m_run ?_
    (apply TL.callV; exact rfl; exact callB_of (by kernel_rfl); exact rfl; exact fun _ h => h)
    exact vast_t B s.length c' _
    rintro _ Γ ⟨rfl, rfl⟩
    refine m_run ?_
    (apply TL.callV; exact rfl; exact callB_of (by kernel_rfl); exact rfl; exact fun _ h => h)
    exact roomy_t A l.length c l _ hs (by omega)
    rintro _ _ ⟨g, rfl, rfl⟩
    refine m_run ?_
    (apply TL.buildSlice; exact rfl; exact tb rfl; exact rfl; exact tb rfl; exact rfl; exact rfl; exact rfl; exact rfl; (exact m_lst))
    intro b1
    refine m_run ?_
    (apply TL.appB 0; exact rfl; exact rfl; exact tb rfl; exact rfl; exact tb rfl; exact rfl; exact rfl; exact rfl; exact rfl; exact fun _ h => bs_row (l := []) rfl rfl (by decide) h; exact rfl; (exact m_hsrc))
    · simp; omega
    · exact fun _ => (rfl : _ = _ :: _)
    intro A1 c1 hc1
    rw [List.nil_append] at hc1 ⊢
    refine m_run ?_
    (apply TL.callV; exact rfl; exact callB_of (by kernel_rfl); exact rfl; exact fun _ h => h)
    exact putbytes_t (some ⟨g, 0, none⟩) A1 l.length (l.length + 30) s.length c1 l s _ (has_rowB 1 rfl rfl) (has_bs 0 rfl) (by omega) (by omega)
    rintro _ _ ⟨A2, c2, rfl, hc2, rfl⟩
    refine m_run ?_
    apply TK.iter (fun j ρ' Γ' => ∃ (i : Nat) (s2 : List UInt8), i + j = s.length ∧ s2.length = s.length ∧ lk ρ' 0 = .slice A l.length c ∧ lk ρ' 1 = .slice B s.length c' ∧ lk ρ' 2 = .int .i64 at_ ∧ lk ρ' 3 = .int .i64 most ∧ lk ρ' 9 = .slice (some ⟨g, 0, none⟩) l.length (l.length + 30) ∧ lk ρ' 10 = .slice A1 s.length c1 ∧ lk ρ' 11 = .slice A2 (l ++ varM s.length ++ s).length c2 ∧ lk ρ' 12 = .int .i64 (i : Int) ∧
      Γ' = bsA 5 (.slice A2 (l ++ varM s.length ++ s).length c2) (l ++ varM s.length ++ s) :: own 5 1 (.slice A1 s.length c1) s.length (bytesV s2) :: row g (bytesV (l ++ List.replicate 30 0)) 5 :: Γ) s.length
    · exact ⟨0, s, by omega, rfl, rfl, rfl, rfl, rfl, rfl, rfl, rfl, rfl, rfl⟩
    rintro j IH ρ' Γ' ⟨i, s2, hij, hs2, e0, e1, e2, e3, e9, e10, e11, e12, rfl⟩
    refine TK.know8 e0 e1 e2 e3 e9 e10 e11 e12 ?_
    by_cases hi : i < s.length
    · obtain ⟨ch, hch⟩ : ∃ ch, s2[i]? = some ch := ⟨s2[i]'(by omega), by simp [hs2, hi]⟩
      have hsrc : has (bsA 5 (.slice A2 (l ++ varM s.length ++ s).length c2) (l ++ varM s.length ++ s) :: own 5 1 (.slice A1 s.length c1) s.length (bytesV s2) :: row g (bytesV (l ++ List.replicate 30 0)) 5 :: Γ) (srcAt 1 A1 s.length (bytesV s2)) := has_at (up_src _ _ _ _) 1 rfl fun _ h => own_src h
      refine TK.mem fun m1 hm1 => ?_
      obtain ⟨b, o, rfl⟩ := src_some (hsrc m1 hm1) (by rw [bytesV_length]; omega)
      have hcell := has_byte hsrc hch
      refine m_run ?_
      refine TL.know (t := 47) (v := .int .u8 ((b8 (ch.toNat ^^^ 3)).toNat : Int)) (congrArg (Value.int .u8) (xor_b8 ch 3 (by decide))) ?_
      (apply TL.storeOwn 1 i; exact rfl; exact rfl; exact rfl; exact rfl; exact tb rfl; exact rfl; exact rfl)
      · exact hi
      refine m_run ?_
      refine IH (j - 1) _ _ (by omega) ⟨i + 1, s2.set i (b8 (ch.toNat ^^^ 3)), by omega, by simp [hs2], rfl, rfl, rfl, rfl, rfl, rfl, rfl, congrArg (Value.int .i64) (i64_succ i (by omega)), ?_⟩
      rw [bytesV_set]; rfl
    · refine m_run ?_
      (apply TL.callV; exact rfl; exact callB_of (by kernel_rfl); exact rfl; exact fun _ h => h)
      exact kept_t (some ⟨g, 0, none⟩) A 30 l.length c l _ (has_rowA 2 rfl (by simp)) (has_tls (has_tls (has_tls hs))) (by omega)
      rintro _ _ ⟨rfl, rfl⟩
      refine m_run ?_
      (apply TL.callV; exact rfl; exact callB_of (by kernel_rfl); exact rfl; exact fun _ h => h)
      exact refputbytes_t A B l.length c s.length c' l s _ (has_tls (has_tls (has_tls hs))) (has_tls (has_tls (has_tls hs'))) (by omega) (by omega)
      rintro _ _ ⟨A3, c3, rfl, hc3, rfl⟩
      refine m_run ?_
      (apply TL.callV; exact rfl; exact callB_of (by kernel_rfl); exact rfl; exact fun _ h => h)
      exact same1_t A2 A3 _ _ _ _ (l ++ varM s.length ++ s) (l ++ varM s.length ++ s) _ (has_bs 1 rfl) (has_bs 0 rfl)
      rintro _ _ ⟨rfl, rfl⟩
      refine m_run ?_
      (apply TL.callV; exact rfl; exact callB_of (by kernel_rfl); exact rfl; exact fun _ h => h)
      exact takebytes_t (some ⟨g, 0, none⟩) l.length (l.length + 30) l at_ most _ (has_rowB 3 rfl rfl) (by omega) (by omega) hm1 hm2
      rintro _ _ ⟨A4, c4, rfl, hc4, rfl⟩
      refine m_run ?_
      refine TK.sub (Δ := bsA 5 (.slice A4 (takeBy l at_ most).1.length c4) (takeBy l at_ most).1 :: row g (bytesV (l ++ List.replicate 30 0)) 5 :: Γ) (by (repeat (first | exact List.Sublist.refl _ | apply List.Sublist.cons_cons | apply List.Sublist.cons))) ?_
      refine TK.imp (Δ := bsA 5 (.slice A4 (takeBy l at_ most).1.length c4) (takeBy l at_ most).1 :: own 5 1 (.slice (some ⟨g, 0, none⟩) l.length (l.length + 30)) l.length (bytesV l) :: Γ) (fun m hm => sep_mono hm (fun _ => id) (fun q hq => sep_mono hq (fun r hr => rowB_own hr (by omega)) (fun _ => id))) ?_
      apply TK.iter (fun j ρ' Γ' => ∃ (i : Nat) (s2 : List UInt8), i + j = l.length ∧ s2.length = l.length ∧ lk ρ' 0 = .slice A l.length c ∧ lk ρ' 2 = .int .i64 at_ ∧ lk ρ' 3 = .int .i64 most ∧ lk ρ' 9 = .slice (some ⟨g, 0, none⟩) l.length (l.length + 30) ∧ lk ρ' 13 = .slice A4 (takeBy l at_ most).1.length c4 ∧ lk ρ' 14 = .int .i64 ((takeBy l at_ most).2.1 : Int) ∧ lk ρ' 15 = .int .i64 ((takeBy l at_ most).2.2 : Int) ∧ lk ρ' 16 = .int .i64 (i : Int) ∧
        Γ' = bsA 5 (.slice A4 (takeBy l at_ most).1.length c4) (takeBy l at_ most).1 :: own 5 1 (.slice (some ⟨g, 0, none⟩) l.length (l.length + 30)) l.length (bytesV s2) :: Γ) l.length
      · exact ⟨0, l, by omega, rfl, rfl, rfl, rfl, rfl, rfl, rfl, rfl, rfl, rfl⟩
      clear IH e0 e1 e2 e3 e9 e10 e11 e12
      rintro j2 IH ρ2 Γ' ⟨i2, s3, hij2, hs3, e0, e2, e3, e9, e13, e14, e15, e16, rfl⟩
      refine TK.know8 e0 e2 e3 e9 e13 e14 e15 e16 ?_
      by_cases hi2 : i2 < l.length
      · obtain ⟨ch, hch⟩ : ∃ ch, s3[i2]? = some ch := ⟨s3[i2]'(by omega), by simp [hs3, hi2]⟩
        have hsrc : has (bsA 5 (.slice A4 (takeBy l at_ most).1.length c4) (takeBy l at_ most).1 :: own 5 1 (.slice (some ⟨g, 0, none⟩) l.length (l.length + 30)) l.length (bytesV s3) :: Γ) (srcAt 1 (some ⟨g, 0, none⟩) l.length (bytesV s3)) := has_at (up_src _ _ _ _) 1 rfl fun _ h => own_src h
        have hcell := has_byte hsrc hch
        rw [Nat.zero_add] at hcell
        refine m_run ?_
        refine TL.know (t := 81) (v := .int .u8 ((b8 (ch.toNat ^^^ 9)).toNat : Int)) (congrArg (Value.int .u8) (xor_b8 ch 9 (by decide))) ?_
        (apply TL.storeOwn 1 i2; exact rfl; exact rfl; exact rfl; exact rfl; exact tb rfl; exact rfl; exact (Nat.zero_add _).symm)
        · exact hi2
        refine m_run ?_
        refine IH (j2 - 1) _ _ (by omega) ⟨i2 + 1, s3.set i2 (b8 (ch.toNat ^^^ 9)), by omega, by simp [hs3], rfl, rfl, rfl, rfl, rfl, rfl, rfl, congrArg (Value.int .i64) (i64_succ i2 (by omega)), ?_⟩
        rw [bytesV_set]; rfl
      · refine m_run ?_
        (apply TL.callV; exact rfl; exact callB_of (by kernel_rfl); exact rfl; exact fun _ h => h)
        exact reftakebytes_t A l.length c l at_ most _ (has_tls (has_tls hs)) hmc (by omega) hm1 hm2
        rintro _ _ ⟨A5, c5, rfl, hc5, rfl⟩
        refine m_run ?_
        (apply TL.callV; exact rfl; exact callB_of (by kernel_rfl); exact rfl; exact fun _ h => h)
        exact same1_t A4 A5 _ _ _ _ (takeBy l at_ most).1 (takeBy l at_ most).1 _ (has_bs 1 rfl) (has_bs 0 rfl)
        rintro _ _ ⟨rfl, rfl⟩
        refine m_run ?_
        (apply TL.callV; exact rfl; exact callB_of (by kernel_rfl); exact rfl; exact fun _ h => h)
        exact works1_t _
        rintro _ _ ⟨rfl, rfl⟩
        refine m_run ?_
        (apply TK.retS1; exact rfl; exact rfl; (exact m_val))
        · exact ⟨_, rfl, rfl, rfl⟩
        · (repeat (first | exact List.Sublist.refl _ | apply List.Sublist.cons_cons | apply List.Sublist.cons))
end Go.Proofs.Ytoccilnobgoncaa.E
