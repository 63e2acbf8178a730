/- PutBytes, TakeBytes, both: walked. -/
import Derived.Test.YtoccilnobgoncaaO6
namespace Go.Proofs.Ytoccilnobgoncaa.E
open Go Go.RowKit Go.Proofs
attribute [local irreducible] TK TL TQ TA Fn PV
set_option maxRecDepth 100000 in
theorem putbytes_t (A B : Option Addr) (m c m' c' : Nat) (l s : List UInt8) (Γ : List HP) (hs : has Γ (srcAt 1 A m (bytesV l))) (hs' : has Γ (srcAt 1 B m' (bytesV s))) (hl : l.length ≤ 1000000000) (hl' : s.length ≤ 1000000000) :
    FnV Try.prog 48 [.slice A m c, .slice B m' c'] Γ (RB 5 Γ (l ++ varM s.length ++ s)) := by
  refine Fn.enter Try.func48 rfl rfl rfl fun E => ?_
  refine TK.mem fun m0 hm0 => ?_
  obtain rfl := src_lenB (hs' m0 hm0)
  have hv := varM_len s.length (by omega)
  refine m_run ?_
  refine TL.know (t := 8) (v := .int .u64 (s.length : Int)) (congrArg (Value.int .u64) (u64_nat (by omega))) ?_
  (apply TL.callV; exact rfl; exact callB_of (by kernel_rfl); exact rfl; exact fun _ h => h)
  exact putvar_t A m c l s.length _ hs (by omega) hl
  rintro _ _ ⟨A2, c2, rfl, hc2, rfl⟩
  refine m_run ?_
  (apply TL.buildSlice; exact rfl; exact tb rfl; exact rfl; exact tb rfl; exact rfl; exact rfl; exact rfl; exact rfl; (exact m_lst))
  intro b
  refine m_run ?_
  (apply TL.callV; exact rfl; exact callB_of (by kernel_rfl); exact rfl; exact fun _ h => h)
  exact concat_t A2 B _ c2 _ c' _ _ b _ (has_src_row 0 rfl rfl) (has_tls (has_bs 0 rfl)) (has_tls (has_tls hs')) (by simp; omega) (by omega)
  rintro _ _ ⟨A3, c3, rfl, hc3, rfl⟩
  refine m_run ?_
  (apply TK.retS1; exact rfl; exact rfl; (exact m_val))
  · exact ⟨_, rfl, _, _, rfl, hc3, rfl⟩
  · (repeat (first | exact List.Sublist.refl _ | apply List.Sublist.cons_cons | apply List.Sublist.cons))
/-- A byte string, taken. -/
def takeBy (l : List UInt8) (at_ most : Int) : List UInt8 × Nat × Nat := match takeV l at_ with
  | (n, next, e) => if e ≠ 0 then ([], 0, e) else if most < 0 ∨ most < n then ([], 0, 6) else if l.length - next < n then ([], 0, 5) else ((l.drop next).take n, next + n, 0)
theorem takeV_le {l : List UInt8} {at_ : Int} {n next e : Nat} (h : takeV l at_ = (n, next, e)) (he : e = 0) : n < 18446744073709551616 ∧ next ≤ l.length := by
  subst he
  unfold takeV at h
  split at h
  · rename_i hat
    split at h
    · rename_i v j hs
      injection h with h1 h2
      injection h2 with h2 _
      obtain ⟨h3, h4, h5⟩ := scanP_iff.1 hs
      have h6 : (varM v).length = min j (l.drop at_.toNat).length := by rw [h5, List.length_take]
      rw [List.length_drop] at h6
      exact ⟨by omega, by omega⟩
    · injection h with _ h; injection h with _ h; cases h
  · injection h with _ h; injection h with _ h; cases h
theorem takeV_e {l : List UInt8} {at_ : Int} {n next e : Nat} (h : takeV l at_ = (n, next, e)) : e ≤ 5 := by
  unfold takeV at h
  split at h
  · split at h <;> (injection h with _ h; injection h with _ h; omega)
  · injection h with _ h; injection h with _ h; omega
/-- What comes back. -/
def RB3 (Γ : List HP) (x : List UInt8 × Nat × Nat) : Value → List HP → Prop := fun v Γ' => ∃ A c, v = .tuple #[.slice A x.1.length c, .int .i64 (x.2.1 : Int), .int .i64 (x.2.2 : Int)] ∧ x.1.length ≤ c ∧ Γ' = bsA 5 (.slice A x.1.length c) x.1 :: Γ
set_option maxRecDepth 100000 in
theorem takebytes_t (A : Option Addr) (m c : Nat) (l : List UInt8) (at_ most : Int) (Γ : List HP) (hs : has Γ (srcAt 1 A m (bytesV l))) (hmc : m ≤ c) (hl : l.length ≤ 1000000000) (hm1 : -9223372036854775808 ≤ most) (hm2 : most ≤ 9223372036854775807) :
    FnV Try.prog 50 [.slice A m c, .int .i64 at_, .int .i64 most] Γ (RB3 Γ (takeBy l at_ most)) := by
  refine Fn.enter Try.func50 rfl rfl rfl fun E => ?_
  refine TK.mem fun m0 hm0 => ?_
  obtain rfl := src_lenB (hs m0 hm0)
  refine m_run ?_
  (apply TL.callV; exact rfl; exact callB_of (by kernel_rfl); exact rfl; exact fun _ h => h)
  exact takevar_t A l.length c l at_ _ hs hmc hl
  rintro _ Γ ⟨rfl, rfl⟩
  obtain ⟨⟨n, next, e⟩, hT⟩ : ∃ x, takeV l at_ = x := ⟨_, rfl⟩
  have he5 := takeV_e hT
  rw [show tkV (takeV l at_) = .tuple #[.int .u64 (n : Int), .int .i64 (next : Int), .int .i64 (e : Int)] by rw [hT]; rfl]
  by_cases he : e = 0
  · subst he
    obtain ⟨hn, hnext⟩ := takeV_le hT rfl
    by_cases h6 : most < 0 ∨ most < n
    · have hr : takeBy l at_ most = ([], 0, 6) := by unfold takeBy; rw [hT]; simp only [ne_eq, not_true_eq_false, if_false, if_pos h6]
      by_cases h0 : most < 0
      · refine m_run ?_
        refine TK.free (H := bsA 5 (.slice none 0 0) []) (fun m h => bs_nil _ h) ?_
        (apply TK.ret3; exact rfl; exact rfl; (exact m_val); (exact m_val); (exact m_val))
        exact ⟨_, rfl, by rw [hr]; exact ⟨_, _, rfl, Nat.le_refl _, rfl⟩⟩
      · have e1 : IntKind.u64.wrap most = most := u64_in (by omega) (by omega)
        have h1 : most < n := by omega
        refine m_run ?_
        refine TK.free (H := bsA 5 (.slice none 0 0) []) (fun m h => bs_nil _ h) ?_
        (apply TK.ret3; exact rfl; exact rfl; (exact m_val); (exact m_val); (exact m_val))
        exact ⟨_, rfl, by rw [hr]; exact ⟨_, _, rfl, Nat.le_refl _, rfl⟩⟩
    · have h0 : 0 ≤ most := by omega
      have h1 : ¬ most < n := by omega
      have e1 : IntKind.u64.wrap most = most := u64_in (by omega) (by omega)
      have e2 : IntKind.u64.wrap (IntKind.i64.wrap ((l.length : Int) - (next : Int))) = ((l.length - next : Nat) : Int) := by rw [i64_in (by omega) (by omega), u64_in (by omega) (by omega)]; omega
      by_cases h5 : l.length - next < n
      · have hr : takeBy l at_ most = ([], 0, 5) := by unfold takeBy; rw [hT]; simp only [ne_eq, not_true_eq_false, if_false, if_neg h6, if_pos h5]
        refine m_run ?_
        refine TK.free (H := bsA 5 (.slice none 0 0) []) (fun m h => bs_nil _ h) ?_
        (apply TK.ret3; exact rfl; exact rfl; (exact m_val); (exact m_val); (exact m_val))
        exact ⟨_, rfl, by rw [hr]; exact ⟨_, _, rfl, Nat.le_refl _, rfl⟩⟩
      · have hr : takeBy l at_ most = ((l.drop next).take n, next + n, 0) := by unfold takeBy; rw [hT]; simp only [ne_eq, not_true_eq_false, if_false, if_neg h6, if_neg h5]
        have e3 : IntKind.i64.wrap ((next : Int) + IntKind.i64.wrap (n : Int)) = ((next + n : Nat) : Int) := by rw [i64_in (x := (n : Int)) (by omega) (by omega), i64_in (by omega) (by omega)]; omega
        refine m_run ?_
        refine TL.know (t := 43) (v := .int .i64 ((next + n : Nat) : Int)) (congrArg (Value.int .i64) e3) ?_
        (apply TL.sliceS (i := next) (j := next + n); exact rfl; exact rfl; exact tb rfl; exact rfl; exact tb rfl; exact .some rfl; exact .some rfl; exact hs; omega; omega; omega)
        intro A' hs2
        have hs3 := has_part (l := l) (i := next) hs2 (by omega)
        rw [show next + n - next = n by omega] at hs3 ⊢
        refine m_run ?_
        (apply TL.callV; exact rfl; exact callB_of (by kernel_rfl); exact rfl; exact fun _ h => h)
        exact clone_t A' n _ ((l.drop next).take n) _ hs3 (by simp; omega)
        rintro _ _ ⟨A2, c2, rfl, hc2, rfl⟩
        refine m_run ?_
        (apply TK.ret3; exact rfl; exact rfl; (exact m_val); (exact m_val); (exact m_val))
        refine ⟨_, rfl, ?_⟩
        rw [hr, e3]
        exact ⟨_, _, rfl, hc2, rfl⟩
  · have hr : takeBy l at_ most = ([], 0, e) := by unfold takeBy; rw [hT]; simp only [if_pos he, ne_eq, not_false_eq_true]
    refine m_run ?_
    refine TK.free (H := bsA 5 (.slice none 0 0) []) (fun m h => bs_nil _ h) ?_
    (apply TK.ret3; exact rfl; exact rfl; (exact m_val); (exact m_val); (exact m_val))
    exact ⟨_, rfl, by rw [hr]; exact ⟨_, _, rfl, Nat.le_refl _, rfl⟩⟩
set_option maxRecDepth 100000 in
theorem reftakebytes_t (A : Option Addr) (m c : Nat) (l : List UInt8) (at_ most : Int) (Γ : List HP) (hs : has Γ (srcAt 1 A m (bytesV l))) (hmc : m ≤ c) (hl : l.length ≤ 1000000000) (hm1 : -9223372036854775808 ≤ most) (hm2 : most ≤ 9223372036854775807) :
    FnV Try.prog 51 [.slice A m c, .int .i64 at_, .int .i64 most] Γ (RB3 Γ (takeBy l at_ most)) := by
  refine Fn.enter Try.func51 rfl rfl rfl fun E => ?_
  refine TK.mem fun m0 hm0 => ?_
  obtain rfl := src_lenB (hs m0 hm0)
  refine m_run ?_
  (apply TL.callV; exact rfl; exact callB_of (by kernel_rfl); exact rfl; exact fun _ h => h)
  exact reftakevar_t A l.length c l at_ _ hs hmc hl
  rintro _ Γ ⟨rfl, rfl⟩
  obtain ⟨⟨n, next, e⟩, hT⟩ : ∃ x, takeV l at_ = x := ⟨_, rfl⟩
  have he5 := takeV_e hT
  rw [show tkV (takeV l at_) = .tuple #[.int .u64 (n : Int), .int .i64 (next : Int), .int .i64 (e : Int)] by rw [hT]; rfl]
  by_cases he : e = 0
  · subst he
    obtain ⟨hn, hnext⟩ := takeV_le hT rfl
    by_cases h6 : most < 0 ∨ most < n
    · have hr : takeBy l at_ most = ([], 0, 6) := by unfold takeBy; rw [hT]; simp only [ne_eq, not_true_eq_false, if_false, if_pos h6]
      by_cases h0 : most < 0
      · refine m_run ?_
        refine TK.free (H := bsA 5 (.slice none 0 0) []) (fun m h => bs_nil _ h) ?_
        (apply TK.ret3; exact rfl; exact rfl; (exact m_val); (exact m_val); (exact m_val))
        exact ⟨_, rfl, by rw [hr]; exact ⟨_, _, rfl, Nat.le_refl _, rfl⟩⟩
      · have e1 : IntKind.u64.wrap most = most := u64_in (by omega) (by omega)
        have h1 : most < n := by omega
        refine m_run ?_
        refine TK.free (H := bsA 5 (.slice none 0 0) []) (fun m h => bs_nil _ h) ?_
        (apply TK.ret3; exact rfl; exact rfl; (exact m_val); (exact m_val); (exact m_val))
        exact ⟨_, rfl, by rw [hr]; exact ⟨_, _, rfl, Nat.le_refl _, rfl⟩⟩
    · have h0 : 0 ≤ most := by omega
      have h1 : ¬ most < n := by omega
      have e1 : IntKind.u64.wrap most = most := u64_in (by omega) (by omega)
      have e2 : IntKind.u64.wrap (IntKind.i64.wrap ((l.length : Int) - (next : Int))) = ((l.length - next : Nat) : Int) := by rw [i64_in (by omega) (by omega), u64_in (by omega) (by omega)]; omega
      by_cases h5 : l.length - next < n
      · have hr : takeBy l at_ most = ([], 0, 5) := by unfold takeBy; rw [hT]; simp only [ne_eq, not_true_eq_false, if_false, if_neg h6, if_pos h5]
        refine m_run ?_
        refine TK.free (H := bsA 5 (.slice none 0 0) []) (fun m h => bs_nil _ h) ?_
        (apply TK.ret3; exact rfl; exact rfl; (exact m_val); (exact m_val); (exact m_val))
        exact ⟨_, rfl, by rw [hr]; exact ⟨_, _, rfl, Nat.le_refl _, rfl⟩⟩
      · have hr : takeBy l at_ most = ((l.drop next).take n, next + n, 0) := by unfold takeBy; rw [hT]; simp only [ne_eq, not_true_eq_false, if_false, if_neg h6, if_neg h5]
        have e3 : IntKind.i64.wrap ((next : Int) + IntKind.i64.wrap (n : Int)) = ((next + n : Nat) : Int) := by rw [i64_in (x := (n : Int)) (by omega) (by omega), i64_in (by omega) (by omega)]; omega
        refine m_run ?_
        (apply TL.buildSlice; exact rfl; exact tb rfl; exact rfl; exact tb rfl; exact rfl; exact rfl; exact rfl; exact rfl; (exact m_lst))
        intro b0
        refine m_run ?_
        refine TL.know (t := 43) (v := .int .i64 ((next + n : Nat) : Int)) (congrArg (Value.int .i64) e3) ?_
        (apply TL.sliceS (i := next) (j := next + n); exact rfl; exact rfl; exact tb rfl; exact rfl; exact tb rfl; exact .some rfl; exact .some rfl; (exact m_hsrc); omega; omega; omega)
        intro A' hs2
        have hs3 := has_part (l := l) (i := next) hs2 (by omega)
        rw [show next + n - next = n by omega] at hs3 ⊢
        refine m_run ?_
        (apply TL.appB 0; exact rfl; exact rfl; exact tb rfl; exact rfl; exact tb rfl; exact rfl; exact rfl; exact rfl; exact rfl; exact fun _ h => bs_row (l := []) rfl rfl (by decide) h; exact rfl; (exact m_hsrc))
        · simp; omega
        · exact fun _ => (rfl : _ = _ :: _)
        intro A2 c2 hc2
        refine m_run ?_
        (apply TK.ret3; exact rfl; exact rfl; (exact m_val); (exact m_val); (exact m_val))
        refine ⟨_, rfl, ?_⟩
        rw [hr, e3]
        exact ⟨_, _, rfl, hc2, rfl⟩
  · have hr : takeBy l at_ most = ([], 0, e) := by unfold takeBy; rw [hT]; simp only [if_pos he, ne_eq, not_false_eq_true]
    refine m_run ?_
    refine TK.free (H := bsA 5 (.slice none 0 0) []) (fun m h => bs_nil _ h) ?_
    (apply TK.ret3; exact rfl; exact rfl; (exact m_val); (exact m_val); (exact m_val))
    exact ⟨_, rfl, by rw [hr]; exact ⟨_, _, rfl, Nat.le_refl _, rfl⟩⟩
end Go.Proofs.Ytoccilnobgoncaa.E
