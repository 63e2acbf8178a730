/- The document's TakeVar: walked. -/
import Derived.Test.YtoccilnobgoncaaO4
namespace Go.Proofs.Ytoccilnobgoncaa.E
open Go Go.RowKit Go.Proofs
attribute [local irreducible] TK TL TQ TA Fn PV
theorem takeV_ref {l : List UInt8} {k : Nat} (hk : k ≤ l.length) : takeV l k = match refTake (l.drop k) with | some (v, j) => (v, k + j, 0) | none => (0, 0, 5) := by
  unfold takeV
  rw [if_pos ⟨by omega, by omega⟩, Int.toNat_natCast, take_same]
  cases scanP (l.drop k) 0 0 <;> rfl
set_option maxRecDepth 100000 in
theorem reftakevar_t (A : Option Addr) (m c : Nat) (l : List UInt8) (at_ : Int) (Γ : List HP) (hs : has Γ (srcAt 1 A m (bytesV l))) (hmc : m ≤ c) (hl : l.length ≤ 1000000000) :
    FnV Try.prog 47 [.slice A m c, .int .i64 at_] Γ fun v Γ' => v = tkV (takeV l at_) ∧ Γ' = Γ := by
  refine Fn.enter Try.func47 rfl rfl rfl fun E => ?_
  refine TK.mem fun m0 hm0 => ?_
  obtain rfl := src_lenB (hs m0 hm0)
  by_cases hat : 0 ≤ at_ ∧ at_ ≤ l.length
  · obtain ⟨k, rfl⟩ : ∃ k : Nat, at_ = (k : Int) := ⟨at_.toNat, by omega⟩
    have hk : k ≤ l.length := by omega
    obtain ⟨cs, hcs⟩ : ∃ cs, l.drop k = cs := ⟨_, rfl⟩
    have hcl : l.length - k = cs.length := by rw [← hcs]; simp
    have hr := takeV_ref hk
    rw [hcs] at hr
    refine m_run ?_
    apply TK.iter (fun j ρ' Γ' => ∃ (i n : Nat), i + j = 10 ∧ i ≤ cs.length ∧ n < 18446744073709551616 ∧ scanR cs 0 0 = scanR (cs.drop i) i n ∧ lk ρ' 0 = .slice A l.length c ∧ lk ρ' 1 = .int .i64 (k : Int) ∧ lk ρ' 7 = .int .u64 (n : Int) ∧ lk ρ' 8 = .int .i64 (i : Int) ∧ Γ' = Γ) 10
    · exact ⟨0, 0, by omega, by omega, by decide, rfl, rfl, rfl, rfl, rfl, rfl⟩
    rintro j IH ρ' Γ ⟨i, n, hij, hi7, hn, hsc, e0, e1, e7, e8, rfl⟩
    refine TK.know4 e0 e1 e7 e8 ?_
    have eki : IntKind.i64.wrap ((k : Int) + (i : Int)) = ((k + i : Nat) : Int) := by rw [← Int.natCast_add, i64_nat (by omega)]
    by_cases hi : i < cs.length ∧ i < 10
    · obtain ⟨hi, hi10⟩ := hi
      obtain ⟨ch, hch⟩ : ∃ ch, cs[i]? = some ch := ⟨cs[i], by simp [hi]⟩
      have hcons : cs.drop i = ch :: cs.drop (i + 1) := by
        have := (List.getElem?_eq_some_iff.1 hch).2
        rw [← this]; exact List.drop_eq_getElem_cons hi
      have hchl : l[k + i]? = some ch := by rw [← hch, ← hcs, List.getElem?_drop]
      rw [hcons] at hsc
      refine TK.mem fun m1 hm1 => ?_
      obtain ⟨b, o, rfl⟩ := src_some (hs m1 hm1) (by rw [bytesV_length]; omega)
      have hcell := has_byte hs hchl
      have hc8 := ch.toNat_lt
      have hps : (2 : Nat) ^ (7 * i) < 18446744073709551616 := Nat.lt_of_le_of_lt (Nat.pow_le_pow_right (by decide) (show 7 * i ≤ 63 by omega)) (by decide)
      obtain ⟨P, hP⟩ : ∃ P, ch.toNat % 128 * 2 ^ (7 * i) % 2 ^ 64 = P := ⟨_, rfl⟩
      have hPl : P < 18446744073709551616 := by omega
      have hor : n ||| P < 18446744073709551616 := Nat.or_lt_two_pow (n := 64) hn hPl
      refine m_run ?_
      refine TL.know (t := 34) (v := .pointer (some ⟨b, o + (k + i), none⟩)) (by rw [← Int.toNat_natCast (k + i), ← eki]; rfl) ?_
      refine m_run ?_
      refine TL.know (t := 37) (v := .int .u64 ((ch.toNat % 128 : Nat) : Int)) (congrArg (Value.int .u64) (u64_nat (by omega))) ?_
      refine TL.know (t := 40) (v := .int .u64 ((7 * i : Nat) : Int)) (congrArg (Value.int .u64) (by rw [i64_in (by omega) (by omega), u64_in (by omega) (by omega)]; omega)) ?_
      (apply TL.pv; exact rfl; (apply PV.shlN (n := ch.toNat % 128) (m := 7 * i); exact rfl; exact rfl; exact rfl; exact (show 7 * i ≤ 64 by omega); exact rfl))
      refine TL.know (t := 41) (v := .int .u64 (P : Int)) (congrArg (Value.int .u64) (congrArg Nat.cast hP)) ?_
      (apply TL.pv; exact rfl; (apply PV.bits; exact rfl; exact rfl; exact rfl))
      refine TL.know (t := 42) (v := .int .u64 ((n ||| P : Nat) : Int)) (congrArg (Value.int .u64) (bits_or rfl hn hPl)) ?_
      by_cases hlast : ch.toNat < 128
      · have hsc2 : scanR cs 0 0 = some (n ||| P, i + 1) := by rw [hsc, scanR, if_neg (by omega), if_pos hlast, hP]
        refine m_run ?_
        refine TL.know (t := 47) (v := .pointer (some ⟨b, o + (k + i), none⟩)) (by rw [← Int.toNat_natCast (k + i), ← eki]; rfl) ?_
        refine m_run ?_
        refine TK.drawS mixed rfl ?_
        refine m_take (At.mk : At 0) ?_; refine m_take (At.mk : At 3) ?_; refine m_take (At.mk : At 4) ?_; refine m_take (At.mk : At 5) ?_; refine m_take (At.mk : At 6) ?_; refine m_take (At.mk : At 7) ?_; refine m_take (At.mk : At 8) ?_
        refine TA.know (t := 58) (v := .int .i64 ((k + (i + 1) : Nat) : Int)) (congrArg (Value.int .i64) (by rw [eki, i64_in (by omega) (by omega)]; omega)) ?_
        (apply TA.takeA (At.mk : At 9); exact rfl; exact rfl; kernel_rfl; (focus ((repeat (first | assumption | exact Ent.refl _ | apply Ent.tail)); done)); (apply PV.sliceS (i := k) (j := k + (i + 1)); exact rfl; exact tb rfl; exact rfl; exact tb rfl; exact .some rfl; exact .some rfl; omega; omega))
        have hs4 := has_imp hs fun m hm => src_part (i := k) (j := k + (i + 1)) (c := c) hm (by omega) (by omega) (by omega)
        have hs5 := has_part (l := l) (i := k) hs4 (by omega)
        rw [hcs, show k + (i + 1) - k = i + 1 by omega] at hs5
        refine TA.know (t := 59) (v := .slice (if c = k then some ⟨b, o, none⟩ else (some (⟨b, o, none⟩ : Addr)).map fun a => a.add (k * 1)) (i + 1) (c - k)) (congrArg (fun z => Value.slice (if c = k then some ⟨b, o, none⟩ else (some (⟨b, o, none⟩ : Addr)).map fun a => a.add (k * 1)) z (c - k)) (show k + (i + 1) - k = i + 1 by omega)) ?_
        (apply TA.takeA (At.mk : At 10); exact rfl; exact rfl; kernel_rfl; (focus ((repeat (first | assumption | exact Ent.refl _ | apply Ent.tail)); done)); (apply PV.convBS; exact rfl; exact tb rfl; exact rfl; exact tb rfl; exact rfl; exact tb rfl; exact rfl; exact hs5))
        (apply TA.one 1; kernel_rfl; exact rfl)
        (apply TL.callV; exact rfl; exact callB_of (by kernel_rfl); exact rfl; exact fun _ h => h)
        exact var_t (n ||| P) _ hor
        rintro _ _ ⟨A2, c2, rfl, hc2, rfl⟩
        refine TL.back (by (focus ((repeat (first | assumption | exact Ent.refl _ | apply Ent.tail)); done))) ?_
        (apply TA.one 2; kernel_rfl; exact rfl)
        refine m_run ?_
        refine TL.back (by (focus ((repeat (first | assumption | exact Ent.refl _ | apply Ent.tail)); done))) ?_
        refine m_take (At.mk : At 11) ?_
        refine TA.done (by kernel_rfl) ?_
        by_cases hv : varM (n ||| P) = cs.take (i + 1)
        · have hr2 : takeV l k = (n ||| P, k + (i + 1), 0) := by rw [hr, refTake, hsc2]; simp only [if_pos hv]
          refine m_run ?_
          (apply TK.retS3; exact rfl; exact rfl; (exact m_val); (exact m_val); (exact m_val))
          · refine ⟨_, rfl, ?_, rfl⟩
            rw [hr2, show IntKind.i64.wrap (IntKind.i64.wrap ((k : Int) + (i : Int)) + 1) = ((k + (i + 1) : Nat) : Int) by rw [eki, i64_in (by omega) (by omega)]; omega]
            rfl
          · (repeat (first | exact List.Sublist.refl _ | apply List.Sublist.cons_cons | apply List.Sublist.cons))
        · have hr2 : takeV l k = (0, 0, 5) := by rw [hr, refTake, hsc2]; simp only [if_neg hv]
          refine m_run ?_
          (apply TK.retS3; exact rfl; exact rfl; (exact m_val); (exact m_val); (exact m_val))
          · exact ⟨_, rfl, by rw [hr2]; rfl, rfl⟩
          · (repeat (first | exact List.Sublist.refl _ | apply List.Sublist.cons_cons | apply List.Sublist.cons))
      · have hsc2 : scanR cs 0 0 = scanR (cs.drop (i + 1)) (i + 1) (n ||| P) := by rw [hsc, scanR, if_neg (by omega), if_neg hlast, hP]
        refine m_run ?_
        refine TL.know (t := 47) (v := .pointer (some ⟨b, o + (k + i), none⟩)) (by rw [← Int.toNat_natCast (k + i), ← eki]; rfl) ?_
        refine m_run ?_
        exact IH (j - 1) _ _ (by omega) ⟨i + 1, n ||| P, by omega, by omega, hor, hsc2, rfl, rfl, rfl, congrArg (Value.int .i64) (i64_succ i (by omega)), rfl⟩
    · have hsn : scanR cs 0 0 = none := by
        rw [hsc]
        cases hd : cs.drop i with
        | nil => rfl
        | cons x xs =>
          have h1 : i < cs.length := by
            rcases Nat.lt_or_ge i cs.length with h | h
            · exact h
            · rw [List.drop_of_length_le h] at hd; cases hd
          rw [scanR, if_pos (by omega)]
      have hr2 : takeV l k = (0, 0, 5) := by rw [hr, refTake, hsn]
      by_cases h10 : i < 10
      · refine m_run ?_
        (apply TK.ret3; exact rfl; exact rfl; (exact m_val); (exact m_val); (exact m_val))
        exact ⟨_, rfl, by rw [hr2]; rfl, rfl⟩
      · refine m_run ?_
        (apply TK.ret3; exact rfl; exact rfl; (exact m_val); (exact m_val); (exact m_val))
        exact ⟨_, rfl, by rw [hr2]; rfl, rfl⟩
  · have hr2 : takeV l at_ = (0, 0, 1) := by unfold takeV; rw [if_neg hat]
    by_cases h0 : at_ < 0
    · refine m_run ?_
      (apply TK.ret3; exact rfl; exact rfl; (exact m_val); (exact m_val); (exact m_val))
      exact ⟨_, rfl, by rw [hr2]; rfl, rfl⟩
    · refine m_run ?_
      (apply TK.ret3; exact rfl; exact rfl; (exact m_val); (exact m_val); (exact m_val))
      exact ⟨_, rfl, by rw [hr2]; rfl, rfl⟩
end Go.Proofs.Ytoccilnobgoncaa.E
