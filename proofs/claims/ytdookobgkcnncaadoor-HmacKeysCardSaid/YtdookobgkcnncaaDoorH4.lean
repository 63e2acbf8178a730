/- Bytes are written: (*State).Write, walked. -/
import Derived.Test.YtdookobgkcnncaaDoorH3
namespace Go.Proofs.YtdookobgkcnncaaDoor.E
open Go Go.RowKit Go.Proofs
attribute [local irreducible] TK TL TQ TA Fn PV
theorem compN_pre (n : Nat) : ∀ (v : V8) (l m : List UInt8), 64 * n ≤ l.length → compN n v (l ++ m) = compN n v l := by
  induction n with
  | zero => intro v l m _; rfl
  | succ n ih =>
    intro v l m h
    rw [compN, compN, List.take_append_of_le_length (by omega), List.drop_append_of_le_length (by omega), ih _ _ _ (by simp; omega)]
theorem st_copy {v : V8} {hl r : List UInt8} {n q k : Nat} (h : hl.length = 64) (hq : q + k ≤ 64) : (stC v hl n).take (8 + q) ++ (bytesV r).take k ++ (stC v hl n).drop (8 + q + k) = stC v (hl.take q ++ r.take k ++ hl.drop (q + k)) n := by
  have h1 : (v.l.map w32).length = 8 := rfl
  have h2 : stC v hl n = v.l.map w32 ++ (bytesV hl ++ [.int .u64 (n : Int)]) := by rw [stC, List.append_assoc]
  rw [h2, List.take_append, List.drop_append, h1, List.take_of_length_le (by omega), List.drop_of_length_le (by omega), List.nil_append, show 8 + q - 8 = q by omega, show 8 + q + k - 8 = q + k by omega,
    List.take_append_of_le_length (by rw [bytesV_length]; omega), List.drop_append_of_le_length (by rw [bytesV_length]; omega), ← bytesV_take, ← bytesV_take, ← bytesV_drop, stC, bytesV_append, bytesV_append]
  simp only [List.append_assoc]
theorem st_n {v : V8} {hl : List UInt8} {n : Nat} (h : hl.length = 64) : (stC v hl n)[72]? = some (.int .u64 (n : Int)) := by
  have h1 : (v.l.map w32).length = 8 := rfl
  rw [stC, List.getElem?_append_right (by rw [List.length_append, bytesV_length, h1, h]; omega), List.length_append, bytesV_length, h1, h]
  rfl
theorem st_setn {v : V8} {hl : List UInt8} {n n' : Nat} (h : hl.length = 64) : (stC v hl n).set 72 (.int .u64 (n' : Int)) = stC v hl n' := by
  have h1 : (v.l.map w32 ++ bytesV hl).length = 72 := by rw [List.length_append, bytesV_length, h]; rfl
  rw [stC, stC, List.set_append_right _ _ (by omega), h1]
  rfl
theorem held_len {hl r : List UInt8} {q k : Nat} (h : hl.length = 64) (hq : q + k ≤ 64) (hk : k ≤ r.length) : (hl.take q ++ r.take k ++ hl.drop (q + k)).length = 64 := by
  simp only [List.length_append, List.length_take, List.length_drop]; omega
/-- Not yet a block. -/
theorem take_some {X r hl : List UInt8} {k : Nat} (h64 : hl.length = 64) (hh : hl.take (X.length % 64) = X.drop (64 * (X.length / 64))) (hk : k ≤ r.length) (hq : X.length % 64 + k < 64) :
    compN ((X ++ r.take k).length / 64) begin8 (X ++ r.take k) = compN (X.length / 64) begin8 X ∧
    (hl.take (X.length % 64) ++ r.take k ++ hl.drop (X.length % 64 + k)).take ((X ++ r.take k).length % 64) = (X ++ r.take k).drop (64 * ((X ++ r.take k).length / 64)) := by
  have hl1 : (X ++ r.take k).length = X.length + k := by rw [List.length_append, List.length_take]; omega
  have h1 : (X ++ r.take k).length / 64 = X.length / 64 := by omega
  have h2 : (X ++ r.take k).length % 64 = X.length % 64 + k := by omega
  rw [h1, h2]
  refine ⟨compN_pre _ _ _ _ (by omega), ?_⟩
  rw [List.drop_append_of_le_length (by omega), ← hh, List.take_append_of_le_length (by simp only [List.length_append, List.length_take]; omega), List.take_of_length_le (by simp only [List.length_append, List.length_take]; omega)]
/-- A whole block. -/
theorem take_all {X r hl : List UInt8} {k : Nat} (h64 : hl.length = 64) (hh : hl.take (X.length % 64) = X.drop (64 * (X.length / 64))) (hk : k ≤ r.length) (hq : X.length % 64 + k = 64) :
    compN ((X ++ r.take k).length / 64) begin8 (X ++ r.take k) = comp1 (compN (X.length / 64) begin8 X) (hl.take (X.length % 64) ++ r.take k ++ hl.drop (X.length % 64 + k)) ∧
    (hl.take (X.length % 64) ++ r.take k ++ hl.drop (X.length % 64 + k)).take ((X ++ r.take k).length % 64) = (X ++ r.take k).drop (64 * ((X ++ r.take k).length / 64)) := by
  have hl1 : (X ++ r.take k).length = X.length + k := by rw [List.length_append, List.length_take]; omega
  have h1 : (X ++ r.take k).length / 64 = X.length / 64 + 1 := by omega
  have h2 : (X ++ r.take k).length % 64 = 0 := by omega
  rw [h1, h2, compN_succ, compN_pre _ _ _ _ (by omega), List.drop_append_of_le_length (by omega), ← hh, hq, List.drop_of_length_le (l := hl) (by omega), List.append_nil, List.take_zero,
    List.take_of_length_le (by simp only [List.length_append, List.length_take]; omega), List.drop_of_length_le (by omega)]
  exact ⟨rfl, rfl⟩
attribute [local irreducible] rounds sched kC comp1 compN rotr
set_option maxRecDepth 100000 in
set_option maxHeartbeats 1000000 in
theorem write_t (b : Nat) (bs l : List UInt8) (A : Option Addr) (c : Nat) (Γ : List HP) (hs : has Γ (srcAt 1 A l.length (bytesV l))) (hc : l.length ≤ c) (hlen : bs.length + l.length ≤ 1000000000000) (hK : gConst Γ) :
    FnV Tryd.prog 18 [.pointer (some ⟨b, 0, none⟩), .slice A l.length c] (stA b bs :: Γ) fun v Γ' => v = .int .i64 0 ∧ Γ' = stA b (bs ++ l) :: Γ := by
  refine Fn.enter Tryd.func18 rfl rfl rfl fun E => ?_
  refine m_run ?_
  apply TK.iter (fun j ρ' Γ' => ∃ (p r : List UInt8) (A' : Option Addr) (c' : Nat), r.length = j ∧ p ++ r = l ∧ r.length ≤ c' ∧ has Γ (srcAt 1 A' r.length (bytesV r)) ∧ lk ρ' 0 = .pointer (some ⟨b, 0, none⟩) ∧ lk ρ' 1 = .slice A' r.length c' ∧ Γ' = stA b (bs ++ p) :: Γ) l.length
  · exact ⟨[], l, A, c, rfl, rfl, hc, hs, rfl, rfl, by rw [List.append_nil]⟩
  clear hs hc
  rintro j IH ρ' _ ⟨p, r, A, c, hj, hpr, hc, hs, e0, e1, rfl⟩
  refine TK.know2 e0 e1 ?_
  by_cases h0 : 0 < r.length
  · refine TK.mem fun m0 hm0 => ?_
    obtain ⟨b0, o0, rfl⟩ := src_some (has_tls hs m0 hm0) (by rw [bytesV_length]; exact h0)
    clear hm0 m0
    obtain ⟨X, hX⟩ : ∃ X, bs ++ p = X := ⟨_, rfl⟩
    have hXl : X.length + r.length ≤ 1000000000000 := by
      have := congrArg List.length hpr
      rw [List.length_append] at this
      rw [← hX, List.length_append]; omega
    rw [hX]
    refine TK.open (X := List UInt8) (φ := fun hl => hl.length = 64 ∧ hl.take (X.length % 64) = X.drop (64 * (X.length / 64))) (Δ := fun hl => row b (stC (compN (X.length / 64) begin8 X) hl X.length) 59 :: Γ) (fun m hm => ?_) ?_
    · obtain ⟨x, y, hd, rfl, ⟨hl, h1, h2, h3⟩, hy⟩ := hm
      exact ⟨hl, ⟨h1, h2⟩, x, y, hd, rfl, h3, hy⟩
    rintro hl ⟨h64, hh⟩
    obtain ⟨v, hv⟩ : ∃ v, compN (X.length / 64) begin8 X = v := ⟨_, rfl⟩
    rw [hv]
    obtain ⟨q, hq⟩ : ∃ q, X.length % 64 = q := ⟨_, rfl⟩
    obtain ⟨k, hk⟩ : ∃ k, Nat.min r.length (64 - q) = k := ⟨_, rfl⟩
    have hkr : k ≤ r.length := by rw [← hk]; exact Nat.min_le_left _ _
    have hkq : q + k ≤ 64 := by have : k ≤ 64 - q := by rw [← hk]; exact Nat.min_le_right _ _
                                omega
    have hn := has_rowC (b := b) (e := 59) (Γ := Γ) (st_n (v := v) (n := X.length) h64)
    refine m_run ?_
    refine TK.drawE mixed rfl Γ ?_
    refine m_take (At.mk : At 0) ?_; refine m_take (At.mk : At 1) ?_; refine m_take (At.mk : At 2) ?_; refine m_take (At.mk : At 3) ?_; refine m_take (At.mk : At 4) ?_; refine m_take (At.mk : At 5) ?_; refine m_take (At.mk : At 9) ?_
    (apply TA.one 6; kernel_rfl; exact rfl)
    refine m_run ?_
    refine TL.back (by (focus ((repeat (first | assumption | exact Ent.refl _ | apply Ent.tail)); done))) ?_
    refine m_take (At.mk : At 7) ?_
    (apply TA.takeA (At.mk : At 8); exact rfl; exact rfl; kernel_rfl; ((focus ((repeat (first | assumption | exact Ent.refl _ | apply Ent.tail)); done))); (apply PV.sliceArr (i := X.length % 64) (j := 64); exact rfl; exact tb rfl; exact rfl; exact tb rfl; exact .some rfl; exact .none; exact (by omega); exact (by omega)))
    rw [if_neg (by omega), hq]
    (apply TA.one 10; kernel_rfl; exact rfl)
    (apply TL.copyRow 0 (t := 30) (k := k) (o := 8 + q) (news := bytesV r) (cur' := stC v (hl.take q ++ r.take k ++ hl.drop (q + k)) X.length); exact rfl; exact rfl; exact tb rfl; exact rfl; exact tb rfl; exact rfl; exact (congrArg (fun z => Value.slice (some ⟨b, 8 + z, none⟩) (64 - q) (64 - q)) (Nat.mul_one q)); exact rfl; exact has_tls hs; exact bs_one r; exact hk.symm; exact (by rw [st_len _ h64]; omega); exact st_copy h64 hkq; exact rfl)
    rotate_left
    · exact rfl
    · exact rfl
    refine TL.back (by (focus ((repeat (first | assumption | exact Ent.refl _ | apply Ent.tail)); done))) ?_
    refine m_take (At.mk : At 11) ?_
    refine TA.done (by kernel_rfl) ?_
    have h64' := held_len (r := r) h64 hkq hkr
    obtain ⟨hl', hhl⟩ : ∃ hl', hl.take q ++ r.take k ++ hl.drop (q + k) = hl' := ⟨_, rfl⟩
    rw [hhl] at h64' ⊢
    have hn := has_rowC (b := b) (e := 59) (Γ := Γ) (st_n (v := v) (n := X.length) h64')
    refine m_run ?_
    refine TK.drawE mixed rfl Γ ?_
    refine m_take (At.mk : At 0) ?_; refine m_take (At.mk : At 1) ?_; refine m_take (At.mk : At 2) ?_
    (apply TA.takeA (At.mk : At 3); exact rfl; exact rfl; kernel_rfl; ((focus ((repeat (first | assumption | exact Ent.refl _ | apply Ent.tail)); done))); (apply PV.sliceS (i := k) (j := r.length); exact rfl; exact tb rfl; exact rfl; exact tb rfl; exact .some rfl; exact .none; exact hkr; exact hc))
    refine m_take (At.mk : At 4) ?_; refine m_take (At.mk : At 5) ?_; refine m_take (At.mk : At 6) ?_; refine m_take (At.mk : At 8) ?_; refine m_take (At.mk : At 9) ?_; refine m_take (At.mk : At 11) ?_
    (apply TA.one 7; kernel_rfl; exact rfl)
    refine m_run ?_
    refine TL.back (by (focus ((repeat (first | assumption | exact Ent.refl _ | apply Ent.tail)); done))) ?_
    refine m_take (At.mk : At 10) ?_
    refine TA.know (t := 32) (v := .int .u64 ((X.length + k : Nat) : Int)) (congrArg (Value.int .u64) (by rw [u64_nat (k := k) (by omega), ← Int.natCast_add, u64_nat (by omega)])) ?_
    refine m_take (At.mk : At 12) ?_; refine m_take (At.mk : At 13) ?_
    (apply TA.one 14; kernel_rfl; exact rfl)
    (apply TL.storeE 0 (l' := stC v hl' (X.length + k)); exact rfl; exact rfl; exact rfl; exact rfl; exact tb rfl; exact rfl; exact (by rw [st_len _ h64']; decide); exact st_setn h64'; exact rfl)
    refine TL.back (by (focus ((repeat (first | assumption | exact Ent.refl _ | apply Ent.tail)); done))) ?_
    refine TA.done (by kernel_rfl) ?_
    have hn2 := has_rowC (b := b) (e := 59) (Γ := Γ) (st_n (v := v) (n := X.length + k) h64')
    refine m_run ?_
    have hk0 : 0 < k := by
      have : Nat.min r.length (64 - q) = min r.length (64 - q) := rfl
      omega
    have hXk : (X ++ r.take k).length = X.length + k := by rw [List.length_append, List.length_take]; omega
    have hrd : (r.drop k).length = r.length - k := List.length_drop
    have hs' : has Γ (srcAt 1 (if c = k then some ⟨b0, o0, none⟩ else (some (⟨b0, o0, none⟩ : Addr)).map fun a => a.add (k * 1)) (r.drop k).length (bytesV (r.drop k))) := by
      have h := has_imp hs fun m hm => src_part hm hkr (Nat.le_refl _) hc
      have h2 := has_part (l := r) h (by omega)
      rw [hrd]
      rwa [List.take_of_length_le (by omega)] at h2
    have hpr' : (p ++ r.take k) ++ r.drop k = l := by rw [List.append_assoc, List.take_append_drop, hpr]
    have hX' : bs ++ (p ++ r.take k) = X ++ r.take k := by rw [← List.append_assoc, hX]
    have hend : ∀ v', v' = compN ((X ++ r.take k).length / 64) begin8 (X ++ r.take k) → hl'.take ((X ++ r.take k).length % 64) = (X ++ r.take k).drop (64 * ((X ++ r.take k).length / 64)) → ∀ m, all (row b (stC v' hl' (X.length + k)) 59 :: Γ) m → all (stA b (bs ++ (p ++ r.take k)) :: Γ) m := by
      intro v' hv' ht m hm
      rw [hX']
      refine sep_mono hm (fun _ h => ⟨hl', h64', ht, ?_⟩) fun _ => id
      rw [← hv', hXk]
      exact h
    by_cases hfull : q + k = 64
    · have hall := take_all (X := X) (r := r) (k := k) h64 (by rw [hq]; rw [hq] at hh; exact hh) hkr (by rw [hq]; exact hfull)
      rw [hq, hhl, hv] at hall
      refine m_run ?_
      (apply TL.callV; exact rfl; exact callB_of (by kernel_rfl); exact rfl; exact fun _ h => h)
      exact take_t b v hl' (X.length + k) h64' Γ hK
      rintro _ _ ⟨rfl, rfl⟩
      refine m_run ?_
      refine TK.imp (hend _ hall.1.symm hall.2) ?_
      exact IH (r.drop k).length _ _ (by omega) ⟨p ++ r.take k, r.drop k, _, c - k, rfl, hpr', by omega, hs', rfl, congrArg (fun z => Value.slice _ z (c - k)) hrd.symm, rfl⟩
    · have hsome := take_some (X := X) (r := r) (k := k) h64 (by rw [hq]; rw [hq] at hh; exact hh) hkr (by omega)
      rw [hq, hhl, hv] at hsome
      refine m_run ?_
      refine TK.imp (hend _ hsome.1.symm hsome.2) ?_
      exact IH (r.drop k).length _ _ (by omega) ⟨p ++ r.take k, r.drop k, _, c - k, rfl, hpr', by omega, hs', rfl, congrArg (fun z => Value.slice _ z (c - k)) hrd.symm, rfl⟩
  · obtain rfl : r = [] := List.eq_nil_of_length_eq_zero (by omega)
    obtain rfl : p = l := by rw [← hpr, List.append_nil]
    refine m_run ?_
    (apply TK.ret1; exact rfl; exact rfl; (exact m_val))
    exact ⟨_, rfl, rfl, rfl⟩
end Go.Proofs.YtdookobgkcnncaaDoor.E
