/- hmac: Same, check, Right, walked. -/
import Derived.Test.YtdookobgkcnncaaDoorM6
import Derived.Test.YtdookobgkcnncaaDoorM4
namespace Go.Proofs.YtdookobgkcnncaaDoor.E
open Go Go.RowKit Go.Proofs
attribute [local irreducible] TK TL TQ TA Fn PV
attribute [local irreducible] rounds sched kC comp1 compN rotr hashB hashW
theorem or_zero {a b : Nat} : (a ||| b = 0) ↔ a = 0 ∧ b = 0 := by
  constructor
  · intro h
    constructor
    · apply Nat.eq_of_testBit_eq
      intro i
      have := congrArg (fun x => Nat.testBit x i) h
      simp [Nat.testBit_or] at this
      simp [this.1]
    · apply Nat.eq_of_testBit_eq
      intro i
      have := congrArg (fun x => Nat.testBit x i) h
      simp [Nat.testBit_or] at this
      simp [this.2]
  · rintro ⟨rfl, rfl⟩; rfl
theorem xor_zero {a b : Nat} : (a ^^^ b = 0) ↔ a = b := by
  constructor
  · intro h
    have : a ^^^ b ^^^ b = 0 ^^^ b := by rw [h]
    rwa [Nat.xor_assoc, Nat.xor_self, Nat.xor_zero, Nat.zero_xor] at this
  · rintro rfl; exact Nat.xor_self _
theorem take_eq_step {a b : List UInt8} {i : Nat} {x y : UInt8} (hx : a[i]? = some x) (hy : b[i]? = some y) : (a.take (i + 1) = b.take (i + 1)) ↔ (a.take i = b.take i ∧ x = y) := by
  have h1 : i < a.length := (List.getElem?_eq_some_iff.1 hx).1
  have h2 : i < b.length := (List.getElem?_eq_some_iff.1 hy).1
  rw [List.take_add_one, List.take_add_one, hx, hy]
  constructor
  · intro h
    have := List.append_inj h (by rw [List.length_take, List.length_take]; omega)
    simpa using this
  · rintro ⟨h, rfl⟩; rw [h]
set_option maxRecDepth 100000 in
set_option maxHeartbeats 1000000 in
theorem same_t (a b : List UInt8) (Γ : List HP) (ha : a.length = 32) (hb : b.length = 32) :
    FnV Tryd.prog 31 [.agg (bytesV a).toArray, .agg (bytesV b).toArray] Γ fun v Γ' => v = .bool (decide (a = b)) ∧ Γ' = Γ := by
  refine Fn.enter Tryd.func31 rfl rfl rfl fun E => ?_
  refine m_run ?_
  (apply TL.box; exact rfl; exact rfl; exact (rfl : _ = bytesV a))
  intro b2
  (apply TL.box; exact rfl; exact rfl; exact (rfl : _ = bytesV b))
  intro b3
  refine m_run ?_
  apply TK.iter (fun j ρ' Γ' => ∃ i n : Nat, i + j = 32 ∧ n < 256 ∧ (n = 0 ↔ a.take i = b.take i) ∧ lk ρ' 2 = .pointer (some ⟨b2, 0, none⟩) ∧ lk ρ' 3 = .pointer (some ⟨b3, 0, none⟩) ∧ lk ρ' 5 = .int .u8 (n : Int) ∧ lk ρ' 7 = .int .i64 (i : Int) ∧ Γ' = row b3 (bytesV b) 27 :: row b2 (bytesV a) 27 :: Γ) 32
  · exact ⟨0, 0, Nat.zero_add _, by decide, by simp, rfl, rfl, rfl, rfl, rfl⟩
  rintro j IH ρ' _ ⟨i, n, hij, hn, hiff, e2, e3, e5, e7, rfl⟩
  refine TK.know4 e2 e3 e5 e7 ?_
  by_cases hi : i < 32
  · obtain ⟨x, hx⟩ : ∃ x, a[i]? = some x := ⟨a[i]'(by omega), by simp [ha, hi]⟩
    obtain ⟨y, hy⟩ : ∃ y, b[i]? = some y := ⟨b[i]'(by omega), by simp [hb, hi]⟩
    have cx : has (row b3 (bytesV b) 27 :: row b2 (bytesV a) 27 :: Γ) (fun m => cellAt m b2 i (.int .u8 (x.toNat : Int))) := has_tlc (has_rowC (bytesV_get hx))
    have cy : has (row b3 (bytesV b) 27 :: row b2 (bytesV a) 27 :: Γ) (fun m => cellAt m b3 i (.int .u8 (y.toNat : Int))) := has_rowC (bytesV_get hy)
    refine m_run ?_
    refine TK.drawS mixed rfl ?_
    refine m_take (At.mk : At 0) ?_; refine m_take (At.mk : At 1) ?_; refine m_take (At.mk : At 2) ?_; refine m_take (At.mk : At 3) ?_; refine m_take (At.mk : At 4) ?_; refine m_take (At.mk : At 5) ?_; refine m_take (At.mk : At 6) ?_; refine m_take (At.mk : At 7) ?_; refine m_take (At.mk : At 8) ?_
    have hx8 : x.toNat < 2 ^ IntKind.u8.bits := UInt8.toNat_lt x
    have hy8 : y.toNat < 2 ^ IntKind.u8.bits := UInt8.toNat_lt y
    have hz8 : x.toNat ^^^ y.toNat < 2 ^ IntKind.u8.bits := Nat.xor_lt_two_pow hx8 hy8
    have hn8 : n ||| (x.toNat ^^^ y.toNat) < 256 := Nat.or_lt_two_pow (n := 8) hn hz8
    refine TA.know (t := 18) (v := .int .u8 ((n ||| (x.toNat ^^^ y.toNat) : Nat) : Int)) (congrArg (Value.int .u8) (by rw [bits_xor rfl hx8 hy8, bits_or rfl hn hz8])) ?_
    refine m_take (At.mk : At 9) ?_
    refine TA.done (by kernel_rfl) ?_
    refine m_run ?_
    refine IH (j - 1) _ _ (by omega) ⟨i + 1, n ||| (x.toNat ^^^ y.toNat), by omega, hn8, ?_, rfl, rfl, rfl, congrArg (Value.int .i64) (i64_succ i (by omega)), rfl⟩
    rw [or_zero, xor_zero, take_eq_step hx hy, hiff]
    constructor
    · rintro ⟨h1, h2⟩; exact ⟨h1, UInt8.toNat_inj.1 h2⟩
    · rintro ⟨h1, h2⟩; exact ⟨h1, by rw [h2]⟩
  obtain rfl : i = 32 := by omega
  rw [List.take_of_length_le (by omega), List.take_of_length_le (by omega)] at hiff
  clear IH e2 e3 e5 e7
  refine m_run ?_
  refine TK.know (t := 4) (v := .bool (decide (a = b))) (congrArg Value.bool (by
    by_cases h : a = b
    · have h0 := hiff.2 h
      rw [h0]; simp [h]
    · have h0 : n ≠ 0 := fun h0 => h (hiff.1 h0)
      simp [h, h0])) ?_
  (apply TK.retS1; exact rfl; exact rfl; (exact m_val))
  · exact ⟨_, rfl, rfl, rfl⟩
  · (repeat (first | exact List.Sublist.refl _ | apply List.Sublist.cons_cons | apply List.Sublist.cons))
/-! ### whether a tag is theirs -/
/-- An error that says 'another tag', or more. -/
def wrA (n b : Nat) : HP := fun m => ∃ s : ByteArray, s.size ≤ n ∧ row b [.string s, .int .i64 12] 71 m
theorem wrA_e {n b : Nat} {m : Mem} (h : wrA n b m) : cellAt m b 1 (.int .i64 12) := by
  obtain ⟨s, _, h⟩ := h
  exact row_cell h rfl
set_option maxRecDepth 100000 in
set_option maxHeartbeats 1000000 in
theorem check_t (b bi bo : Nat) (key t : List UInt8) (A : Option Addr) (c : Nat) (ss : List (Sl UInt8)) (Γ : List HP) (ht : t.length = 32) (hs : has Γ (srcAt 1 A ss.length (ss.map Sl.v))) (hss : ∀ s ∈ ss, has Γ (srcAt 1 s.A s.l.length (bytesV s.l))) (hcap : ∀ s ∈ ss, s.l.length ≤ s.c) (hlen : (flatS ss).length ≤ 100000000) (hn : ss.length ≤ 1000000000) (hK : gConst Γ) :
    FnV Tryd.prog 36 [.pointer (some ⟨b, 0, none⟩), .agg (bytesV t).toArray, .slice A ss.length c] (macG b bi bo key Γ) fun v Γ' =>
      (t = tagB key (flatS ss) ∧ v = .nilIface ∧ Γ' = macG b bi bo key Γ) ∨ (t ≠ tagB key (flatS ss) ∧ ∃ b', v = .iface 67 (.pointer (some ⟨b', 0, none⟩)) ∧ Γ' = wrA 100 b' :: macG b bi bo key Γ) := by
  refine Fn.enter Tryd.func36 rfl rfl rfl fun E => ?_
  refine m_run ?_
  (apply TL.box; exact rfl; exact rfl; exact (rfl : _ = bytesV t))
  intro b4
  refine m_run ?_
  refine TK.drawS mixed rfl ?_
  (apply TA.takeA (At.mk : At 0); exact rfl; exact rfl; kernel_rfl; ((focus ((repeat (first | assumption | exact Ent.refl _ | apply Ent.tail)); done))); (apply PV.loadAggH; exact rfl; exact tb rfl; exact rfl; exact has_rowAll; exact (by rw [bytesV_length, ht])))
  refine m_take (At.mk : At 1) ?_; refine m_take (At.mk : At 2) ?_
  (apply TA.one 3; kernel_rfl; exact rfl)
  (apply TL.callV (Δ := macG b bi bo key (row b4 (bytesV t) 27 :: Γ)); exact rfl; exact callB_of (by kernel_rfl); exact rfl; exact fun _ h => all_perm (List.Perm.append_right Γ (List.perm_append_comm (l₁ := [_]) (l₂ := [_, _, _]))) h)
  exact mtag_t b bi bo key A c ss _ (has_tls hs) (fun s h => has_tls (hss s h)) hcap hlen hn (has_tlg hK)
  rintro _ _ ⟨rfl, rfl⟩
  refine TL.perm (Δ := row b4 (bytesV t) 27 :: macG b bi bo key Γ) (List.Perm.append_right Γ (List.perm_append_comm (l₁ := [_, _, _]) (l₂ := [_]))) ?_
  refine TL.back (by (focus ((repeat (first | assumption | exact Ent.refl _ | apply Ent.tail)); done))) ?_
  (apply TA.one 4; kernel_rfl; exact rfl)
  (apply TL.callV; exact rfl; exact callB_of (by kernel_rfl); exact rfl; exact fun _ h => h)
  exact same_t t (tagB key (flatS ss)) _ ht (hashB_len _)
  rintro _ _ ⟨rfl, rfl⟩
  refine TL.back (by (focus ((repeat (first | assumption | exact Ent.refl _ | apply Ent.tail)); done))) ?_
  refine m_take (At.mk : At 5) ?_; refine m_take (At.mk : At 6) ?_
  refine TA.done (by kernel_rfl) ?_
  by_cases hq : t = tagB key (flatS ss)
  · refine TK.know (t := 13) (v := .bool false) (congrArg Value.bool (not_f (decide_eq_true hq))) ?_
    refine m_run ?_
    (apply TK.retS1; exact rfl; exact rfl; (exact m_val))
    · exact ⟨_, rfl, .inl ⟨hq, rfl, rfl⟩⟩
    · (repeat (first | exact List.Sublist.refl _ | apply List.Sublist.cons_cons | apply List.Sublist.cons))
  · refine TK.know (t := 13) (v := .bool true) (congrArg Value.bool (not_t (decide_eq_false hq))) ?_
    refine m_run ?_
    (apply TL.build tabs; exact rfl; exact rfl; exact rfl; exact rfl; exact rfl; exact rfl; exact (rfl : _ = [_, _]))
    (apply TL.box; exact rfl; exact rfl; exact (rfl : _ = [_, _]))
    intro b9
    refine m_run ?_
    (apply TL.pv; exact rfl; (apply PV.iface; exact rfl; exact tb rfl; exact rfl))
    refine m_run ?_
    refine TK.imp (Δ := wrA 100 b9 :: row b4 (bytesV t) 27 :: macG b bi bo key Γ) (fun m hm => sep_mono hm (fun _ h => ⟨_, by decide, h⟩) (fun _ => id)) ?_
    (apply TK.retS1; exact rfl; exact rfl; (exact m_val))
    · exact ⟨_, rfl, .inr ⟨hq, b9, rfl, rfl⟩⟩
    · (repeat (first | exact List.Sublist.refl _ | apply List.Sublist.cons_cons | apply List.Sublist.cons))
set_option maxRecDepth 100000 in
set_option maxHeartbeats 1000000 in
theorem right_t (b bi bo : Nat) (key t : List UInt8) (A : Option Addr) (c : Nat) (ss : List (Sl UInt8)) (Γ : List HP) (ht : t.length = 32) (hs : has Γ (srcAt 1 A ss.length (ss.map Sl.v))) (hss : ∀ s ∈ ss, has Γ (srcAt 1 s.A s.l.length (bytesV s.l))) (hcap : ∀ s ∈ ss, s.l.length ≤ s.c) (hlen : (flatS ss).length ≤ 100000000) (hn : ss.length ≤ 1000000000) (hK : gConst Γ) (hE : gErr Γ) :
    FnV Tryd.prog 26 [.pointer (some ⟨b, 0, none⟩), .agg (bytesV t).toArray, .slice A ss.length c] (macG b bi bo key Γ) fun v Γ' =>
      (t = tagB key (flatS ss) ∧ v = .nilIface ∧ Γ' = macG b bi bo key Γ) ∨ (t ≠ tagB key (flatS ss) ∧ ∃ b', v = .iface 67 (.pointer (some ⟨b', 0, none⟩)) ∧ Γ' = wrA 200 b' :: macG b bi bo key Γ) := by
  refine Fn.enter Tryd.func26 rfl rfl rfl fun E => ?_
  refine m_run ?_
  (apply TL.box; exact rfl; exact rfl; exact (rfl : _ = bytesV t))
  intro b4
  refine m_run ?_
  (apply TL.pv; exact rfl; (apply PV.loadAggH; exact rfl; exact tb rfl; exact rfl; exact has_rowAll; exact (by rw [bytesV_length, ht])))
  refine m_run ?_
  (apply TL.callV (Δ := macG b bi bo key (row b4 (bytesV t) 27 :: Γ)); exact rfl; exact callB_of (by kernel_rfl); exact rfl; exact fun _ h => all_perm (List.Perm.append_right Γ (List.perm_append_comm (l₁ := [_]) (l₂ := [_, _, _]))) h)
  exact check_t b bi bo key t A c ss _ ht (has_tls hs) (fun s h => has_tls (hss s h)) hcap hlen hn (has_tlg hK)
  rintro _ _ (⟨hq, rfl, rfl⟩ | ⟨hq, b', rfl, rfl⟩)
  · refine m_run ?_
    (apply TL.alloc; exact rfl; exact tb rfl; exact (rfl : _ = [_]))
    intro b8
    refine m_run ?_
    (apply TL.pv; exact rfl; (apply PV.iface; exact rfl; exact tb rfl; exact rfl))
    refine m_run ?_
    (apply TL.callV; exact rfl; exact callB_of (by kernel_rfl); exact rfl; exact fun _ h => h)
    exact as_nil_t _ _
    rintro _ _ ⟨rfl, rfl⟩
    refine m_run ?_
    (apply TK.retS1; exact rfl; exact rfl; (exact m_val))
    · exact ⟨_, rfl, .inl ⟨hq, rfl, rfl⟩⟩
    · (repeat (first | exact List.Sublist.refl _ | apply List.Sublist.cons_cons | apply List.Sublist.cons))
  · refine m_run ?_
    (apply TL.alloc; exact rfl; exact tb rfl; exact (rfl : _ = [_]))
    intro b8
    refine m_run ?_
    (apply TL.pv; exact rfl; (apply PV.iface; exact rfl; exact tb rfl; exact rfl))
    refine m_run ?_
    (apply TL.callV; exact rfl; exact callB_of (by kernel_rfl); exact rfl; exact fun _ h => h)
    exact as_t b8 b' _ (has_tlc (has_tlc (has_tlc (has_tlc (has_tlc hE)))))
    rintro _ _ ⟨rfl, rfl⟩
    refine m_run ?_
    (apply TL.pv; exact rfl; (apply PV.iface; exact rfl; exact tb rfl; exact rfl))
    refine m_run ?_
    (apply TL.callV; exact rfl; exact callB_of (by kernel_rfl); exact rfl; exact fun _ h => h)
    exact is_t b' 12 2 _ (has_at (up_cell _ _ _) 1 rfl fun _ h => wrA_e h)
    rintro _ _ ⟨rfl, rfl⟩
    refine m_run ?_
    refine TL.imp (Δ := wrA 100 b' :: row b8 [.pointer (some ⟨b', 0, none⟩)] 67 :: macG b bi bo key (row b4 (bytesV t) 27 :: Γ)) (fun m hm => all_perm (List.Perm.swap _ _ _) hm) ?_
    refine TL.open (X := ByteArray) (φ := fun s => s.size ≤ 100) (Δ := fun s => row b' [.string s, .int .i64 12] 71 :: row b8 [.pointer (some ⟨b', 0, none⟩)] 67 :: macG b bi bo key (row b4 (bytesV t) 27 :: Γ)) (fun m hm => ?_) ?_
    · obtain ⟨x, y, hd, rfl, ⟨s, h1, h3⟩, hy⟩ := hm
      exact ⟨s, h1, x, y, hd, rfl, h3, hy⟩
    intro s hsz
    refine m_run ?_
    (apply TL.pv; exact rfl; (apply PV.catStr; exact rfl; exact rfl; exact (show s.size + 24 ≤ 9223372036854775807 by omega)))
    refine m_run ?_
    trace_state
    refine TK.imp (Δ := wrA 200 b' :: row b8 [.pointer (some ⟨b', 0, none⟩)] 67 :: macG b bi bo key (row b4 (bytesV t) 27 :: Γ)) (fun m hm => sep_mono hm (fun _ h => ⟨_, by rw [ByteArray.size_append]; exact (show s.size + 24 ≤ 200 by omega), h⟩) (fun _ => id)) ?_
    (apply TK.retS1; exact rfl; exact rfl; (exact m_val))
    · exact ⟨_, rfl, .inr ⟨hq, b', rfl, rfl⟩⟩
    · (repeat (first | exact List.Sublist.refl _ | apply List.Sublist.cons_cons | apply List.Sublist.cons))
end Go.Proofs.YtdookobgkcnncaaDoor.E
