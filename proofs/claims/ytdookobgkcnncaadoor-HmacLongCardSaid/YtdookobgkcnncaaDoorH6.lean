/- sha.Sum and the document's Hex, walked. -/
import Derived.Test.YtdookobgkcnncaaDoorH5
namespace Go.Proofs.YtdookobgkcnncaaDoor.E
open Go Go.RowKit Go.Proofs
attribute [local irreducible] TK TL TQ TA Fn PV
theorem has_get {Γ : List HP} {b o n i : Nat} {vs : List Value} {v : Value} (h : has Γ (srcAt 1 (some ⟨b, o, none⟩) n vs)) (hi : vs[i]? = some v) : has Γ (fun m => cellAt m b (o + i) v) := fun m hm => by
  obtain ⟨_, h2⟩ := h m hm
  rcases h2 with h2 | ⟨b', o', e, h2⟩
  · rw [h2] at hi; cases hi
  · injection e with e
    injection e with e1 e2 _
    subst e1; subst e2
    exact h2 i _ hi
theorem slsV_get {ss : List (Sl UInt8)} {i : Nat} {s : Sl UInt8} (h : ss[i]? = some s) : (ss.map Sl.v)[i]? = some (.slice s.A s.l.length s.c) := by simp [h, Sl.v]
def flatS (ss : List (Sl UInt8)) : List UInt8 := ss.flatMap (·.l)
theorem flatS_take {ss : List (Sl UInt8)} {i : Nat} {s : Sl UInt8} (h : ss[i]? = some s) : flatS (ss.take (i + 1)) = flatS (ss.take i) ++ s.l := by
  rw [List.take_add_one, h]
  simp [flatS]
theorem flatS_len (ss : List (Sl UInt8)) (i : Nat) : (flatS (ss.take i)).length ≤ (flatS ss).length := by
  have : flatS ss = flatS (ss.take i) ++ flatS (ss.drop i) := by
    unfold flatS
    rw [← List.flatMap_append, List.take_append_drop]
  rw [this, List.length_append]; omega
attribute [local irreducible] rounds sched kC comp1 compN rotr hashB hashW
set_option maxRecDepth 100000 in
theorem shasum_t (A : Option Addr) (c : Nat) (ss : List (Sl UInt8)) (Γ : List HP) (hs : has Γ (srcAt 1 A ss.length (ss.map Sl.v))) (hss : ∀ s ∈ ss, has Γ (srcAt 1 s.A s.l.length (bytesV s.l))) (hcap : ∀ s ∈ ss, s.l.length ≤ s.c) (hlen : (flatS ss).length ≤ 1000000000) (hn : ss.length ≤ 1000000000) (hB : gBegin Γ) (hK : gConst Γ) :
    FnV Tryd.prog 13 [.slice A ss.length c] Γ fun v Γ' => v = .agg (bytesV (hashB (flatS ss))).toArray ∧ Γ' = Γ := by
  refine Fn.enter Tryd.func13 rfl rfl rfl fun E => ?_
  refine m_run ?_
  (apply TL.alloc; exact rfl; exact tb rfl; exact (by kernel_rfl : _ = List.replicate 32 (Value.int .u8 0)))
  intro bo
  refine m_run ?_
  (apply TL.callV; exact rfl; exact callB_of (by kernel_rfl); exact rfl; exact fun _ h => h)
  exact new_t _ (has_tlg hB)
  rintro _ _ ⟨b, rfl, rfl⟩
  refine m_run ?_
  apply TK.iter (fun j ρ' Γ' => ∃ i : Nat, i + j = ss.length ∧ lk ρ' 2 = .pointer (some ⟨bo, 0, none⟩) ∧ lk ρ' 3 = .pointer (some ⟨b, 0, none⟩) ∧ lk ρ' 7 = .slice A ss.length c ∧ lk ρ' 8 = .int .i64 (ss.length : Int) ∧ lk ρ' 9 = .int .i64 (i : Int) ∧ Γ' = stA b (flatS (ss.take i)) :: row bo (List.replicate 32 (Value.int .u8 0)) 27 :: Γ) ss.length
  · exact ⟨0, Nat.zero_add _, rfl, rfl, rfl, rfl, rfl, rfl⟩
  rintro j IH ρ' _ ⟨i, hij, e2, e3, e7, e8, e9, rfl⟩
  refine TK.know5 e2 e3 e7 e8 e9 ?_
  by_cases hi : i < ss.length
  · obtain ⟨s, hsi⟩ : ∃ s, ss[i]? = some s := ⟨ss[i], by simp [hi]⟩
    have hmem := List.mem_of_getElem? hsi
    refine TK.mem fun m0 hm0 => ?_
    obtain ⟨b0, o0, rfl⟩ := src_some (has_tls (has_tls hs) m0 hm0) (by rw [List.length_map]; omega)
    clear hm0 m0
    have hcell := has_get hs (slsV_get hsi)
    have hl1 := flatS_len ss (i + 1)
    rw [flatS_take hsi, List.length_append] at hl1
    refine m_run ?_
    (apply TL.callV; exact rfl; exact callB_of (by kernel_rfl); exact rfl; exact fun _ h => h)
    exact write_t b (flatS (ss.take i)) s.l s.A s.c (row bo (List.replicate 32 (Value.int .u8 0)) 27 :: Γ) (has_tls (hss s hmem)) (hcap s hmem) (by omega) (has_tlg hK)
    rintro _ _ ⟨rfl, rfl⟩
    refine m_run ?_
    exact IH (j - 1) _ _ (by omega) ⟨i + 1, by omega, rfl, rfl, rfl, rfl, congrArg (Value.int .i64) (i64_succ i (by omega)), by rw [flatS_take hsi]⟩
  obtain rfl : i = ss.length := by omega
  rw [List.take_length]
  refine m_run ?_
  (apply TL.callV; exact rfl; exact callB_of (by kernel_rfl); exact rfl; exact fun _ h => h)
  exact sum_t b (flatS ss) (row bo (List.replicate 32 (Value.int .u8 0)) 27 :: Γ) hlen (has_tlg hK)
  rintro _ _ ⟨rfl, rfl⟩
  have hbl : (bytesV (hashB (flatS ss))).length = 32 := by
    rw [bytesV_length]
    unfold hashB
    rw [List.length_map, List.length_range]
  have hbo := bs_one (hashB (flatS ss))
  generalize bytesV (hashB (flatS ss)) = L at hbl hbo
  refine m_run ?_
  (apply TL.storeAggE 1 (l' := L); exact rfl; exact rfl; exact rfl; exact (by simpa [allOne] using hbo); exact tb rfl; exact (by rw [hbl]; rfl); exact (by rw [hbl]; decide); exact (by rw [List.take_zero, List.nil_append, List.drop_of_length_le (by rw [hbl]; decide), List.append_nil]); exact rfl)
  refine m_run ?_
  (apply TK.retRow (i := 1) (vs := L); exact rfl; exact rfl; exact rfl; exact rfl; exact tb rfl; exact rfl; exact (by rw [List.drop_zero]; exact List.take_of_length_le (by rw [hbl]; decide)); exact (by rw [hbl]; rfl))
  · exact ⟨_, rfl, rfl, rfl⟩
  · (repeat (first | exact List.Sublist.refl _ | apply List.Sublist.cons_cons | apply List.Sublist.cons))
/-- The digits of a byte. -/
def digC (k : Nat) : UInt8 := if k < 10 then b8 (48 + k) else b8 (87 + k)
def hexM (l : List UInt8) : List UInt8 := l.flatMap fun c => [digC (c.toNat / 16), digC (c.toNat % 16)]
theorem u8_small {k : Nat} (h : k < 256) : IntKind.u8.wrap (k : Int) = (k : Int) := by
  rw [u8_wrap, b8_nat h]
def digs : List UInt8 := [48, 49, 50, 51, 52, 53, 54, 55, 56, 57, 97, 98, 99, 100, 101, 102]
theorem digs_cut {k : Nat} (h : k < 16) : (digs.drop k).take (k + 1 - k) = [digC k] := by
  have : ∀ k : Fin 16, (digs.drop k.val).take (k.val + 1 - k.val) = [digC k.val] := by decide
  exact this ⟨k, h⟩
theorem hexM_take {l : List UInt8} {i : Nat} {c : UInt8} (h : l[i]? = some c) : hexM (l.take (i + 1)) = hexM (l.take i) ++ [digC (c.toNat / 16)] ++ [digC (c.toNat % 16)] := by
  rw [List.take_add_one, h]
  simp [hexM]
theorem hexM_len (l : List UInt8) : (hexM l).length = 2 * l.length := by
  induction l with
  | nil => rfl
  | cons a l ih =>
    have h : hexM (a :: l) = [digC (a.toNat / 16), digC (a.toNat % 16)] ++ hexM l := by simp [hexM]
    rw [h, List.length_append, ih, List.length_cons]; simp; omega
set_option maxRecDepth 100000 in
theorem hex_t (A : Option Addr) (c : Nat) (l : List UInt8) (Γ : List HP) (hs : has Γ (srcAt 1 A l.length (bytesV l))) (hl : l.length ≤ 1000) :
    FnV Tryd.prog 27 [.slice A l.length c] Γ fun v Γ' => v = .string (S (hexM l)) ∧ Γ' = Γ := by
  refine Fn.enter Tryd.func27 rfl rfl rfl fun E => ?_
  refine m_run ?_
  apply TK.iter (fun j ρ' Γ' => ∃ i : Nat, i + j = l.length ∧ lk ρ' 0 = .slice A l.length c ∧ lk ρ' 3 = .string (S digs) ∧ lk ρ' 4 = .string (S (hexM (l.take i))) ∧ lk ρ' 5 = .int .i64 (i : Int) ∧ Γ' = Γ) l.length
  · exact ⟨0, Nat.zero_add _, rfl, rfl, rfl, rfl, rfl⟩
  rintro j IH ρ' Γ ⟨i, hij, e0, e3, e4, e5, rfl⟩
  refine TK.know4 e0 e3 e4 e5 ?_
  by_cases hi : i < l.length
  · obtain ⟨ch, hch⟩ : ∃ ch, l[i]? = some ch := ⟨l[i], by simp [hi]⟩
    refine TK.mem fun m0 hm0 => ?_
    obtain ⟨b0, o0, rfl⟩ := src_some (hs m0 hm0) (by rw [bytesV_length]; omega)
    have hcell := has_byte hs hch
    have hc8 := ch.toNat_lt
    have hml := hexM_len (l.take i)
    rw [List.length_take] at hml
    refine m_run ?_
    refine m_quiet ?_
    refine TQ.know (t := 18) (v := .int .u8 ((ch.toNat / 16 : Nat) : Int)) (congrArg (Value.int .u8) (by rw [show (ch.toNat : Int).tdiv 16 = ((ch.toNat / 16 : Nat) : Int) from rfl, u8_small (by omega)])) ?_
    refine TQ.know (t := 24) (v := .int .u8 ((ch.toNat / 16 + 1 : Nat) : Int)) (congrArg (Value.int .u8) (by rw [show (ch.toNat : Int).tdiv 16 = ((ch.toNat / 16 : Nat) : Int) from rfl, u8_small (k := ch.toNat / 16) (by omega), ← Int.natCast_one, ← Int.natCast_add, u8_small (by omega)])) ?_
    (apply TQ.pv; exact rfl; (apply PV.sliceStr (i := ch.toNat / 16) (j := ch.toNat / 16 + 1) (l := digs); exact rfl; exact tb rfl; exact rfl; exact .some rfl; exact .some rfl; exact (by omega); exact (show ch.toNat / 16 + 1 ≤ 16 by omega)))
    rw [digs_cut (by omega)]
    refine m_qrun ?_
    (apply TQ.pv; exact rfl; (apply PV.catS (a := hexM (l.take i)) (b := [digC (ch.toNat / 16)]); exact rfl; exact rfl; exact (by simp only [List.length_cons, List.length_nil]; omega)))
    refine m_qrun ?_
    refine TQ.know (t := 38) (v := .int .u8 ((ch.toNat % 16 + 1 : Nat) : Int)) (congrArg (Value.int .u8) (by rw [← Int.natCast_one, ← Int.natCast_add, u8_small (by omega)])) ?_
    (apply TQ.pv; exact rfl; (apply PV.sliceStr (i := ch.toNat % 16) (j := ch.toNat % 16 + 1) (l := digs); exact rfl; exact tb rfl; exact rfl; exact .some rfl; exact .some rfl; exact (by omega); exact (show ch.toNat % 16 + 1 ≤ 16 by omega)))
    rw [digs_cut (by omega)]
    refine m_qrun ?_
    (apply TQ.pv; exact rfl; (apply PV.catS (a := hexM (l.take i) ++ [digC (ch.toNat / 16)]) (b := [digC (ch.toNat % 16)]); exact rfl; exact rfl; exact (by simp only [List.length_append, List.length_cons, List.length_nil]; omega)))
    refine m_qrun ?_
    refine m_run ?_
    exact IH (j - 1) _ _ (by omega) ⟨i + 1, by omega, rfl, rfl, by rw [hexM_take hch]; rfl, congrArg (Value.int .i64) (i64_succ i (by omega)), rfl⟩
  · obtain rfl : i = l.length := by omega
    refine m_run ?_
    (apply TK.ret1; exact rfl; exact rfl; (exact m_val))
    exact ⟨_, rfl, by rw [List.take_length], rfl⟩
end Go.Proofs.YtdookobgkcnncaaDoor.E
