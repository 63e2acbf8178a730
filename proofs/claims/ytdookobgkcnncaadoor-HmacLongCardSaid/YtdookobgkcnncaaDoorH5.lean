/- The sum of a state: (*State).Sum, walked. -/
import Derived.Test.YtdookobgkcnncaaDoorH4
namespace Go.Proofs.YtdookobgkcnncaaDoor.E
open Go Go.RowKit Go.Proofs
theorem FnV.imp {P : Program} {f : FuncId} {args : List Value} {Γ Δ : List HP} {R : Value → List HP → Prop} (hk : ∀ m, all Γ m → all Δ m) (h : FnV P f args Δ R) : FnV P f args Γ R := fun E w hs => h E w (hs.imp hk)
attribute [local irreducible] TK TL TQ TA Fn PV
theorem be8_len (n : Nat) : (be8 n).length = 8 := by simp [be8]
theorem be8_take {n i : Nat} (h : i < 8) : (be8 n).take (i + 1) = (be8 n).take i ++ [b8 (n / 2 ^ (8 * (7 - i)))] := by
  have : (be8 n)[i]? = some (b8 (n / 2 ^ (8 * (7 - i)))) := by simp [be8, h]
  rw [List.take_add_one, this]; rfl
theorem padded_len (l : List UInt8) : (padded l).length = 64 * ((l.length + 72) / 64) := by
  simp only [padded, padZ, List.length_append, List.length_replicate, be8_len, List.length_cons, List.length_nil]
  omega
theorem has_stN {b : Nat} {bs : List UInt8} {Γ : List HP} (i : Nat) (hi : Γ[i]? = some (stA b bs)) : has Γ (fun m => cellAt m b 72 (.int .u64 (bs.length : Int))) :=
  has_at (up_cell _ _ _) i hi fun _ ⟨_, h64, _, h⟩ => row_cell h (st_n h64)
theorem st_word {v : V8} {hl : List UInt8} {n k : Nat} (h : k < 8) : (stC v hl n)[k]? = some (w32 (v.l.getD k 0)) := by
  have h1 : k < v.l.length := h
  have h2 : k < (v.l.map w32).length := by rw [List.length_map]; exact h1
  rw [stC, List.append_assoc, List.getElem?_append_left h2, List.getElem?_map, List.getD_eq_getElem?_getD]
  simp [h1]
theorem out_set {M : List UInt8} {i : Nat} {x : UInt8} (hM : M.length = i) (hi : i < 32) : (bytesV M ++ List.replicate (32 - i) (Value.int .u8 0)).set i (.int .u8 (x.toNat : Int)) = bytesV (M ++ [x]) ++ List.replicate (32 - (i + 1)) (Value.int .u8 0) := by
  have h1 : (bytesV M).length = i := by rw [bytesV_length, hM]
  rw [show 32 - i = 32 - (i + 1) + 1 by omega, List.replicate_succ, List.set_append_right _ _ (by omega), h1, Nat.sub_self, List.set_cons_zero, bytesV_append, List.append_assoc]
  rfl
/-- A byte is written. -/
theorem write1_t (b b1 : Nat) (bs : List UInt8) (c : UInt8) (Γ : List HP) (hlen : bs.length + 1 ≤ 1000000000000) (hK : gConst Γ) :
    FnV Tryd.prog 18 [.pointer (some ⟨b, 0, none⟩), .slice (some ⟨b1, 0, none⟩) 1 1] (row b1 [.int .u8 (c.toNat : Int)] 5 :: stA b bs :: Γ) fun v Γ' => v = .int .i64 0 ∧ Γ' = stA b (bs ++ [c]) :: row b1 [.int .u8 (c.toNat : Int)] 5 :: Γ := by
  refine FnV.imp (fun m hm => all_perm (List.Perm.swap _ _ _) hm) ?_
  exact write_t b bs [c] (some ⟨b1, 0, none⟩) 1 (row b1 [.int .u8 (c.toNat : Int)] 5 :: Γ) (has_src_row 0 rfl rfl) (Nat.le_refl _) hlen (has_tlg hK)
attribute [local irreducible] rounds sched kC comp1 compN rotr hashB
set_option maxRecDepth 100000 in
set_option maxHeartbeats 1000000 in
theorem sum_t (b : Nat) (bs : List UInt8) (Γ : List HP) (hlen : bs.length ≤ 1000000000) (hK : gConst Γ) :
    FnV Tryd.prog 17 [.pointer (some ⟨b, 0, none⟩)] (stA b bs :: Γ) fun v Γ' => v = .agg (bytesV (hashB bs)).toArray ∧ Γ' = stA b bs :: Γ := by
  refine Fn.enter Tryd.func17 rfl rfl rfl fun E => ?_
  refine m_run ?_
  (apply TL.alloc; exact rfl; exact tb rfl; exact (by kernel_rfl : _ = List.replicate 32 (Value.int .u8 0)))
  intro bo
  have hn : has (row bo (List.replicate 32 (Value.int .u8 0)) 27 :: stA b bs :: Γ) (fun m => cellAt m b 72 (.int .u64 (bs.length : Int))) := has_stN 1 rfl
  refine m_run ?_
  refine TK.drawS mixed rfl ?_
  refine m_take (At.mk : At 0) ?_; refine m_take (At.mk : At 2) ?_; refine m_take (At.mk : At 3) ?_; refine m_take (At.mk : At 4) ?_; refine m_take (At.mk : At 5) ?_; refine m_take (At.mk : At 6) ?_
  (apply TA.one 1; kernel_rfl; exact rfl)
  refine m_run ?_
  (apply TL.callV (Δ := stA b bs :: row bo (List.replicate 32 (Value.int .u8 0)) 27 :: Γ); exact rfl; exact callB_of (by kernel_rfl); exact rfl; exact fun _ h => all_perm (List.Perm.swap _ _ _) h)
  exact fork_t b bs _
  rintro _ _ ⟨b', rfl, rfl⟩
  refine m_run ?_
  refine TL.perm (Δ := stA b' bs :: row bo (List.replicate 32 (Value.int .u8 0)) 27 :: stA b bs :: Γ) ((List.Perm.swap _ _ _).cons _) ?_
  refine TL.back (by (focus ((repeat (first | assumption | exact Ent.refl _ | apply Ent.tail)); done))) ?_
  refine m_take (At.mk : At 7) ?_; refine m_take (At.mk : At 8) ?_
  refine TA.done (by kernel_rfl) ?_
  obtain ⟨N, hN⟩ : ∃ N, 8 * bs.length = N := ⟨_, rfl⟩
  refine TK.know (t := 4) (v := .int .u64 (N : Int)) (congrArg (Value.int .u64) (by rw [show ((bs.length : Int) * 8) = ((bs.length * 8 : Nat) : Int) by omega, u64_nat (by omega)]; omega)) ?_
  clear hn
  obtain ⟨G, hG⟩ : ∃ G, row bo (List.replicate 32 (Value.int .u8 0)) 27 :: stA b bs :: Γ = G := ⟨_, rfl⟩
  have hKG : gConst G := by rw [← hG]; exact has_tlg (has_tlg hK)
  rw [hG]
  refine m_run ?_
  (apply TL.buildSlice; exact rfl; exact tb rfl; exact rfl; exact tb rfl; exact rfl; exact rfl; exact rfl; exact rfl; (exact m_lst))
  intro b1
  refine m_run ?_
  (apply TL.callV; exact rfl; exact callB_of (by kernel_rfl); exact rfl; exact fun _ h => h)
  exact write1_t b' b1 bs 128 G (by omega) hKG
  rintro _ _ ⟨rfl, rfl⟩
  refine m_run ?_
  refine TK.sub (Δ := stA b' (bs ++ [128]) :: G) (by (repeat (first | exact List.Sublist.refl _ | apply List.Sublist.cons_cons | apply List.Sublist.cons))) ?_
  apply TK.iter (fun j ρ' Γ' => ∃ z : Nat, z + j = padZ bs.length ∧ lk ρ' 2 = .pointer (some ⟨bo, 0, none⟩) ∧ lk ρ' 3 = .pointer (some ⟨b', 0, none⟩) ∧ lk ρ' 4 = .int .u64 (N : Int) ∧ Γ' = stA b' (bs ++ [128] ++ List.replicate z 0) :: G) (padZ bs.length)
  · exact ⟨0, Nat.zero_add _, rfl, rfl, rfl, by rw [List.replicate_zero, List.append_nil]⟩
  rintro j IH ρ' _ ⟨z, hz, e2, e3, e4, rfl⟩
  refine TK.know3 e2 e3 e4 ?_
  have hpz : padZ bs.length = (119 - bs.length % 64) % 64 := rfl
  have hXl : (bs ++ [128] ++ List.replicate z (0 : UInt8)).length = bs.length + 1 + z := by simp; omega
  have hn : has (stA b' (bs ++ [128] ++ List.replicate z 0) :: G) (fun m => cellAt m b' 72 (.int .u64 ((bs.length + 1 + z : Nat) : Int))) := by
    have := has_stN (b := b') (bs := bs ++ [128] ++ List.replicate z 0) (Γ := stA b' (bs ++ [128] ++ List.replicate z 0) :: G) 0 rfl
    rwa [hXl] at this
  by_cases h0 : z < padZ bs.length
  · refine m_run ?_
    (apply TL.buildSlice; exact rfl; exact tb rfl; exact rfl; exact tb rfl; exact rfl; exact rfl; exact rfl; exact rfl; (exact m_lst))
    intro b2
    refine m_run ?_
    (apply TL.callV; exact rfl; exact callB_of (by kernel_rfl); exact rfl; exact fun _ h => h)
    exact write1_t b' b2 _ 0 G (by rw [hXl]; omega) hKG
    rintro _ _ ⟨rfl, rfl⟩
    refine m_run ?_
    refine TK.sub (Δ := stA b' (bs ++ [128] ++ List.replicate z 0 ++ [0]) :: G) (by (repeat (first | exact List.Sublist.refl _ | apply List.Sublist.cons_cons | apply List.Sublist.cons))) ?_
    exact IH (j - 1) _ _ (by omega) ⟨z + 1, by omega, rfl, rfl, rfl, by rw [List.append_assoc _ _ [0], ← List.replicate_succ']⟩
  obtain rfl : z = padZ bs.length := by omega
  obtain ⟨Y, hY⟩ : ∃ Y, bs ++ [128] ++ List.replicate (padZ bs.length) (0 : UInt8) = Y := ⟨_, rfl⟩
  rw [hY] at hXl hn ⊢
  clear IH e2 e3 e4
  refine m_run ?_
  apply TK.iter (fun j ρ' Γ' => ∃ i : Nat, i + j = 8 ∧ lk ρ' 2 = .pointer (some ⟨bo, 0, none⟩) ∧ lk ρ' 3 = .pointer (some ⟨b', 0, none⟩) ∧ lk ρ' 4 = .int .u64 (N : Int) ∧ lk ρ' 29 = .int .i64 (i : Int) ∧ Γ' = stA b' (Y ++ (be8 N).take i) :: G) 8
  · exact ⟨0, Nat.zero_add _, rfl, rfl, rfl, rfl, by rw [List.take_zero, List.append_nil]⟩
  clear hn
  rintro j IH ρ' _ ⟨i, hij, e2, e3, e4, e29, rfl⟩
  refine TK.know4 e2 e3 e4 e29 ?_
  by_cases hi : i < 8
  · refine m_run ?_
    refine TL.know (t := 36) (v := .int .i64 ((8 * (7 - i) : Nat) : Int)) (congrArg (Value.int .i64) (by rw [i64_in (x := 8 * (i : Int)) (by omega) (by omega), i64_in (by omega) (by omega)]; omega)) ?_
    (apply TL.pv; exact rfl; (apply PV.shrN (n := N) (m := 8 * (7 - i)); exact rfl; exact rfl; exact rfl; exact (show 8 * (7 - i) ≤ 64 by omega)))
    refine m_run ?_
    refine TL.know (t := 38) (v := .int .u8 ((b8 (N / 2 ^ (8 * (7 - i)))).toNat : Int)) (congrArg (Value.int .u8) (u8_wrap _)) ?_
    (apply TL.buildSlice; exact rfl; exact tb rfl; exact rfl; exact tb rfl; exact rfl; exact rfl; exact rfl; exact rfl; (exact m_lst))
    intro b2
    refine m_run ?_
    (apply TL.callV; exact rfl; exact callB_of (by kernel_rfl); exact rfl; exact fun _ h => h)
    exact write1_t b' b2 _ (b8 (N / 2 ^ (8 * (7 - i)))) G (by rw [List.length_append, List.length_take, be8_len, hXl]; omega) hKG
    rintro _ _ ⟨rfl, rfl⟩
    refine m_run ?_
    refine TK.sub (Δ := stA b' (Y ++ (be8 N).take i ++ [b8 (N / 2 ^ (8 * (7 - i)))]) :: G) (by (repeat (first | exact List.Sublist.refl _ | apply List.Sublist.cons_cons | apply List.Sublist.cons))) ?_
    exact IH (j - 1) _ _ (by omega) ⟨i + 1, by omega, rfl, rfl, rfl, congrArg (Value.int .i64) (i64_succ i (by omega)), by rw [be8_take hi, List.append_assoc]⟩
  obtain rfl : i = 8 := by omega
  clear IH e2 e3 e4 e29
  have hpad : Y ++ (be8 N).take 8 = padded bs := by rw [List.take_of_length_le (Nat.le_of_eq (be8_len N)), ← hY, ← hN]; rfl
  rw [hpad]
  have hpl := padded_len bs
  refine TK.open (X := List UInt8) (φ := fun hl => hl.length = 64) (Δ := fun hl => row b' (stC (hashW bs) hl (padded bs).length) 59 :: G) (fun m hm => ?_) ?_
  · obtain ⟨x, y, hd, rfl, ⟨hl, h1, h2, h3⟩, hy⟩ := hm
    exact ⟨hl, h1, x, y, hd, rfl, h3, hy⟩
  intro hl h64
  refine TK.perm (Δ := row bo (List.replicate 32 (Value.int .u8 0)) 27 :: row b' (stC (hashW bs) hl (padded bs).length) 59 :: stA b bs :: Γ) (by rw [← hG]; exact List.Perm.swap _ _ _) ?_
  obtain ⟨v, hv⟩ : ∃ v, hashW bs = v := ⟨_, rfl⟩
  have hout : hashB bs = (List.range 32).map (outB v) := by rw [hashB, hv]
  rw [hv]
  refine m_run ?_
  apply TK.iter (fun j ρ' Γ' => ∃ i : Nat, i + j = 32 ∧ lk ρ' 2 = .pointer (some ⟨bo, 0, none⟩) ∧ lk ρ' 3 = .pointer (some ⟨b', 0, none⟩) ∧ lk ρ' 42 = .int .i64 (i : Int) ∧ Γ' = row bo (bytesV ((List.range i).map (outB v)) ++ List.replicate (32 - i) (Value.int .u8 0)) 27 :: row b' (stC v hl (padded bs).length) 59 :: stA b bs :: Γ) 32
  · exact ⟨0, Nat.zero_add _, rfl, rfl, rfl, rfl⟩
  clear hij
  rintro j IH ρ' _ ⟨i, hij, e2, e3, e42, rfl⟩
  refine TK.know3 e2 e3 e42 ?_
  by_cases hi : i < 32
  · refine m_run ?_
    refine TL.know (t := 48) (v := .int .i64 ((i / 4 : Nat) : Int)) (congrArg (Value.int .i64) (by rw [show (i : Int).tdiv 4 = ((i / 4 : Nat) : Int) from rfl, i64_nat (by omega)])) ?_
    have hw : has (row bo (bytesV ((List.range i).map (outB v)) ++ List.replicate (32 - i) (Value.int .u8 0)) 27 :: row b' (stC v hl (padded bs).length) 59 :: stA b bs :: Γ) (fun m => cellAt m b' (i / 4) (w32 (v.l.getD (i / 4) 0))) := has_at (up_cell _ _ _) 1 rfl fun m h => row_cell h (st_word (by omega))
    refine m_run ?_
    refine TL.know (t := 56) (v := .int .i64 ((24 - 8 * (i % 4) : Nat) : Int)) (congrArg (Value.int .i64) (by rw [i64_in (x := ((i % 4 : Nat) : Int) * 8) (by omega) (by omega), i64_in (by omega) (by omega)]; omega)) ?_
    (apply TL.pv; exact rfl; (apply PV.shrW (k := 24 - 8 * (i % 4)); exact rfl; exact rfl; exact rfl; exact (by omega)))
    refine m_run ?_
    (apply TL.storeE 0 (l' := bytesV ((List.range i).map (outB v) ++ [outB v i]) ++ List.replicate (32 - (i + 1)) (Value.int .u8 0)); exact rfl; exact rfl; exact rfl; exact rfl; exact tb rfl; exact rfl; exact (by simp [bytesV_length]; omega); exact out_set (by simp) hi; exact rfl)
    refine m_run ?_
    exact IH (j - 1) _ _ (by omega) ⟨i + 1, by omega, rfl, rfl, congrArg (Value.int .i64) (i64_succ i (by omega)), by rw [List.range_succ, List.map_append]; rfl⟩
  obtain rfl : i = 32 := by omega
  clear IH e2 e3 e42
  rw [← hout, Nat.sub_self, List.replicate_zero, List.append_nil]
  have hbl : (bytesV (hashB bs)).length = 32 := by rw [bytesV_length, hout]; simp
  have hbo := bs_one (hashB bs)
  generalize bytesV (hashB bs) = L at hbl hbo
  clear hout hv
  refine m_run ?_
  (apply TL.pv; exact rfl; (apply PV.loadAggH; exact rfl; exact tb rfl; exact rfl; exact has_rowAll; exact hbl))
  (apply TL.storeAggE 0 (l' := L); exact rfl; exact rfl; exact rfl; exact (by simpa [allOne] using hbo); exact tb rfl; exact (by rw [hbl]; rfl); exact (by omega); exact (by rw [List.take_zero, List.nil_append, List.drop_of_length_le (by omega), List.append_nil]); exact rfl)
  refine m_run ?_
  (apply TK.retRow (i := 0) (vs := L); exact rfl; exact rfl; exact rfl; exact rfl; exact tb rfl; exact rfl; exact (by rw [List.drop_zero]; exact List.take_of_length_le (by rw [hbl]; decide)); exact (by rw [hbl]; rfl))
  · exact ⟨_, rfl, rfl, rfl⟩
  · (repeat (first | exact List.Sublist.refl _ | apply List.Sublist.cons_cons | apply List.Sublist.cons))
/-! ### of no state -/
set_option maxRecDepth 100000 in
theorem write_nil (A : Option Addr) (n c : Nat) (Γ : List HP) : FnV Tryd.prog 18 [.pointer none, .slice A n c] Γ fun v Γ' => v = .int .i64 2 ∧ Γ' = Γ := by
  refine Fn.enter Tryd.func18 rfl rfl rfl fun E => ?_
  refine m_run ?_
  (apply TK.ret1; exact rfl; exact rfl; (exact m_val))
  exact ⟨_, rfl, rfl, rfl⟩
theorem fork_nil (Γ : List HP) : FnV Tryd.prog 19 [.pointer none] Γ fun v Γ' => v = .pointer none ∧ Γ' = Γ := by
  refine Fn.enter Tryd.func19 rfl rfl rfl fun E => ?_
  refine m_run ?_
  (apply TK.ret1; exact rfl; exact rfl; (exact m_val))
  exact ⟨_, rfl, rfl, rfl⟩
set_option maxRecDepth 100000 in
theorem sum_nil (Γ : List HP) : FnV Tryd.prog 17 [.pointer none] Γ fun v Γ' => v = .agg (List.replicate 32 (Value.int .u8 0)).toArray ∧ Γ' = Γ := by
  refine Fn.enter Tryd.func17 rfl rfl rfl fun E => ?_
  refine m_run ?_
  (apply TL.alloc; exact rfl; exact tb rfl; exact (by kernel_rfl : _ = List.replicate 32 (Value.int .u8 0)))
  intro bo
  refine m_run ?_
  (apply TK.retRow (i := 0) (vs := List.replicate 32 (Value.int .u8 0)); exact rfl; exact rfl; exact rfl; exact rfl; exact tb rfl; exact rfl; exact rfl; exact rfl)
  · exact ⟨_, rfl, rfl, rfl⟩
  · (repeat (first | exact List.Sublist.refl _ | apply List.Sublist.cons_cons | apply List.Sublist.cons))
end Go.Proofs.YtdookobgkcnncaaDoor.E
