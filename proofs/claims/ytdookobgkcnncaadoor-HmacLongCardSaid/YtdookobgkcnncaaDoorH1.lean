/- Turning words; constants; states: new, forked. -/
import Derived.Test.YtdookobgkcnncaaDoorH0
namespace Go.Proofs.YtdookobgkcnncaaDoor.E
open Go Go.RowKit Go.Proofs
attribute [local irreducible] TK TL TQ TA Fn PV
theorem turn_bits : ∀ k : Fin 32, 1 ≤ k.val → bitsOf .and .u64 (IntKind.u64.wrap (-(k.val : Int))) 31 = ((32 - k.val : Nat) : Int) := by decide +kernel
set_option maxRecDepth 100000 in
theorem rotl_t (x : Wd) (k : Nat) (hk : 1 ≤ k ∧ k ≤ 31) (Γ : List HP) :
    FnV Tryd.prog 42 [w32 x, .int .i64 (-(k : Int))] Γ fun v Γ' => v = w32 (rotr x k) ∧ Γ' = Γ := by
  refine Fn.enter Tryd.func42 rfl rfl rfl fun E => ?_
  have h1 : bitsOf .and .u64 (IntKind.u64.wrap (-(k : Int))) 31 = ((32 - k : Nat) : Int) := turn_bits ⟨k, by omega⟩ hk.1
  refine m_run ?_
  refine TL.know (t := 10) (v := .int .u64 ((32 - k : Nat) : Int)) (congrArg (Value.int .u64) h1) ?_
  (apply TL.pv; exact rfl; (apply PV.shlW (k := 32 - k); exact rfl; exact rfl; exact rfl; exact (by omega)))
  refine m_run ?_
  refine TL.know (t := 14) (v := .int .u64 (k : Int)) (congrArg (Value.int .u64) (by rw [h1, u64_in (by omega) (by omega)]; omega)) ?_
  (apply TL.pv; exact rfl; (apply PV.shrW (k := k); exact rfl; exact rfl; exact rfl; exact (by omega)))
  refine m_run ?_
  (apply TK.ret1; exact rfl; exact rfl; (exact m_val))
  refine ⟨_, rfl, congrArg w32 ?_, rfl⟩
  exact BitVec.or_comm _ _
set_option maxRecDepth 100000 in
theorem rot_t (x : Wd) (k : Nat) (hk : 1 ≤ k ∧ k ≤ 31) (Γ : List HP) :
    FnV Tryd.prog 40 [w32 x, .int .u64 (k : Int)] Γ fun v Γ' => v = w32 (rotr x k) ∧ Γ' = Γ := by
  refine Fn.enter Tryd.func40 rfl rfl rfl fun E => ?_
  refine m_run ?_
  (apply TL.pv; exact rfl; (apply PV.shrW (k := k); exact rfl; exact rfl; exact rfl; exact (by omega)))
  refine m_run ?_
  refine TL.know (t := 10) (v := .int .u64 ((32 - k : Nat) : Int)) (congrArg (Value.int .u64) (by rw [u64_in (by omega) (by omega)]; omega)) ?_
  (apply TL.pv; exact rfl; (apply PV.shlW (k := 32 - k); exact rfl; exact rfl; exact rfl; exact (by omega)))
  refine m_run ?_
  (apply TK.ret1; exact rfl; exact rfl; (exact m_val))
  exact ⟨_, rfl, rfl, rfl⟩
def kV : List Value := kC.map w32
set_option maxRecDepth 100000 in
theorem const_t (Γ : List HP) : FnV Tryd.prog 39 [] Γ fun v Γ' => ∃ b, v = .slice (some ⟨b, 0, none⟩) 64 64 ∧ Γ' = row b kV 51 :: Γ := by
  refine Fn.enter Tryd.func39 rfl rfl rfl fun E => ?_
  refine m_run ?_
  (apply TL.buildSlice; exact rfl; exact tb rfl; exact rfl; exact tb rfl; exact rfl; exact rfl; exact rfl; exact rfl; exact (by kernel_rfl : _ = kV))
  intro b
  refine m_run ?_
  (apply TK.ret1; exact rfl; exact rfl; (exact m_val))
  exact ⟨_, rfl, b, rfl, rfl⟩
/-- The cells of a state. -/
def stC (v : V8) (hl : List UInt8) (n : Nat) : List Value := v.l.map w32 ++ bytesV hl ++ [.int .u64 (n : Int)]
/-- A state in memory, that took these bytes. -/
def stA (b : Nat) (bs : List UInt8) : HP := fun m => ∃ hl : List UInt8, hl.length = 64 ∧ hl.take (bs.length % 64) = bs.drop (64 * (bs.length / 64)) ∧ row b (stC (compN (bs.length / 64) begin8 bs) hl bs.length) 59 m
/-- What stands in the two tables. -/
abbrev gBegin (Γ : List HP) : Prop := has Γ (fun m => cellsAt m 0 0 (begin8.l.map w32))
abbrev gConst (Γ : List HP) : Prop := has Γ (fun m => cellsAt m 1 0 kV)
theorem st_new {b : Nat} {m : Mem} (h : row b (stC begin8 (List.replicate 64 0) 0) 59 m) : stA b [] m := ⟨List.replicate 64 0, by simp, rfl, h⟩
set_option maxRecDepth 100000 in
theorem new_t (Γ : List HP) (hG : gBegin Γ) : FnV Tryd.prog 16 [] Γ fun v Γ' => ∃ b, v = .pointer (some ⟨b, 0, none⟩) ∧ Γ' = stA b [] :: Γ := by
  refine Fn.enter Tryd.func16 rfl rfl rfl fun E => ?_
  refine m_run ?_
  (apply TL.build tabs; exact rfl; exact rfl; exact rfl; exact rfl; exact rfl; exact rfl; exact (by kernel_rfl : _ = stC begin8 (List.replicate 64 0) 0))
  (apply TL.box; exact rfl; exact rfl; exact (by kernel_rfl : _ = stC begin8 (List.replicate 64 0) 0))
  intro b
  refine m_run ?_
  refine TK.imp (Δ := stA b [] :: Γ) (fun m hm => sep_mono hm (fun _ h => st_new h) fun _ => id) ?_
  (apply TK.ret1; exact rfl; exact rfl; (exact m_val))
  exact ⟨_, rfl, b, rfl, rfl⟩
theorem own_row_has {b o : Nat} {xs ys zs : List Value} {e : Nat} {Γ : List HP} (ho : o = xs.length) : has (row b (xs ++ ys ++ zs) e :: Γ) (fun m => cellsAt m b o ys) := has_at (up_cells _ _ _) 0 rfl fun m hm j v hj => by
  refine ⟨(xs ++ ys ++ zs).toArray, e, (0, 0), by rw [hm b]; simp, ?_⟩
  have hlt : j < ys.length := (List.getElem?_eq_some_iff.1 hj).1
  subst ho
  simp only [List.getElem?_toArray, List.append_assoc]
  rw [List.getElem?_append_right (by omega), Nat.add_sub_cancel_left, List.getElem?_append_left hlt, hj]
def stZ : List Value := stC ⟨0, 0, 0, 0, 0, 0, 0, 0⟩ (List.replicate 64 0) 0
theorem ws_one (l : List Wd) : ∀ u ∈ l.map w32, u.oneCell' = true := fun u hu => by
  obtain ⟨x, _, rfl⟩ := List.mem_map.1 hu
  rfl
theorem bs_one (l : List UInt8) : ∀ u ∈ bytesV l, u.oneCell' = true := fun u hu => by
  obtain ⟨x, _, rfl⟩ := List.mem_map.1 hu
  rfl
theorem st_one (v : V8) (hl : List UInt8) (n : Nat) : allOne (stC v hl n) = true := by
  unfold allOne stC
  simp only [List.all_append, Bool.and_eq_true, List.all_eq_true]
  exact ⟨⟨ws_one _, bs_one _⟩, fun u hu => by simp at hu; subst hu; rfl⟩
theorem st_len {v : V8} {hl : List UInt8} (n : Nat) (h : hl.length = 64) : (stC v hl n).length = 73 := by simp [stC, V8.l, bytesV_length, h]
set_option maxRecDepth 100000 in
theorem fork_t (b : Nat) (bs : List UInt8) (Γ : List HP) : FnV Tryd.prog 19 [.pointer (some ⟨b, 0, none⟩)] (stA b bs :: Γ) fun v Γ' => ∃ b', v = .pointer (some ⟨b', 0, none⟩) ∧ Γ' = stA b' bs :: stA b bs :: Γ := by
  refine Fn.enter Tryd.func19 rfl rfl rfl fun E => ?_
  refine TK.open (X := List UInt8) (φ := fun hl => hl.length = 64 ∧ hl.take (bs.length % 64) = bs.drop (64 * (bs.length / 64))) (Δ := fun hl => row b (stC (compN (bs.length / 64) begin8 bs) hl bs.length) 59 :: Γ) (fun m hm => ?_) ?_
  · obtain ⟨x, y, hd, rfl, ⟨hl, h1, h2, h3⟩, hy⟩ := hm
    exact ⟨hl, ⟨h1, h2⟩, x, y, hd, rfl, h3, hy⟩
  rintro hl ⟨h1, h2⟩
  have hall : has (row b (stC (compN (bs.length / 64) begin8 bs) hl bs.length) 59 :: Γ) (fun m => cellsAt m b 0 (stC (compN (bs.length / 64) begin8 bs) hl bs.length)) := by
    have := own_row_has (b := b) (o := 0) (xs := []) (ys := stC (compN (bs.length / 64) begin8 bs) hl bs.length) (zs := []) (e := 59) (Γ := Γ) rfl
    simpa using this
  have hlen : (stC (compN (bs.length / 64) begin8 bs) hl bs.length).length = 73 := st_len _ h1
  refine m_run ?_
  (apply TL.pv; exact rfl; (apply PV.loadAggH; exact rfl; exact tb rfl; exact rfl; exact hall; exact hlen))
  (apply TL.alloc; exact rfl; exact tb rfl; exact (by kernel_rfl : _ = stZ))
  intro b'
  (apply TL.storeAggE 0 (l' := stC (compN (bs.length / 64) begin8 bs) hl bs.length); exact rfl; exact rfl; exact rfl; exact st_one _ _ _; exact tb rfl; exact (by rw [hlen]; rfl); exact (by rw [hlen]; decide +kernel); exact (by rw [hlen, List.take_zero, List.nil_append, List.drop_of_length_le (by decide +kernel), List.append_nil]); exact rfl)
  refine m_run ?_
  refine TK.imp (Δ := stA b' bs :: stA b bs :: Γ) (fun m hm => sep_mono hm (fun _ h => ⟨hl, h1, h2, h⟩) fun _ hm => sep_mono hm (fun _ h => ⟨hl, h1, h2, h⟩) fun _ => id) ?_
  (apply TK.ret1; exact rfl; exact rfl; (exact m_val))
  exact ⟨_, rfl, b', rfl, rfl⟩
end Go.Proofs.YtdookobgkcnncaaDoor.E
