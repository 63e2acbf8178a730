/- A block is taken: (*State).take, walked. -/
import Derived.Test.YtdookobgkcnncaaDoorH2
namespace Go.Proofs.YtdookobgkcnncaaDoor.E
open Go Go.RowKit Go.Proofs
attribute [local irreducible] TK TL TQ TA Fn PV
section
variable {cx : Cx} {ops : Array Oper} {k : Act → World → Prop} {rest : List Oper} {ρ : Env} {ds : List Deferred} {Γ : List HP} {d : Nat} {ty : TypeId} {pos : String} {after : Array Edge}
/-- An array, built. -/
theorem TL.buildArr {t e : TypeId} {n : Nat} {ps : List (Nat × Operand)} {r r' : TR} {qs : List (Nat × Nat × List Value)} {l : List Value} (hd : Nat.blt d cx.n = true) (ht : TabOk cx.P t r) (hq : r.und = .array n e) (ht' : TabOk cx.P e r')
    (hqs : partsOf (fun i => some (i * r'.size, r'.size)) ρ ps = some qs) (hf : fitL r.zero.cells.size qs = true) (hl : fillL r.zero.cells.toList (qs.map fun q => (q.1, q.2.2)) = l)
    (h : TL cx ops k rest ((d, .agg l.toArray) :: ρ) ds Γ) : TL cx ops k (⟨some d, .build t ps.toArray, ty, pos, after, none⟩ :: rest) ρ ds Γ :=
  .val hd (fun w => by
    have h2 := fill_eq (fun i => some (i * r'.size, r'.size)) _ (ps.map fun p => (p.1, ev ρ p.2)) qs r.zero.cells rfl (by simpa using parts_map ps qs hqs) hf
    simp only [execOp, Instr.build, Sem.run_bind, ht.run_zero, Result.andThen_ok, ht.run_und, hq, ht'.run_size, List.map_toArray]
    simp only [h2, hl]
    rfl) h
end
theorem ch_eq (e f g : Wd) : (g ^^^ (e &&& (f ^^^ g))) = ((e &&& f) ^^^ (~~~e &&& g)) := by
  apply BitVec.eq_of_getLsbD_eq
  intro i hi
  simp only [BitVec.getLsbD_xor, BitVec.getLsbD_and, BitVec.getLsbD_not, hi, decide_true, Bool.true_and]
  cases e.getLsbD i <;> cases f.getLsbD i <;> cases g.getLsbD i <;> rfl
theorem maj_eq (a b c : Wd) : ((a &&& b) ||| (c &&& (a ||| b))) = ((a &&& b) ^^^ (a &&& c) ^^^ (b &&& c)) := by
  apply BitVec.eq_of_getLsbD_eq
  intro i hi
  simp only [BitVec.getLsbD_xor, BitVec.getLsbD_and, BitVec.getLsbD_or]
  cases a.getLsbD i <;> cases b.getLsbD i <;> cases c.getLsbD i <;> rfl
/-- The sum of the words, as far as j. -/
def mixV (v r : V8) (j : Nat) : List Wd := (addV v r).l.take j ++ v.l.drop j
theorem mix_step (v r : V8) (rest : List Value) : ∀ j, j < 8 → ∃ x y, v.l[j]? = some x ∧ r.l[j]? = some y ∧ ((mixV v r j).map w32 ++ rest)[j]? = some (w32 x) ∧ ((mixV v r j).map w32 ++ rest).set j (w32 (x + y)) = (mixV v r (j + 1)).map w32 ++ rest
  | 0, _ => ⟨_, _, rfl, rfl, rfl, rfl⟩
  | 1, _ => ⟨_, _, rfl, rfl, rfl, rfl⟩
  | 2, _ => ⟨_, _, rfl, rfl, rfl, rfl⟩
  | 3, _ => ⟨_, _, rfl, rfl, rfl, rfl⟩
  | 4, _ => ⟨_, _, rfl, rfl, rfl, rfl⟩
  | 5, _ => ⟨_, _, rfl, rfl, rfl, rfl⟩
  | 6, _ => ⟨_, _, rfl, rfl, rfl, rfl⟩
  | 7, _ => ⟨_, _, rfl, rfl, rfl, rfl⟩
theorem sched_len (b : List UInt8) : (sched b).length = 64 := by rw [sched, extN_len, w16_len]
theorem kC_get {i : Nat} (h : i < 64) : kV[i]? = some (w32 (kC.getD i 0)) := by
  have h2 : i < kC.length := h
  simp [kV, List.getD_eq_getElem?_getD, h2]
attribute [local irreducible] rounds sched kC comp1 compN rotr
set_option maxRecDepth 100000 in
set_option maxHeartbeats 1000000 in
theorem take_t (b : Nat) (v : V8) (hl : List UInt8) (n : Nat) (h64 : hl.length = 64) (Γ : List HP) (hK : gConst Γ) :
    FnV Tryd.prog 30 [.pointer (some ⟨b, 0, none⟩)] (row b (stC v hl n) 59 :: Γ) fun r Γ' => r = .tuple #[] ∧ Γ' = row b (stC (comp1 v hl) hl n) 59 :: Γ := by
  refine Fn.enter Tryd.func30 rfl rfl rfl fun E => ?_
  obtain ⟨va, vb, vc, vd, ve, vf, vg, vh⟩ := v
  obtain ⟨rest, hrest⟩ : ∃ rest, bytesV hl ++ [.int .u64 (n : Int)] = rest := ⟨_, rfl⟩
  have hst : ∀ u : V8, stC u hl n = u.l.map w32 ++ rest := fun u => by rw [← hrest, stC, List.append_assoc]
  have hh : has (row b (stC ⟨va, vb, vc, vd, ve, vf, vg, vh⟩ hl n) 59 :: Γ) (fun m => cellsAt m b 8 (bytesV hl)) := own_row_has rfl
  refine m_run ?_
  refine m_quiet ?_
  refine m_run ?_
  (apply TL.callV; exact rfl; exact callB_of (by kernel_rfl); exact rfl; exact fun _ h => h)
  exact words_t b hl h64 _ hh
  rintro _ _ ⟨rfl, rfl⟩
  refine m_run ?_
  apply TK.iter (fun j ρ' Γ' => ∃ (i : Nat) (u : V8), i + j = 64 ∧ rounds (sched hl) i ⟨va, vb, vc, vd, ve, vf, vg, vh⟩ = u ∧ lk ρ' 0 = .pointer (some ⟨b, 0, none⟩) ∧ lk ρ' 57 = .agg ((sched hl).map w32).toArray ∧ lk ρ' 58 = .int .i64 (i : Int) ∧ lk ρ' 2 = w32 u.a ∧ lk ρ' 3 = w32 u.b ∧ lk ρ' 4 = w32 u.c ∧ lk ρ' 5 = w32 u.d ∧ lk ρ' 6 = w32 u.e ∧ lk ρ' 7 = w32 u.f ∧ lk ρ' 8 = w32 u.g ∧ lk ρ' 9 = w32 u.h ∧ Γ' = row b (stC ⟨va, vb, vc, vd, ve, vf, vg, vh⟩ hl n) 59 :: Γ) 64
  · exact ⟨0, ⟨va, vb, vc, vd, ve, vf, vg, vh⟩, Nat.zero_add _, by rw [rounds], rfl, rfl, rfl, rfl, rfl, rfl, rfl, rfl, rfl, rfl, rfl, rfl⟩
  rintro j IH ρ' _ ⟨i, ⟨a0, b0, c0, d0, f0, g0, h0, k0⟩, hij, hu, e0, e57, e58, e2, e3, e4, e5, e6, e7, e8, e9, rfl⟩
  refine TK.know11 e0 e57 e58 e2 e3 e4 e5 e6 e7 e8 e9 ?_
  by_cases hi : i < 64
  · obtain ⟨w, hw⟩ : ∃ w, (sched hl).getD i 0 = w := ⟨_, rfl⟩
    obtain ⟨kk, hkk⟩ : ∃ kk, kC.getD i 0 = kk := ⟨_, rfl⟩
    have hwv : ((sched hl).map w32)[i]? = some (w32 w) := by
      have h2 : i < (sched hl).length := by rw [sched_len]; exact hi
      rw [← hw]
      simp [List.getD_eq_getElem?_getD, h2]
    have hkc : has Γ (fun m => cellAt m 1 i (w32 kk)) := has_imp hK fun m hm => by
      have := hm i _ (kC_get hi)
      rwa [Nat.zero_add, hkk] at this
    have hr : rounds (sched hl) (i + 1) ⟨va, vb, vc, vd, ve, vf, vg, vh⟩ = rnd ⟨a0, b0, c0, d0, f0, g0, h0, k0⟩ kk w := by rw [rounds, hu, hkk, hw]
    refine m_run ?_
    refine TK.drawS mixed rfl ?_
    refine m_take (At.mk : At 0) ?_; refine m_take (At.mk : At 1) ?_; refine m_take (At.mk : At 3) ?_; refine m_take (At.mk : At 6) ?_; refine m_take (At.mk : At 10) ?_; refine m_take (At.mk : At 11) ?_; refine m_take (At.mk : At 12) ?_; refine m_take (At.mk : At 13) ?_; refine m_take (At.mk : At 14) ?_; refine m_take (At.mk : At 15) ?_; refine m_take (At.mk : At 16) ?_; refine m_take (At.mk : At 18) ?_; refine m_take (At.mk : At 19) ?_; refine m_take (At.mk : At 20) ?_; refine m_take (At.mk : At 22) ?_
    (apply TA.one 2; kernel_rfl; exact rfl)
    refine m_run ?_
    (apply TL.callV; exact rfl; exact callB_of (by kernel_rfl); exact rfl; exact fun _ h => h)
    exact rotl_t f0 6 (by decide) _
    rintro _ _ ⟨rfl, rfl⟩
    refine m_run ?_
    refine TL.back (by (focus ((repeat (first | assumption | exact Ent.refl _ | apply Ent.tail)); done))) ?_
    (apply TA.one 4; kernel_rfl; exact rfl)
    refine m_run ?_
    (apply TL.callV; exact rfl; exact callB_of (by kernel_rfl); exact rfl; exact fun _ h => h)
    exact rotl_t f0 11 (by decide) _
    rintro _ _ ⟨rfl, rfl⟩
    refine m_run ?_
    refine TL.back (by (focus ((repeat (first | assumption | exact Ent.refl _ | apply Ent.tail)); done))) ?_
    refine m_take (At.mk : At 5) ?_
    (apply TA.one 7; kernel_rfl; exact rfl)
    refine m_run ?_
    (apply TL.callV; exact rfl; exact callB_of (by kernel_rfl); exact rfl; exact fun _ h => h)
    exact rotl_t f0 25 (by decide) _
    rintro _ _ ⟨rfl, rfl⟩
    refine m_run ?_
    refine TL.back (by (focus ((repeat (first | assumption | exact Ent.refl _ | apply Ent.tail)); done))) ?_
    refine m_take (At.mk : At 8) ?_; refine m_take (At.mk : At 9) ?_; refine m_take (At.mk : At 17) ?_; refine m_take (At.mk : At 21) ?_; refine m_take (At.mk : At 23) ?_; refine m_take (At.mk : At 24) ?_
    refine TA.done (by kernel_rfl) ?_
    refine m_run ?_
    (apply TL.callV; exact rfl; exact callB_of (by kernel_rfl); exact rfl; exact fun _ h => h)
    exact rotl_t a0 2 (by decide) _
    rintro _ _ ⟨rfl, rfl⟩
    refine m_run ?_
    (apply TL.callV; exact rfl; exact callB_of (by kernel_rfl); exact rfl; exact fun _ h => h)
    exact rotl_t a0 13 (by decide) _
    rintro _ _ ⟨rfl, rfl⟩
    refine m_run ?_
    (apply TL.callV; exact rfl; exact callB_of (by kernel_rfl); exact rfl; exact fun _ h => h)
    exact rotl_t a0 22 (by decide) _
    rintro _ _ ⟨rfl, rfl⟩
    refine m_run ?_
    refine IH (j - 1) _ _ (by omega) ⟨i + 1, rnd ⟨a0, b0, c0, d0, f0, g0, h0, k0⟩ kk w, by omega, hr, rfl, rfl, congrArg (Value.int .i64) (i64_succ i (by omega)), congrArg w32 ?_, rfl, rfl, rfl, congrArg w32 ?_, rfl, rfl, rfl, rfl⟩
    · rw [ch_eq, maj_eq]; rfl
    · rw [ch_eq]; rfl
  obtain rfl : i = 64 := by omega
  refine m_run ?_
  (apply TL.buildArr; exact rfl; exact tb rfl; exact rfl; exact tb rfl; exact rfl; exact rfl; exact (rfl : _ = List.map w32 (V8.l ⟨a0, b0, c0, d0, f0, g0, h0, k0⟩)))
  have hc1 : comp1 ⟨va, vb, vc, vd, ve, vf, vg, vh⟩ hl = addV ⟨va, vb, vc, vd, ve, vf, vg, vh⟩ ⟨a0, b0, c0, d0, f0, g0, h0, k0⟩ := by rw [comp1, hu]
  rw [hc1, hst, hst]
  clear hc1 hu IH hh e0 e57 e58 e2 e3 e4 e5 e6 e7 e8 e9 hK
  generalize (⟨a0, b0, c0, d0, f0, g0, h0, k0⟩ : V8) = u
  generalize (⟨va, vb, vc, vd, ve, vf, vg, vh⟩ : V8) = v
  refine m_run ?_
  apply TK.iter (fun j ρ' Γ' => ∃ i : Nat, i + j = 8 ∧ lk ρ' 0 = .pointer (some ⟨b, 0, none⟩) ∧ lk ρ' 125 = .agg (u.l.map w32).toArray ∧ lk ρ' 126 = .int .i64 (i : Int) ∧ Γ' = row b ((mixV v u i).map w32 ++ rest) 59 :: Γ) 8
  · exact ⟨0, Nat.zero_add _, rfl, rfl, rfl, rfl⟩
  clear hij
  rintro j IH ρ' _ ⟨i, hij, e0, e125, e126, rfl⟩
  refine TK.know3 e0 e125 e126 ?_
  by_cases hi : i < 8
  · obtain ⟨x, y, h1, h2, h3, h4⟩ := mix_step v u rest i hi
    have huv : (u.l.map w32)[i]? = some (w32 y) := by rw [List.getElem?_map, h2]; rfl
    have hc : has (row b ((mixV v u i).map w32 ++ rest) 59 :: Γ) (fun m => cellAt m b i (w32 x)) := has_rowC h3
    have hlt : i < ((mixV v u i).map w32 ++ rest).length := (List.getElem?_eq_some_iff.1 h3).1
    refine m_run ?_
    refine TK.drawE mixed rfl Γ ?_
    refine m_take (At.mk : At 0) ?_; refine m_take (At.mk : At 1) ?_; refine m_take (At.mk : At 2) ?_; refine m_take (At.mk : At 3) ?_; refine m_take (At.mk : At 4) ?_; refine m_take (At.mk : At 6) ?_; refine m_take (At.mk : At 8) ?_; refine m_take (At.mk : At 9) ?_
    (apply TA.one 5; kernel_rfl; exact rfl)
    refine m_run ?_
    refine TL.back (by (focus ((repeat (first | assumption | exact Ent.refl _ | apply Ent.tail)); done))) ?_
    refine m_take (At.mk : At 7) ?_; refine m_take (At.mk : At 10) ?_
    (apply TA.one 11; kernel_rfl; exact rfl)
    (apply TL.storeE 0 (l' := (mixV v u (i + 1)).map w32 ++ rest); exact rfl; exact rfl; exact rfl; exact rfl; exact tb rfl; exact rfl; exact hlt; exact h4; exact rfl)
    refine TL.back (by (focus ((repeat (first | assumption | exact Ent.refl _ | apply Ent.tail)); done))) ?_
    refine TA.done (by kernel_rfl) ?_
    refine m_run ?_
    exact IH (j - 1) _ _ (by omega) ⟨i + 1, by omega, rfl, rfl, congrArg (Value.int .i64) (i64_succ i (by omega)), rfl⟩
  · obtain rfl : i = 8 := by omega
    refine m_run ?_
    exact TK.over0 rfl rfl ⟨_, rfl, rfl, rfl⟩
end Go.Proofs.YtdookobgkcnncaaDoor.E
