/- The reader of package lex: word, walked. -/
import Derived.Test.YtebeckkkckijeaaDoorR2
namespace Go.Proofs.YtebeckkkckijeaaDoor.E
open Go Go.RowKit Go.Proofs
section
variable {P : Program} {ρ : Env} {d : Nat} {ty : TypeId} {pos : String} {after : Array Edge} {Sw : World → Prop} {tab : List TR}
theorem PV.build {t : TypeId} {ps : List (Nat × Operand)} {r : TR} {fs : List Field} {pls : List (Nat × Nat)} {qs : List (Nat × Nat × List Value)} {l : List Value} (hT : TabsOk P tab) (ht : tab[t]? = some r) (hq : r.und = .struct fs.toArray) (hp : placesOf tab fs = some pls)
    (hqs : partsOf (fun i => pls[i]?) ρ ps = some qs) (hf : fitL r.zero.cells.size qs = true) (hl : fillL r.zero.cells.toList (qs.map fun q => (q.1, q.2.2)) = l) : PV P ρ Sw ⟨some d, .build t ps.toArray, ty, pos, after, none⟩ (.agg l.toArray) := fun w _ => by
  have hr := hT _ _ ht
  have h1 := run_places hT w fs pls hp
  have h2 := fill_eq (fun i => pls.toArray[i]?) _ (ps.map fun p => (p.1, ev ρ p.2)) qs r.zero.cells rfl (by simpa using parts_map ps qs hqs) hf
  simp only [execOp, Instr.build, Sem.run_bind, hr.run_zero, Result.andThen_ok, hr.run_und, hq, Array.mapM_eq_mapM_toList, Sem.run_map, h1, List.map_toArray]
  simp only [h2, hl]
  rfl
end
section
variable {cx : Cx} {ops : Array Oper} {Γ₀ : List HP} {fuel : Nat} {listed : Array Bool} {k : List Item} {ρ : Env} {ds : List Deferred} {Γ : List HP}
/-- Two operations may come up, one as well as the other: behind both the walk goes on once. -/
theorem TA.twoJ (i j : Nat) (J : Env → List HP → Prop) {o o' : Oper} (hr : Region.ready .any ops listed = [i, j]) (hi : ops[i]? = some o) (hj : ops[j]? = some o') (hij : (i == j) = false)
    (hA : (∀ ρ' Γ', J ρ' Γ' → TA cx ops Γ₀ fuel ((listed.setIfInBounds i true).setIfInBounds j true) k ρ' ds Γ') → TL cx ops (KA cx ops Γ₀ (fuel + 1) (listed.setIfInBounds i true) k) [o] ρ ds Γ)
    (hB : (∀ ρ' Γ', J ρ' Γ' → TA cx ops Γ₀ fuel ((listed.setIfInBounds j true).setIfInBounds i true) k ρ' ds Γ') → TL cx ops (KA cx ops Γ₀ (fuel + 1) (listed.setIfInBounds j true) k) [o'] ρ ds Γ)
    (tail : ∀ ρ' Γ', J ρ' Γ' → TA cx ops Γ₀ fuel ((listed.setIfInBounds i true).setIfInBounds j true) k ρ' ds Γ') : TA cx ops Γ₀ (fuel + 2) listed k ρ ds Γ := by
  refine TA.two i j hr hi hj (hA tail) (hB fun ρ' Γ' h => ?_)
  have hne : i ≠ j := by simpa using hij
  have hc : (listed.setIfInBounds j true).setIfInBounds i true = (listed.setIfInBounds i true).setIfInBounds j true := by
    apply Array.ext'
    simp only [Array.toList_setIfInBounds]
    exact (List.set_comm true true (Ne.symm hne)).symm ▸ rfl
  rw [hc]
  exact tail ρ' Γ' h
end
attribute [local irreducible] TK TL TQ TA Fn PV
def wcell (w : Wrd) : List Value := [.int .u8 (w.kind : Int), .string (S w.text), .int .i64 (w.pos : Int)]
def wcells (l : List Wrd) : List Value := l.flatMap wcell
theorem wcells_len (l : List Wrd) : (wcells l).length = l.length * 3 := by
  induction l with
  | nil => rfl
  | cons w l ih => rw [wcells, List.flatMap_cons, List.length_append]; show 3 + (wcells l).length = _; rw [ih, List.length_cons]; omega
theorem wcells_snoc (l : List Wrd) (w : Wrd) : wcells l ++ wcell w = wcells (l ++ [w]) := by simp [wcells]
theorem row_cellR {b e o : Nat} {l : List Value} {v : Value} {m : Mem} (hm : row b l e m) (h : l[o]? = some v) : cellAt m b o v := ⟨l.toArray, e, (0, 0), by rw [hm b]; simp, by simpa using h⟩
/-- The word that is taken. -/
def nw (k : Nat) (text : List UInt8) (p n : Nat) : Wrd := ⟨k, (text.drop p).take n, p⟩
/-- The words so far, in memory of one's own. -/
abbrev ownW (V : Value) (l : List Wrd) : HP := own 36 3 V l.length (wcells l)
set_option maxRecDepth 100000 in
set_option maxHeartbeats 1000000 in
theorem word_t (b : Nat) (text : List UInt8) (p n k : Nat) (A : Option Addr) (c : Nat) (l : List Wrd) (Γ : List HP) (hpn : p + n ≤ text.length) (ht : text.length ≤ 1000000) (hl : l.length ≤ 1000000) (_ : l.length ≤ c) :
    FnV Tryd.prog 21 [.pointer (some ⟨b, 0, none⟩), .int .u8 (k : Int), .int .i64 (n : Int)] (rdR b text p (.slice A l.length c) :: ownW (.slice A l.length c) l :: Γ) fun v Γ' =>
      (n = 0 ∧ v = .bool false ∧ Γ' = rdR b text p (.slice A l.length c) :: ownW (.slice A l.length c) l :: Γ) ∨
      (0 < n ∧ v = .bool true ∧ ∃ A' c', (l ++ [nw k text p n]).length ≤ c' ∧ Γ' = rdR b text (p + n) (.slice A' (l ++ [nw k text p n]).length c') :: ownW (.slice A' (l ++ [nw k text p n]).length c') (l ++ [nw k text p n]) :: Γ) := by
  refine Fn.enter Tryd.func21 rfl rfl rfl fun E => ?_
  by_cases hn : n = 0
  · subst hn
    refine m_run ?_
    (apply TK.ret1; exact rfl; exact rfl; (exact m_val))
    exact ⟨_, rfl, .inl ⟨rfl, rfl, rfl⟩⟩
  refine m_run ?_
  refine TK.drawE mixed rfl ((fun m => cellAt m b 0 (.string (S text)) ∧ cellAt m b 1 (.int .i64 (p : Int))) :: Γ) ?_
  have h0 : has ((fun m => cellAt m b 0 (.string (S text)) ∧ cellAt m b 1 (.int .i64 (p : Int))) :: Γ) (fun m => cellAt m b 0 (.string (S text))) := has_at (up_cell _ _ _) 0 rfl fun _ h => h.1
  have h1 : has ((fun m => cellAt m b 0 (.string (S text)) ∧ cellAt m b 1 (.int .i64 (p : Int))) :: Γ) (fun m => cellAt m b 1 (.int .i64 (p : Int))) := has_at (up_cell _ _ _) 0 rfl fun _ h => h.2
  have hent : ∀ V H, Ent (rdR b text p V :: H :: Γ) ((fun m => cellAt m b 0 (.string (S text)) ∧ cellAt m b 1 (.int .i64 (p : Int))) :: Γ) := fun V H => .cons (fun m h => ⟨row_cellR h rfl, row_cellR h rfl⟩) (.tail (.refl _))
  have hent0 := hent (.slice A l.length c) (ownW (.slice A l.length c) l)
  refine m_take (At.mk : At 0) ?_; refine m_take (At.mk : At 1) ?_; refine m_take (At.mk : At 2) ?_; refine m_take (At.mk : At 3) ?_; refine m_take (At.mk : At 5) ?_; refine m_take (At.mk : At 6) ?_; refine m_take (At.mk : At 7) ?_; refine m_take (At.mk : At 8) ?_; refine m_take (At.mk : At 9) ?_; refine m_take (At.mk : At 10) ?_; refine m_take (At.mk : At 11) ?_; refine m_take (At.mk : At 12) ?_; refine m_take (At.mk : At 13) ?_; refine m_take (At.mk : At 14) ?_; refine m_take (At.mk : At 15) ?_; refine m_take (At.mk : At 16) ?_; refine m_take (At.mk : At 17) ?_; refine m_take (At.mk : At 18) ?_; refine m_take (At.mk : At 19) ?_
  refine TA.know (t := 28) (v := .int .i64 ((p + n : Nat) : Int)) (congrArg (Value.int .i64) (by rw [i64_in (by omega) (by omega)]; omega)) ?_
  (apply TA.takeA (At.mk : At 20); exact rfl; exact rfl; kernel_rfl; ((focus ((repeat (first | assumption | exact Ent.refl _ | apply Ent.tail)); done))); (apply PV.sliceStr (i := p) (j := p + n) (l := text); exact rfl; exact tb rfl; exact rfl; exact .some rfl; exact .some rfl; exact (by omega); exact hpn))
  refine TA.know (t := 29) (v := .string (S ((text.drop p).take n))) (congrArg (fun z => Value.string (S ((text.drop p).take z))) (by omega)) ?_
  refine m_take (At.mk : At 21) ?_; refine m_take (At.mk : At 22) ?_; refine m_take (At.mk : At 23) ?_; refine m_take (At.mk : At 24) ?_
  (apply TA.takeA (At.mk : At 25); exact rfl; exact rfl; kernel_rfl; ((focus ((repeat (first | assumption | exact Ent.refl _ | apply Ent.tail)); done))); (apply PV.build tabs; exact rfl; exact rfl; exact rfl; exact rfl; exact rfl; exact (rfl : _ = wcell (nw k text p n))))
  refine TA.twoJ 4 26 (fun ρ' Γ' => ∃ b35, lk ρ' 0 = .pointer (some ⟨b, 0, none⟩) ∧ lk ρ' 2 = .int .i64 (n : Int) ∧ lk ρ' 9 = .pointer (some ⟨b, 0, none⟩) ∧ lk ρ' 13 = .slice A l.length c ∧ lk ρ' 35 = .slice (some ⟨b35, 0, none⟩) 1 1 ∧ Γ' = row b35 (wcell (nw k text p n)) 36 :: rdR b text p (.slice A l.length c) :: ownW (.slice A l.length c) l :: Γ) (by kernel_rfl) rfl rfl rfl ?_ ?_ ?_
  · intro tail
    refine m_rrun ?_
    refine TL.back (hent _ _) ?_
    (apply TA.one 26; kernel_rfl; exact rfl)
    (apply TL.buildSlice (l := wcell (nw k text p n)); exact rfl; exact tb rfl; exact rfl; exact tb rfl; exact rfl; exact rfl; exact rfl; exact rfl; exact rfl)
    intro b35
    refine TL.back (.tail (hent _ _)) ?_
    exact tail _ _ ⟨b35, rfl, rfl, rfl, rfl, rfl, rfl⟩
  · intro tail
    (apply TL.buildSlice (l := wcell (nw k text p n)); exact rfl; exact tb rfl; exact rfl; exact tb rfl; exact rfl; exact rfl; exact rfl; exact rfl; exact rfl)
    intro b35
    refine TL.back (.tail (hent _ _)) ?_
    (apply TA.one 4; kernel_rfl; exact rfl)
    refine m_rrun ?_
    refine TL.back (.tail (hent _ _)) ?_
    exact tail _ _ ⟨b35, rfl, rfl, rfl, rfl, rfl, rfl⟩
  rintro ρ' _ ⟨b35, e0, e2, e9, e13, e35, rfl⟩
  refine TA.know (t := 0) e0 (TA.know (t := 2) (v := .int .i64 (n : Int)) e2 (TA.know (t := 9) (v := .pointer (some ⟨b, 0, none⟩)) e9 (TA.know (t := 13) (v := .slice A l.length c) e13 (TA.know (t := 35) (v := .slice (some ⟨b35, 0, none⟩) 1 1) e35 ?_))))
  (apply TA.one 27; kernel_rfl; exact rfl)
  (apply TL.append 2; exact rfl; exact rfl; exact tb rfl; exact rfl; exact tb rfl; exact rfl; exact rfl; exact rfl)
  · exact fun _ h => h
  · exact rfl
  · exact has_src_row 0 rfl rfl
  · intro u hu
    simp only [wcell, List.mem_cons, List.not_mem_nil, or_false] at hu
    rcases hu with rfl | rfl | rfl <;> rfl
  · show (l.length + 1) * 32 ≤ _; omega
  · show l.length + 1 ≤ maxLen; unfold maxLen; omega
  · exact fun _ => (rfl : _ = _ :: _ :: _ :: _)
  intro A' c' hc'
  have hlen : (l ++ [nw k text p n]).length = l.length + 1 := by rw [List.length_append]; rfl
  rw [wcells_snoc]
  have hent2 : ∀ V H, Ent (row b35 (wcell (nw k text p n)) 36 :: rdR b text p V :: H :: Γ) ((fun m => cellAt m b 0 (.string (S text)) ∧ cellAt m b 1 (.int .i64 (p : Int))) :: Γ) := fun V H => .tail (hent V H)
  refine TL.back (hent2 _ _) ?_
  have hent3 := hent2 (.slice A l.length c) (own 36 3 (.slice A' (l.length + 1) c') (l.length + 1) (wcells (l ++ [nw k text p n])))
  refine m_take (At.mk : At 28) ?_; refine m_take (At.mk : At 29) ?_
  (apply TA.one 30; kernel_rfl; exact rfl)
  (apply TL.storeE 1 (l' := [.string (S text), .int .i64 (p : Int), .slice A' (l.length + 1) c']); exact rfl; exact rfl; exact rfl; exact rfl; exact tb rfl; exact rfl; exact (show 2 < 3 from by decide); exact rfl; exact rfl)
  refine TL.back (hent2 _ _) ?_
  refine TA.done (by kernel_rfl) ?_
  refine TK.imp (Δ := row b35 (wcell (nw k text p n)) 36 :: rdR b text p (.slice A' (l.length + 1) c') :: ownW (.slice A' (l.length + 1) c') (l ++ [nw k text p n]) :: Γ) (fun _ h => by rw [ownW, hlen]; exact h) ?_
  have hw : IntKind.i64.wrap ((p : Int) + (n : Int)) = ((p + n : Nat) : Int) := by rw [i64_in (by omega) (by omega)]; omega
  refine m_run ?_
  refine TK.imp (Δ := row b35 (wcell (nw k text p n)) 36 :: row b [.string (S text), .int .i64 (IntKind.i64.wrap ((p : Int) + (n : Int))), .slice A' (l.length + 1) c'] 44 :: ownW (.slice A' (l.length + 1) c') (l ++ [nw k text p n]) :: Γ) (fun _ h => h) ?_
  rw [hw]
  (apply TK.retS1; exact rfl; exact rfl; (exact m_val))
  · refine ⟨_, rfl, .inr ⟨by omega, rfl, A', c', ?_, rfl⟩⟩
    rw [hlen]; exact hc'
  · rw [hlen]
    (repeat (first | exact List.Sublist.refl _ | apply List.Sublist.cons_cons | apply List.Sublist.cons))
end Go.Proofs.YtebeckkkckijeaaDoor.E
