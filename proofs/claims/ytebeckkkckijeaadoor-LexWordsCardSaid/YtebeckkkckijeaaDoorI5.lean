/- What the two maps of lex read as: laid. -/
import Derived.Test.YtebeckkkckijeaaDoorR4
import Derived.Test.YtebeckkkckijeaaDoorRows
import Derived.Test.YtebeckkkckijeaaDoorTie
import Derived.Test.YtebeckkkckijeaaDoorCards
import Derived.SevenTiedAt
import Derived.ProofKit
import Derived.LaidMore
import Derived.OpenShut
import Derived.Stop.Joined
import Derived.Maps.Keyed
import Derived.SizedLaws
namespace Go.Proofs.YtebeckkkckijeaaDoor
open Go.ChangeShapes Go.WideShapes Go.ChangeAt Go.WideMaps Go.WideElems Go.RowKit E
theorem Tryd.own : ownKnob Tryd.prog.godebug = none := by kernel_rfl
theorem Tryd.laidOut : laidOutB Tryd.prog = true := by kernel_rfl
def laidS {H : Type} : List (String × DataW H) := [("bailey/lex.means", Rows.laid_bailey_lex_means), ("bailey/lex.marks", Rows.laid_bailey_lex_marks)]
theorem gMe : Tryd.prog.globalNamed "bailey/lex.means" = some 1 := by kernel_rfl
theorem gMa : Tryd.prog.globalNamed "bailey/lex.marks" = some 0 := by kernel_rfl
theorem tMe : (Tryd.prog.globals[1]?).map (·.type) = some 65 := by kernel_rfl
theorem tMa : (Tryd.prog.globals[0]?).map (·.type) = some 53 := by kernel_rfl
set_option maxRecDepth 100000 in
theorem door_met (os : Os) (args : Array Value) : laidMetH Tryd.prog laidS ((World.doorLaid Tryd.prog 400 os).forCall (fun _ _ => 0) ⟨#[], args, []⟩).memory :=
  laidMetH_of_parts3 (fuel := 80) (laidMet_of_run' 80 (by kernel_rfl) (by kernel_rfl)) (by kernel_rfl) (by kernel_rfl)
theorem cells_var {P : Program} {w : World} {n : String} {g : Nat} {cs : Array Value} {ws : List Value} (hg : P.globalNamed n = some g) (h : w.var? P n = some cs) (hc : cs.toList = ws) : has [exact_ w] (fun m => cellsAt m g 0 ws) := by
  refine has_exact fun j v hj => ?_
  have h1 := World.var?_cell hg h j
  rw [← hc] at hj
  have h2 : cs[j]? = some v := by simpa using hj
  rw [h2] at h1
  have := (cell_mem h1).2
  simpa using this
/-- A look-up in a laid map of numbers, in any world that bears it. -/
theorem look_int {H : Type} {enc : TypeId × Value → H} {W : World} {k e t b n clock : Nat} {q : IntKind} {es : Array MapEntry} {base : Nat} {sp : Nat → Bool} {held : Bool} (K : Maps.Keyed Tryd.prog k) (ht : Tryd.prog.underlying t = some (.map k e)) (he : Tryd.prog.underlying e = some (.int q))
    (hz : ∀ w, (zeroValue e).run Tryd.prog w = .ok (.int q 0) w) (F : Fit Tryd.prog k (elemAt enc Tryd.prog W base sp held n e) es clock) (hb : W.heap[b]? = some (.map es clock)) {D : List (Lit × DataW H)}
    (hD : D = (es.toList.map (rg Tryd.prog k (elemAt enc Tryd.prog W base sp held n e))).foldr DataW.insert []) {key : Value} {kl : Lit} (hkey : keyOf Tryd.prog k key = some kl) (c : Bool) :
    ∃ (a : Int) (y : Bool), lookHas t b key c (if c then .tuple #[.int q a, .bool y] else .int q a) [exact_ W] ∧ ((y = false ∧ a = 0 ∧ (DataW.map D).atKey kl .nil = .nil) ∨ (y = true ∧ (DataW.map D).atKey kl .nil = .lit (.int q a))) := by
  have hm : has [exact_ W] (fun m => m b = some (.map es clock)) := has_exact hb
  rcases Maps.fit_look c K ht (hz W) hb F hkey with ⟨_, hno, hat⟩ | ⟨e0, y, hmem, hk, _, hR, hat, _⟩
  · refine ⟨0, false, ⟨es, clock, hm, fun w hw => ?_⟩, .inl ⟨rfl, rfl, by rw [hD]; exact hat .nil⟩⟩
    rcases Maps.fit_look c K ht (hz w) hw F hkey with ⟨h, _, _⟩ | ⟨e0, y, hmem, hk, _, _, _, _⟩
    · exact h
    · exact absurd hk (hno e0 hmem)
  · obtain ⟨a, hv, hy, _⟩ := elemAt_int he hR
    have hat1 := hat .nil
    rw [← hD, hy] at hat1
    refine ⟨a, true, ⟨es, clock, hm, fun w hw => ?_⟩, .inr ⟨rfl, hat1⟩⟩
    rcases Maps.fit_look c K ht (hz w) hw F hkey with ⟨_, hno, _⟩ | ⟨e1, y1, hmem1, hk1, h, hR1, hat1', _⟩
    · exact absurd hk (hno e0 hmem)
    · obtain ⟨a1, hv1, hy1, _⟩ := elemAt_int he hR1
      have h2 := hat1' .nil
      rw [← hD, hat1, hy1] at h2
      have : a = a1 := by simpa using h2
      subst this
      rw [hv1] at h
      exact h
theorem of_laid {W : World} (h : laidMetH Tryd.prog laidS W) : gMeans [exact_ W] ∧ gMarks [exact_ W] := by
  rw [MakeChecks.laidMetH_plain _ _ _ (by kernel_rfl)] at h
  obtain ⟨ps, ⟨g0, t0, cs0, f0, p0, q0, hg0, ht0, hv0, hd0, ⟨g1, t1, cs1, f1, p1, q1, hg1, ht1, hv1, hd1, _, _⟩, _⟩, _, _⟩ := h
  obtain rfl := Option.some.inj (gMe.symm.trans hg0)
  obtain rfl := Option.some.inj (gMa.symm.trans hg1)
  obtain rfl := Option.some.inj (tMe.symm.trans ht0)
  obtain rfl := Option.some.inj (tMa.symm.trans ht1)
  have zero : ∀ w, (zeroValue 5).run Tryd.prog w = .ok (.int .u8 0) w := fun w => (tb rfl : TabOk Tryd.prog 5 _).run_zero w
  rcases open_map (tb rfl : TabOk Tryd.prog 65 _).1 hd0 with ⟨_, hx⟩ | ⟨bn, es, clock, n, rfl, hcs, hb, _, F, hx⟩
  · simp [Rows.laid_bailey_lex_means] at hx
  rcases open_map (tb rfl : TabOk Tryd.prog 53 _).1 hd1 with ⟨_, hx1⟩ | ⟨bm, es1, clock1, n1, rfl, hcs1, hb1, _, F1, hx1⟩
  · simp [Rows.laid_bailey_lex_marks] at hx1
  simp only [Prod.mk.injEq, Rows.laid_bailey_lex_means, Rows.laid_bailey_lex_marks, DataW.map.injEq] at hx hx1
  refine ⟨⟨bn, has_imp (cells_var hg0 hv0 hcs) fun _ hm => hm 0 _ rfl, fun s hs => ?_⟩, ⟨bm, has_imp (cells_var hg1 hv1 hcs1) fun _ hm => hm 0 _ rfl, fun c k hk => ?_⟩⟩
  · obtain ⟨a, y, hl, hay⟩ := look_int (Maps.string_keyed (tb rfl : TabOk Tryd.prog 9 _).1) (tb rfl : TabOk Tryd.prog 65 _).1 (tb rfl : TabOk Tryd.prog 5 _).1 zero F hb hx.1 (keyOf_string_mk (s := S s) (tb rfl : TabOk Tryd.prog 9 _).1 (by show s.length ≤ maxLen; unfold maxLen; omega)) true
    have hgoal : a = (meanK s : Int) ∧ y = meanB s := by
      have hS : (S s).data.toList = s := rfl
      rw [hS] at hay
      by_cases h3 : s = [110, 111, 116]
      · subst h3
        rcases hay with ⟨_, _, h⟩ | ⟨rfl, h⟩
        · have : (DataW.lit (.int .u8 3) : DataW _) = .nil := h
          cases this
        · have : (DataW.lit (.int .u8 3) : DataW _) = .lit (.int .u8 a) := h
          injection this with this
          injection this with _ this
          subst this
          exact ⟨rfl, rfl⟩
      by_cases h4 : s = [115, 97, 121, 115]
      · subst h4
        rcases hay with ⟨_, _, h⟩ | ⟨rfl, h⟩
        · have : (DataW.lit (.int .u8 4) : DataW _) = .nil := h
          cases this
        · have : (DataW.lit (.int .u8 4) : DataW _) = .lit (.int .u8 a) := h
          injection this with this
          injection this with _ this
          subst this
          exact ⟨rfl, rfl⟩
      have h5 : meanK s = 0 ∧ meanB s = false := by simp [meanK, meanB, h3, h4]
      rw [h5.1, h5.2]
      rcases hay with ⟨rfl, rfl, _⟩ | ⟨_, h⟩
      · exact ⟨rfl, rfl⟩
      · have e3 : ([110, 111, 116] == s) = false := by simpa using fun e => h3 e.symm
        have e4 : ([115, 97, 121, 115] == s) = false := by simpa using fun e => h4 e.symm
        simp [DataW.atKey, Lit.sameKey, e3, e4] at h
    rw [← hgoal.1, ← hgoal.2]
    exact hl
  · obtain ⟨a, y, hl, hay⟩ := look_int (Maps.int_keyed (tb rfl : TabOk Tryd.prog 5 _).1) (tb rfl : TabOk Tryd.prog 53 _).1 (tb rfl : TabOk Tryd.prog 5 _).1 zero F1 hb1 hx1.1 (Maps.keyOf_int_mk (a := (c.toNat : Int)) (tb rfl : TabOk Tryd.prog 5 _).1 (by have := c.toNat_lt; simp [Lit.wf, IntKind.min, IntKind.max, IntKind.signed, IntKind.bits]; omega)) false
    have hgoal : a = (k : Int) := by
      have hc : (c = 40 ∧ k = 5) ∨ (c = 41 ∧ k = 6) ∨ (c = 44 ∧ k = 7) ∨ (c = 46 ∧ k = 8) := by
        unfold markK at hk
        split at hk
        · rename_i e; injection hk with hk; exact .inl ⟨e, hk.symm⟩
        split at hk
        · rename_i e; injection hk with hk; exact .inr (.inl ⟨e, hk.symm⟩)
        split at hk
        · rename_i e; injection hk with hk; exact .inr (.inr (.inl ⟨e, hk.symm⟩))
        split at hk
        · rename_i e; injection hk with hk; exact .inr (.inr (.inr ⟨e, hk.symm⟩))
        · cases hk
      rcases hc with ⟨rfl, rfl⟩ | ⟨rfl, rfl⟩ | ⟨rfl, rfl⟩ | ⟨rfl, rfl⟩ <;> rcases hay with ⟨_, _, h⟩ | ⟨_, h⟩ <;> simp [DataW.atKey, Lit.sameKey] at h <;> exact h.symm
    rw [← hgoal]
    exact hl
end Go.Proofs.YtebeckkkckijeaaDoor
namespace Go.Proofs.YtebeckkkckijeaaDoor.E
open Go Go.RowKit Go.Proofs
theorem reads_text : Reads Tryd.prog 9 rStr := reads_str (tb rfl : TabOk Tryd.prog 9 _) rfl rfl
/-- How long a text that was handed in may be. -/
theorem str_len {H : Type} {enc : TypeId × Value → H} {P : Program} {w : World} {t : Nat} {r : TR} {l : List UInt8} {d : DataW H} {ps : List MemPlace} {ts : List TypeId} {ds : List (DataW H)} {j : Nat} (ht : TabOk P t r) (hq : r.und = .string)
    (hd : DataW.Trod enc P w 0 (fun _ => true) true t (.string (S l)) d ps) (hz : (DataW.weightsEach P ts ds).all (· ≤ reachBytes) = true) (h1 : ts[j]? = some t) (h2 : ds[j]? = some d) : l.length ≤ 140737488351232 := by
  obtain ⟨fuel, hf⟩ := hd
  obtain ⟨s, hs, hx, _⟩ := DataW.trod_string (by rw [ht.1, hq]) hf
  injection hx with hx _
  subst hx
  have h5 := sized_string hz h1 h2
  injection hs with hs _
  injection hs with hs
  subst hs
  exact h5
end Go.Proofs.YtebeckkkckijeaaDoor.E
