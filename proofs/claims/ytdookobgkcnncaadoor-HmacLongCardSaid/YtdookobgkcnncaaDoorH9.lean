/- What the two tables of sha read as; how long what was handed in may be. -/
import Derived.Test.YtdookobgkcnncaaDoorH0
import Derived.Test.YtdookobgkcnncaaDoorRows
import Derived.ProofKit
import Derived.LaidMore
import Derived.OpenShut
import Derived.SizedLaws
import Derived.Stop.Joined
namespace Go.Proofs.YtdookobgkcnncaaDoor.E
open Go Go.RowKit Go.Proofs
theorem words_read {H : Type} {enc : TypeId × Value → H} {P : Program} {w : World} {base : Nat} {spare : Nat → Bool} {held : Bool} {fuel : Nat} {t e n : Nat} {cs : List Value} {ps : List MemPlace} {ws : List Wd} (ht : P.underlying t = some (.array n e)) (he : P.underlying e = some (.int .u32)) (hce : P.cellsOf e = 1) (hct : P.cellsOf t = n) (hn : ws.length = n)
    (h : DataW.trod enc P w base spare held fuel t cs = some (.agg (ws.map fun x => .lit (.int .u32 (x.toNat : Int))), ps)) : cs = ws.map w32 := by
  obtain ⟨xs, m, rfl, hx, hlen, hl, hel⟩ := DataW.trod_array ht h
  simp only [Prod.mk.injEq, DataW.agg.injEq] at hx
  rw [hct] at hlen
  apply List.ext_getElem?
  intro i
  by_cases hi : i < n
  · have h0 := hel i hi
    rw [hce, Nat.mul_one] at h0
    obtain ⟨y, hy⟩ : ∃ y, xs[i]? = some y := ⟨xs[i]'(by omega), by simp [hl, hi]⟩
    rw [hy] at h0
    obtain ⟨k, e1, e2, _⟩ := DataW.trod_int he h0
    obtain ⟨x, hxw⟩ : ∃ x, ws[i]? = some x := ⟨ws[i]'(by omega), by simp [hn, hi]⟩
    have h2 := congrArg (fun l => l[i]?) hx.1
    simp only [List.getElem?_map, hy, hxw, Option.map_some, Option.some.injEq] at h2
    have h3 : cs[i]? = some (.int .u32 k) := by
      have := congrArg (fun l => l[0]?) e1
      simpa [List.getElem?_take, List.getElem?_drop] using this
    rw [h3, List.getElem?_map, hxw]
    have e3 : y.1 = .lit (.int .u32 k) := by rw [e2]
    rw [e3] at h2
    injection h2 with h2
    injection h2 with _ h2
    rw [← h2]; rfl
  · rw [List.getElem?_eq_none (by omega), List.getElem?_eq_none (by rw [List.length_map]; omega)]
theorem cells_var {P : Program} {w : World} {n : String} {g : Nat} {cs : Array Value} {ws : List Value} (hg : P.globalNamed n = some g) (h : w.var? P n = some cs) (hc : cs.toList = ws) : has [exact_ w] (fun m => cellsAt m g 0 ws) := by
  refine has_exact fun j v hj => ?_
  have h1 := World.var?_cell hg h j
  rw [← hc] at hj
  have h2 : cs[j]? = some v := by simpa using hj
  rw [h2] at h1
  have := (cell_mem h1).2
  simpa using this
theorem slice_len {H : Type} {enc : TypeId × Value → H} {P : Program} {w : World} {t e : Nat} {r : TR} {α : Type} {s : Sl α} {d : DataW H} {ps : List MemPlace} {ts : List TypeId} {ds : List (DataW H)} {j : Nat} (ht : TabOk P t r) (hq : r.und = .slice e) (hb : Nat.blt 0 (P.bytesOf e) = true)
    (hd : DataW.Trod enc P w 0 (fun _ => true) true t s.v d ps) (hz : (DataW.weightsEach P ts ds).all (· ≤ reachBytes) = true) (h1 : ts[j]? = some t) (h2 : ds[j]? = some d) : s.l.length ≤ 140737488351232 := by
  obtain ⟨fuel, hf⟩ := hd
  have hcs : s.v.cells.toList = [.slice s.A s.l.length s.c] := rfl
  rw [hcs] at hf
  rcases DataW.trod_slice (by rw [ht.1, hq]) hf with ⟨h3, _⟩ | ⟨a, len, cap, elems, rest, n, _, h3, hx, _, _, _, hel, _⟩
  · have : s.l.length = 0 := by
      injection h3 with h3 _
      injection h3
    omega
  · have h4 : s.l.length = len := by
      injection h3 with h3 _
      injection h3
    injection hx with hx _
    subst hx
    have h5 := sized_slice hz h1 h2 (by rw [ht.1, hq])
    rw [List.length_map, List.length_map, hel] at h5
    have h6 : (len + rest.length) * 1 ≤ (len + rest.length) * P.bytesOf e := Nat.mul_le_mul_left _ (Nat.le_of_ble_eq_true hb)
    have h7 : reachBytes = 140737488351232 := rfl
    omega
end Go.Proofs.YtdookobgkcnncaaDoor.E
