/- MY OWN LAYER: keys of two plain fields (a uint32, an int). P is a variable. -/
import Derived.Test.YthbcfamfaicneaaSz
import Derived.Test.YthbcfamfaicneaaSe
namespace Go.Proofs.Ythbcfamfaicneaa.E
open Go Go.RowKit
def spotL (s : Nat × Nat) : List Value := [.int .u32 (s.1 : Int), .int .i64 (s.2 : Int)]
def spotV (s : Nat × Nat) : Value := .agg (spotL s).toArray
theorem keySpot {P : Program} {tab : List TR} (hT : TabsOk P tab) {kt : TypeId} {r r1 r2 : TR} {f1 f2 : Field} (ht : tab[kt]? = some r) (hq : r.und = .struct [f1, f2].toArray) (hs : P.stoodInHeld kt = false) (h1 : tab[f1.type]? = some r1) (h2 : tab[f2.type]? = some r2) (q1 : r1.und = .int .u32) (q2 : r2.und = .int .i64)
    (n1 : (f1.name == "_") = false) (n2 : (f2.name == "_") = false) (o1 : f1.offset = 0) (o2 : f2.offset = 1) : KeyOk P kt spotV := by
  have hf := fieldsOf_of (hT _ _ ht) hq
  have hu : P.underlying kt = some (.struct [f1, f2].toArray) := by rw [← hq]; exact (hT _ _ ht).1
  have hn1 : ¬ f1.name = "_" := by simpa using n1
  have hn2 : ¬ f2.name = "_" := by simpa using n2
  have hE : ∀ a b : Nat × Nat, eqFs tab (spotL a) (spotL b) [f1, f2] = some (decide (a = b)) := fun a b => by
    obtain ⟨a1, a2⟩ := a
    obtain ⟨b1, b2⟩ := b
    simp only [eqFs, hn1, hn2, h1, h2, q1, q2, o1, o2, spotL, if_false, Option.bind_some, isAggD, eqC, List.getElem?_cons_zero, List.getElem?_cons_succ, if_true, Option.map_some, Bool.and_true, Prod.mk.injEq, Bool.false_eq_true]
    congr 1
    rw [Bool.eq_iff_iff]
    simp only [Bool.and_eq_true, beq_iff_eq, decide_eq_true_eq]
    omega
  have heq : ∀ a b (w : World), (Op.equal kt (spotV a) (spotV b)).run P w = .ok (decide (a = b)) w := fun a b w => by
    have h3 := run_eqFs hT (spotL a) (spotL b) 9998 w [f1, f2] _ (hE a b)
    rw [← hf.2, ← run_equalIn_agg w 9999 kt (spotL a).toArray (spotL b).toArray hf.1 hs] at h3
    exact h3
  have hask : ∀ (k : Nat × Nat) (L : List MapEntry) (es : List (Nat × Nat)) (i : Nat) (w : World), L.map (·.key) = es.map spotV →
      (Instr.findAsking kt (spotV k) L i).run P w = .ok ((es.findIdx? (fun x => decide (k = x))).map fun j => (i + j, ((L[j]?).map (·.val)).getD undef)) w := by
    intro k L
    induction L with
    | nil =>
      intro es i w h
      cases es with
      | nil => rfl
      | cons e es => simp at h
    | cons x L ih =>
      intro es i w h
      cases es with
      | nil => simp at h
      | cons e es =>
        simp only [List.map_cons, List.cons.injEq] at h
        simp only [Instr.findAsking, Sem.run_bind, h.1, heq, Result.andThen_ok, Sem.run_ite, List.findIdx?_cons]
        by_cases hk : k = e
        · simp [hk]
        · simp only [hk, decide_false]
          rw [ih es (i + 1) w h.2]
          simp only [Bool.false_eq_true, if_false, Option.map_map]
          congr 2
          funext j
          simp [Nat.add_assoc, Nat.add_comm 1 j]
  refine ⟨fun k L es w h => ?_, fun k em w => ?_, fun k w => ?_⟩
  · simp only [Instr.findKey, Sem.run_bind, run_underlying hu, Result.andThen_ok]
    cases L with
    | nil =>
      cases es with
      | nil => rfl
      | cons e es => simp at h
    | cons x L =>
      have : Instr.findNow (.struct [f1, f2].toArray) (spotV k) (x :: L) 0 = none := rfl
      rw [this]
      have := hask k (x :: L) es 0 w h
      simpa using this
  · have hr1 := hT _ _ h1
    have hr2 := hT _ _ h2
    have p1 : (part f1.type (spotL k).toArray f1.offset).run P w = .ok (.int .u32 (k.1 : Int)) w := by
      simp only [part, Sem.run_bind, hr1.run_agg, Result.andThen_ok, q1, isAggD, Sem.run_ite, o1, spotL]
      simp
    have p2 : (part f2.type (spotL k).toArray f2.offset).run P w = .ok (.int .i64 (k.2 : Int)) w := by
      simp only [part, Sem.run_bind, hr2.run_agg, Result.andThen_ok, q2, isAggD, Sem.run_ite, o2, spotL]
      simp
    have c1 : ∀ n, (Instr.checkKey em (n + 1) f1.type (.int .u32 (k.1 : Int))).run P w = .ok () w := fun n => by
      simp only [Instr.checkKey, Sem.run_bind, run_underlying hr1.1, q1, Result.andThen_ok]
      rfl
    have c2 : ∀ n, (Instr.checkKey em (n + 1) f2.type (.int .i64 (k.2 : Int))).run P w = .ok () w := fun n => by
      simp only [Instr.checkKey, Sem.run_bind, run_underlying hr2.1, q2, Result.andThen_ok]
      rfl
    rw [show (10000 : Nat) = 9998 + 1 + 1 from rfl]
    generalize 9998 = n
    unfold spotV
    rw [Instr.checkKey]
    simp only [Sem.run_bind, run_underlying hu, Result.andThen_ok]
    simp [hn1, hn2, p1, p2, c1 n, c2 n]
  · simp [Instr.keyThatStays, Instr.sameBits, spotV, spotL]
end Go.Proofs.Ythbcfamfaicneaa.E
