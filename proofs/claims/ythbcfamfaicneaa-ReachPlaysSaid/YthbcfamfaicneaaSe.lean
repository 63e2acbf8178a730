/- MY OWN LAYER: structs of plain fields compared. P is a variable. -/
import Derived.Test.YthbcfamfaicneaaSq
import Derived.Laws.StructEq
namespace Go.Proofs.Ythbcfamfaicneaa.E
open Go Go.RowKit
def eqC : TypeDesc → Value → Value → Option Bool
  | .bool, .bool a, .bool b => some (a == b)
  | .int _, .int k a, .int k' b => if k = k' then some (a == b) else none
  | .string, .string a, .string b => some (a == b)
  | _, _, _ => none
def eqFs (tab : List TR) (xs ys : List Value) : List Field → Option Bool
  | [] => some true
  | f :: fs => if f.name = "_" then none else (tab[f.type]?).bind fun r => if isAggD r.und then none else (xs[f.offset]?).bind fun x => (ys[f.offset]?).bind fun y => (eqC r.und x y).bind fun c => (eqFs tab xs ys fs).map fun c' => c && c'
theorem run_eqC {P : Program} {t : TypeId} {r : TR} (ht : TabOk P t r) {x y : Value} {c : Bool} (h : eqC r.und x y = some c) (d : Nat) (w : World) : (Op.equalIn (d + 1) t x y).run P w = .ok c w := by
  simp only [Op.equalIn, Sem.run_bind, ht.run_und, Result.andThen_ok]
  unfold eqC at h
  split at h
  · rename_i e1; injection h with h; subst h; rw [e1]; rfl
  · rename_i e1
    split at h
    · rename_i e2; injection h with h; subst h; subst e2; rw [e1]; simp
    · cases h
  · rename_i e1; injection h with h; subst h; rw [e1]; rfl
  · cases h
theorem run_eqFs {P : Program} {tab : List TR} (hT : TabsOk P tab) (xs ys : List Value) (d : Nat) (w : World) : ∀ (fs : List Field) (b : Bool), eqFs tab xs ys fs = some b → (Op.eqFields (d + 1) xs.toArray ys.toArray fs).run P w = .ok b w
  | [], b, h => by simp only [eqFs, Option.some.injEq] at h; subst h; rfl
  | f :: fs, b, h => by
    unfold eqFs at h
    split at h
    · cases h
    rename_i hn
    simp only [Option.bind_eq_some_iff] at h
    obtain ⟨r, hr, h⟩ := h
    split at h
    · cases h
    rename_i ha
    simp only [Option.bind_eq_some_iff, Option.map_eq_some_iff] at h
    obtain ⟨x, hx, y, hy, c, hc, c', hc', rfl⟩ := h
    have ih := run_eqFs hT xs ys d w fs c' hc'
    have hr := hT _ _ hr
    have hp : ∀ zs : List Value, ∀ z, zs[f.offset]? = some z → (part f.type zs.toArray f.offset).run P w = .ok z w := fun zs z hz => by
      simp only [part, Sem.run_bind, hr.run_agg, Result.andThen_ok, Bool.not_eq_true _ ▸ ha, Sem.run_ite, List.getElem?_toArray, hz]
      simp
    simp only [Op.eqFields, if_pos hn, Sem.run_bind, hp xs x hx, hp ys y hy, Result.andThen_ok, run_eqC hr hc d w, Sem.run_ite]
    cases c
    · simp
    · simp [ih]
section
variable {P : Program} {ρ : Env} {d : Nat} {ty : TypeId} {pos : String} {after : Array Edge} {Sw : World → Prop} {tab : List TR}
theorem fieldsOf_of {t : TypeId} {r : TR} {fs : List Field} (ht : TabOk P t r) (hq : r.und = .struct fs.toArray) : P.underlying t = some (.struct (P.fieldsOf t)) ∧ (P.fieldsOf t).toList = fs := by
  have h := ht.1
  rw [hq] at h
  unfold Program.fieldsOf
  rw [h]
  exact ⟨rfl, rfl⟩
theorem PV.eqSt {t t' : TypeId} {x y : Operand} {xs ys : List Value} {r : TR} {fs : List Field} {b : Bool} (hT : TabsOk P tab) (ea : ev ρ x = .agg xs.toArray) (eb : ev ρ y = .agg ys.toArray) (ht : tab[t]? = some r) (hq : r.und = .struct fs.toArray) (hm : P.eqGuardType P.depth t = false) (hs : P.stoodInHeld t = false) (h : eqFs tab xs ys fs = some b) :
    PV P ρ Sw ⟨some d, .binOp .eql t x y t', ty, pos, after, none⟩ (.bool b) := fun w _ => by
  have hf := fieldsOf_of (hT _ _ ht) hq
  have h1 := run_eqFs hT xs ys 9998 w fs b h
  rw [← hf.2, ← run_equalIn_agg w 9999 t xs.toArray ys.toArray hf.1 hs] at h1
  simp only [execOp, ea, eb, Sem.run_bind, run_eqGuard_agg w .eql t x y _ _ hm, Result.andThen_ok, run_eql_struct, h1]
  rfl
theorem PV.neSt {t t' : TypeId} {x y : Operand} {xs ys : List Value} {r : TR} {fs : List Field} {b : Bool} (hT : TabsOk P tab) (ea : ev ρ x = .agg xs.toArray) (eb : ev ρ y = .agg ys.toArray) (ht : tab[t]? = some r) (hq : r.und = .struct fs.toArray) (hm : P.eqGuardType P.depth t = false) (hs : P.stoodInHeld t = false) (h : eqFs tab xs ys fs = some b) :
    PV P ρ Sw ⟨some d, .binOp .neq t x y t', ty, pos, after, none⟩ (.bool (!b)) := fun w _ => by
  have hf := fieldsOf_of (hT _ _ ht) hq
  have h1 := run_eqFs hT xs ys 9998 w fs b h
  rw [← hf.2, ← run_equalIn_agg w 9999 t xs.toArray ys.toArray hf.1 hs] at h1
  simp only [execOp, ea, eb, Sem.run_bind, run_eqGuard_agg w .neq t x y _ _ hm, Result.andThen_ok, run_neq_struct, h1]
  rfl
end
end Go.Proofs.Ythbcfamfaicneaa.E
