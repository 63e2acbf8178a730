/- MY OWN LAYER: append onto a slice that is only read and has no room; x[:n:n]; existential assertions. P is a variable. -/
import Derived.Test.YthbcfamfaicneaaSb
namespace Go.Proofs.Ythbcfamfaicneaa.E
open Go Go.RowKit
theorem Fn.ex {α : Type} {P : Program} {f : FuncId} {args : List Value} {Γ : List HP} {H : α → HP} {R : Ending → List HP → Prop} (h : ∀ x, Fn P f args (H x :: Γ) R) : Fn P f args ((fun m => ∃ x, H x m) :: Γ) R := by
  intro E w hE
  obtain ⟨h1, h2, m1, ⟨a1, b1, hd, rfl, ⟨y, hy⟩, hb⟩, h3⟩ := hE
  exact h y E w ⟨h1, h2, _, ⟨a1, b1, hd, rfl, hy, hb⟩, h3⟩
theorem TK.ex {α : Type} {cx : Cx} {k : List Item} {ρ : Env} {ds : List Deferred} {Γ : List HP} {H : α → HP} (h : ∀ x, TK cx k ρ ds (H x :: Γ)) : TK cx k ρ ds ((fun m => ∃ x, H x m) :: Γ) := by
  intro a w hr hE
  obtain ⟨h1, h2, m1, ⟨a1, b1, hd, rfl, ⟨y, hy⟩, hb⟩, h3⟩ := hE
  exact h y a w hr ⟨h1, h2, _, ⟨a1, b1, hd, rfl, hy, hb⟩, h3⟩
theorem has_sublist {Γ Δ : List HP} {p : Mem → Prop} (hp : Up p) (hs : Γ.Sublist Δ) (h : has Γ p) : has Δ p := fun m hm => by
  obtain ⟨m', h1, h2⟩ := all_sub hs hm
  exact hp m' m h1 (h m' h2)
section
variable {cx : Cx} {ops : Array Oper} {k : Act → World → Prop} {rest : List Oper} {ρ : Env} {ds : List Deferred} {Γ : List HP} {d : Nat} {ty : TypeId} {pos : String} {after : Array Edge}
/-- append onto x[:n:n], with something behind. -/
theorem TL.appendF {t e : TypeId} {x y : Operand} {A B : Option Addr} {n m c z s : Nat} {cs news : List Value} {r r' : TR} (hd : Nat.blt d cx.n = true) (ht : TabOk cx.P t r) (hq : r.und = .slice e) (ht' : TabOk cx.P e r') (hz0 : r'.size = z) (hsz : Nat.blt 0 r'.size = true)
    (hzs : (r'.zero.cells.size == r'.size) = true) (ea : ev ρ x = .slice B n n) (hx : has Γ (srcAt z B n cs)) (eb : ev ρ y = .slice A m c) (hs : has Γ (srcAt z A m news)) (h1 : ∀ u ∈ news, u.oneCell' = true) (hm0 : 0 < m) (hb : (n + m) * r'.bytes ≤ 140737488355328) (h63 : n + m ≤ maxLen) (hnm : n + m = s)
    (h : ∀ A' c', s ≤ c' → TL cx ops k rest ((d, .slice A' s c') :: ρ) ds (own e z (.slice A' s c') s (cs ++ news) :: Γ)) : TL cx ops k (⟨some d, .call ⟨.builtin .append, #[x, y], #[t, t]⟩, ty, pos, after, none⟩ :: rest) ρ ds Γ := by
  subst hz0; subst hnm
  refine .act (X := Option Addr × Nat) (φ := fun p => n + m ≤ p.2) (v := fun p => .slice p.1 (n + m) p.2) (Δ := fun p => own e r'.size (.slice p.1 (n + m) p.2) (n + m) (cs ++ news) :: Γ) hd (fun w hS => ?_) (fun p hp => h p.1 p.2 hp)
  have hu : cx.P.underlying t = some (.slice e) := by rw [← hq]; exact ht.1
  obtain ⟨_, inf, hinf, h2, h3, hz⟩ := id ht'
  have hzs' : r'.zero.cells.size = r'.size := by simpa using hzs
  have hsrc := src_of hS (tx := t) (e' := e) (c := c) hu (by simpa using hsz) hs h1
  have hnl := hsrc.newsLen
  have h63' : ((n + m : Nat) : Int) ≤ 9223372036854775807 := by unfold maxLen at h63; omega
  have hold : (Builtin.firstCells inf.size n (.slice B n n)).run cx.P w.drew = .ok cs.toArray w.drew ∧ cs.length = n * r'.size := by
    obtain ⟨m0, hm0', hw0⟩ := hS.mem
    obtain ⟨hl, hcase⟩ := hx m0 hm0'
    refine ⟨?_, hl⟩
    rcases hcase with rfl | ⟨b, o, rfl, hat⟩
    · have hn0 : n = 0 := by
        have : n * r'.size = 0 := by simpa using hl.symm
        rcases Nat.mul_eq_zero.1 this with h | h
        · exact h
        · have : 0 < r'.size := by simpa using hsz
          omega
      subst hn0
      cases B with
      | none => exact run_firstCells_none w.drew inf.size 0 0 0
      | some a => exact run_firstCells_some w.drew inf.size 0 a 0 0 [] (by simp) (by simp)
    · refine run_firstCells_some w.drew inf.size n _ n n cs (by rw [h2]; exact hl) fun j u hj => ?_
      rw [add_at, World.cell?_drew]
      exact hS.cell (has_imp hx fun m1 hm1 => by
        rcases hm1.2 with h | ⟨b', o', e', h⟩
        · rw [h] at hj; simp at hj
        · injection e' with e'; injection e' with e1 e2 _
          subst e1; subst e2
          exact h j u hj)
  have hcl := hold.2
  have hrun := run_append_grow_src (P := cx.P) w t t ty e inf r'.zero hu hinf hz B n n cs hold.1 (.slice A m c) m news (by rw [h2]; exact hsrc) (by omega) h63' (growslice_fits (by omega) (by rw [h3]; exact hb))
  refine ⟨(some ⟨w.heap.size, 0, none⟩, grownCap w (n + m) n e), _, grownCap_ge w (n + m) n e, ?_, by
    simp only [execOp, resolve, invoke, builtin, List.map_toArray, List.map_cons, List.map_nil, ea, eb, Sem.run_bind, Sem.run_pure, Result.andThen_ok]
    rw [hrun]
    rfl⟩
  refine (hS.drew.alloc _).imp fun m' hm' => ?_
  refine sep_mono hm' (fun q hq => ?_) (fun _ => id)
  refine ⟨by simp [hcl, hnl, Nat.add_mul], .inr ⟨_, _, (cs ++ news) ++ (Builtin.zeroCells r'.zero.cells (grownCap w (n + m) n e - (n + m))).toList, rfl, grownCap_ge w (n + m) n e, grownCap_le_maxLen w _ _ e h63, ?_, ?_, ?_⟩⟩
  · rw [List.length_append, List.length_append, size_zeroCells', hcl, hnl, hzs', ← Nat.add_mul, ← Nat.add_mul]
    congr 1
    have := grownCap_ge w (n + m) n e
    omega
  · have : (n + m) * r'.size = (cs ++ news).length := by simp [hcl, hnl, Nat.add_mul]
    rw [this, List.take_left']
    rfl
  · have e1 : ((cs ++ news) ++ (Builtin.zeroCells r'.zero.cells (grownCap w (n + m) n e - (n + m))).toList).toArray = (cs ++ news).toArray ++ Builtin.zeroCells r'.zero.cells (grownCap w (n + m) n e - (n + m)) := by simp
    show pt _ _ q
    rw [e1]
    exact hq
/-- x[:n:n]. -/
theorem PV.sliceC {P : Program} {S : World → Prop} {t e : TypeId} {x y y' : Operand} {A : Option Addr} {n c : Nat} {q q' : IntKind} {r r' : TR} (ea : ev ρ x = .slice A n c) (ht : TabOk P t r) (hq : r.und = .slice e) (ht' : TabOk P e r') (e1 : ev ρ y = .int q (n : Int)) (e2 : ev ρ y' = .int q' (n : Int)) (hc : n ≤ c) :
    PV P ρ S ⟨some d, .slice t x none (some y) (some y'), ty, pos, after, none⟩ (.slice A n n) := fun w _ => by
  have h3 : (0 : Int) ≤ (n : Int) := by omega
  cases A <;> simp [execOp, Instr.sliceAt, Instr.slice, Instr.sliceBounds, Instr.sliceBound, asIntOf, ea, e1, e2, ht.run_und, hq, ht'.run_size, h3, hc]
  rename_i a
  intro _
  cases a
  simp [Addr.add]
end
end Go.Proofs.Ythbcfamfaicneaa.E
