/- MY OWN LAYER, SIXTH PART: regions that draw their order and act. P is a variable. -/
import Derived.Test.YthbcfamfaicneaaSq
import Derived.OrdersHeld
namespace Go.Proofs.Ythbcfamfaicneaa.E
open Go Go.RowKit

/-- THE JUDGEMENT on a region whatever order is drawn: 'listed': what has been carried out; every world met on the way bears Γ₀. -/
def TA (cx : Cx) (ops : Array Oper) (Γ₀ : List HP) (fuel : Nat) (listed : Array Bool) (k : List Item) (ρ : Env) (ds : List Deferred) (Γ : List HP) : Prop :=
  ∀ a w, cx.md = none → Rp cx.n ρ ds a → Sat cx.E Γ w → wpAnyH cx.P .any ops (Qk cx (WP cx k)) (Sat cx.E Γ₀) fuel listed a w
section
variable {cx : Cx} {ops : Array Oper} {Γ₀ : List HP} {fuel : Nat} {listed : Array Bool} {k : List Item} {ρ : Env} {ds : List Deferred} {Γ : List HP}
theorem TK.draw {id : Nat} {l : List Oper} (Γ₀ : List HP) (hm : cx.P.follows .mixedOrders = true) (hmd : cx.md = none) (h : TA cx l.toArray Γ₀ l.length (Array.replicate l.length false) k ρ ds Γ) : TK cx (.code (.region id l.toArray true) :: k) ρ ds Γ :=
  fun a w hr hs => WP.code (Cx.rd_of hmd) (wp_region_held (S := Sat cx.E Γ₀) hm (by simpa using h a { w with drawn := w.drawn + 1 } hmd hr hs.drew))
/-- An operation that yields its value in every such world is taken now. -/
theorem TA.take (i : Nat) {d : Nat} {op : Op} {ty : TypeId} {pos : String} {after : Array Edge} {v : Value} (hi : ops[i]? = some ⟨some d, op, ty, pos, after, none⟩) (hd : Nat.blt d cx.n = true) (hS : ∀ m, all Γ m → ∃ m', Mem.sub m' m ∧ all Γ₀ m')
    (hv : PV cx.P ρ (Sat cx.E Γ₀) ⟨some d, op, ty, pos, after, none⟩ v)
    (hs : Region.noSelect ops = true) (hf : Region.free .any ops listed i = true) (hr : (Region.ready .any ops listed).contains i = true)
    (h : TA cx ops Γ₀ fuel (listed.setIfInBounds i true) k ((d, v) :: ρ) ds Γ) : TA cx ops Γ₀ (fuel + 1) listed k ρ ds Γ := by
  intro a w hmd hrp hsat
  refine wpAnyH_take (v := v) hi hs hf hr (fun _ _ _ hq => Qk.put hmd hq) (.inl ⟨rfl, fun w' hw' => ?_⟩) (hsat.weaken hS) (h _ _ hmd (hrp.put d v hd) hsat)
  rw [hrp.ev]; exact hv w' hw'
/-- What is left behind an operation that is taken alone. -/
def KA (cx : Cx) (ops : Array Oper) (Γ₀ : List HP) (fuel : Nat) (listed : Array Bool) (k : List Item) : Act → World → Prop :=
  fun a w => Sat cx.E Γ₀ w ∧ (cx.md = none → wpAnyH cx.P .any ops (Qk cx (WP cx k)) (Sat cx.E Γ₀) fuel listed a w)
theorem wpOp_of_one {i : Nat} {o : Oper} {K K' : Act → World → Prop} (hi : ops[i]? = some o) {a : Act} {w : World} (hK : ∀ a w, K a w → K' a w) (h1 : wpList cx.P ops (Qk cx K) [o] a w) : wpOp cx.P ops (Qk cx (WP cx k)) i K' a w := by
  refine wpOp_mono hK ?_
  unfold wpList at h1
  unfold wpOp
  simp only [hi]
  split
  · rename_i hw
    rw [if_pos hw] at h1
    rcases h1 with h1 | ⟨_, a', w', h2⟩
    · refine .inl ?_
      unfold Oper.wp at h1 ⊢
      generalize (execOp a.eval o).run cx.P w = r at h1 ⊢
      cases r with
      | ok n w' => cases n <;> simp only [Oper.upon] at h1 ⊢ <;> exact h1
      | halt x w' => cases x <;> simp only [Oper.upon] at h1 ⊢; exact h1
    · exact h2.elim
  · rename_i hw
    rw [if_neg hw] at h1
    exact h1
theorem wpL_plain {rest : List Oper} {Q : Exit → Act → World → Prop} {a : Act} {w : World} (hmd : cx.md = none) (h : wpL cx ops Q rest a w) : wpList cx.P ops Q rest a w := by
  unfold wpL at h
  simpa only [hmd] using h
/-- One operation alone may come up. -/
theorem TA.one (i : Nat) {o : Oper} (hr : Region.ready .any ops listed = [i]) (hi : ops[i]? = some o)
    (h : TL cx ops (KA cx ops Γ₀ fuel (listed.setIfInBounds i true) k) [o] ρ ds Γ) : TA cx ops Γ₀ (fuel + 1) listed k ρ ds Γ := by
  intro a w hmd hrp hsat
  refine wpAnyH_all hr (by simp) ?_
  intro j hj
  obtain rfl : j = i := by simpa using hj
  exact wpOp_of_one hi (fun a w hK => ⟨hK.1, hK.2 hmd⟩) (wpL_plain hmd (h a w hrp hsat))
theorem TA.two (i j : Nat) {o o' : Oper} (hr : Region.ready .any ops listed = [i, j]) (hi : ops[i]? = some o) (hj : ops[j]? = some o')
    (h : TL cx ops (KA cx ops Γ₀ fuel (listed.setIfInBounds i true) k) [o] ρ ds Γ)
    (h' : TL cx ops (KA cx ops Γ₀ fuel (listed.setIfInBounds j true) k) [o'] ρ ds Γ) : TA cx ops Γ₀ (fuel + 1) listed k ρ ds Γ := by
  intro a w hmd hrp hsat
  refine wpAnyH_all hr (by simp) ?_
  intro l hl
  simp only [List.mem_cons, List.not_mem_nil, or_false] at hl
  rcases hl with rfl | rfl
  · exact wpOp_of_one hi (fun a w hK => ⟨hK.1, hK.2 hmd⟩) (wpL_plain hmd (h a w hrp hsat))
  · exact wpOp_of_one hj (fun a w hK => ⟨hK.1, hK.2 hmd⟩) (wpL_plain hmd (h' a w hrp hsat))
theorem TL.any (hS : ∀ m, all Γ m → ∃ m', Mem.sub m' m ∧ all Γ₀ m') (h : TA cx ops Γ₀ fuel listed k ρ ds Γ) : TL cx ops (KA cx ops Γ₀ fuel listed k) [] ρ ds Γ :=
  fun a w hr hs => wpL_nil ⟨hs.weaken hS, fun hmd => h a w hmd hr hs⟩
theorem TA.done (hr : Region.ready .any ops listed = []) (h : TK cx k ρ ds Γ) : TA cx ops Γ₀ fuel listed k ρ ds Γ :=
  fun a w _ hrp hs => wpAnyH_done hr (h a w hrp hs) fuel
theorem TA.know {t : Nat} {v : Value} (e : lk ρ t = v) (h : TA cx ops Γ₀ fuel listed k ((t, v) :: ρ) ds Γ) : TA cx ops Γ₀ fuel listed k ρ ds Γ := fun a w hmd hr hs => h a w hmd (hr.know e) hs
end
end Go.Proofs.Ythbcfamfaicneaa.E
