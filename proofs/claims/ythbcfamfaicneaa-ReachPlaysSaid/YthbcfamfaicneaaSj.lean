/- MY OWN LAYER: regions that draw, in two phases: up to operation j0 (a store) worlds bear Γ₁, behind it Γ₂: so a load that j0 waits for may be taken first. P is a variable. -/
import Derived.Test.YthbcfamfaicneaaSi
import Derived.OrdersHeld
namespace Go.Proofs.Ythbcfamfaicneaa.E
open Go Go.RowKit
/-- Up to j0 every world met is of S₁, behind it of S₂. -/
def wpAnyG (P : Program) (ops : Array Oper) (Q : Exit → Act → World → Prop) (j0 : Nat) (S₁ S₂ : World → Prop) : Nat → Array Bool → Act → World → Prop
  | 0, listed, a, w => Region.ready .any ops listed = [] ∧ Q .normal a w
  | fuel + 1, listed, a, w => (Region.ready .any ops listed = [] → Q .normal a w) ∧
    ∀ i ∈ Region.ready .any ops listed, wpOp P ops Q i (fun a' w' => (i = j0 → S₂ w' ∧ wpAnyH P .any ops Q S₂ fuel (listed.setIfInBounds i true) a' w') ∧ (i ≠ j0 → S₁ w' ∧ wpAnyG P ops Q j0 S₁ S₂ fuel (listed.setIfInBounds i true) a' w')) a w
section
variable {P : Program} {ops : Array Oper} {Q : Exit → Act → World → Prop} {j0 : Nat} {S₁ S₂ : World → Prop}
theorem wpAny_of_G : ∀ (fuel : Nat) (listed : Array Bool) (a : Act) (w : World), wpAnyG P ops Q j0 S₁ S₂ fuel listed a w → wpAny P .any ops Q fuel listed a w
  | 0, _, _, _, h => h
  | fuel + 1, _, _, _, h => ⟨h.1, fun i hi => wpOp_mono (fun a' w' h' => by
      by_cases hij : i = j0
      · exact wpAny_of_held fuel _ a' w' (h'.1 hij).2
      · exact wpAny_of_G fuel _ a' w' (h'.2 hij).2) (h.2 i hi)⟩
theorem wpAnyG_first {i : Nat} {oi : Oper} {v : Value} (hi : ops[i]? = some oi) (hsel : ∀ (j : Nat) (o : Oper) cs b, ops[j]? = some o → o.op ≠ .select cs b) (hij0 : i ≠ j0)
    (hQ : ∀ c a w, Q (.panic c) (a.put oi.dst v) w → Q (.panic c) a w) :
    ∀ (fuel : Nat) (listed : Array Bool) (a : Act) (w : World),
      (∀ j oj, ops[j]? = some oj → j ≠ i → listed.getD j true = false → (∀ e ∈ oj.after, Region.binds .any e = true → e.on ≠ i) → oi.apart ops oj = true) →
      i ∈ Region.ready .any ops listed → YieldsIf P ops S₁ oi v a → ((∃ o, ops[j0]? = some o ∧ ∃ e ∈ o.after, Region.binds .any e = true ∧ e.on = i) ∨ YieldsIf P ops S₂ oi v a) → S₁ w →
      wpAnyG P ops Q j0 S₁ S₂ fuel (listed.setIfInBounds i true) (a.put oi.dst v) w → wpAnyG P ops Q j0 S₁ S₂ (fuel + 1) listed a w := by
  intro fuel
  induction fuel with
  | zero =>
    intro listed a w _ hr hy _ hS H
    refine ⟨fun h => (by rw [h] at hr; cases hr), fun j hj => ?_⟩
    by_cases hji : j = i
    · subst hji; exact hy.wpOp hi hS ⟨fun h => absurd h hij0, fun _ => ⟨hS, H⟩⟩
    · have := ready_mono hj hji
      rw [H.1] at this
      cases this
  | succ fuel ih =>
    intro listed a w hfree hr hy hy2 hS H
    refine ⟨fun h => (by rw [h] at hr; cases hr), fun j hj => ?_⟩
    by_cases hji : j = i
    · subst hji; exact hy.wpOp hi hS ⟨fun h => absurd h hij0, fun _ => ⟨hS, H⟩⟩
    · have h1 := H.2 j (ready_mono hj hji)
      obtain ⟨hjun, oj, hoj, hall⟩ := mem_ready.1 hj
      have hnot : ∀ e ∈ oj.after, Region.binds .any e = true → e.on ≠ i := fun e he hb heq => by
        have h1 := hall e he hb
        have h0 := (mem_ready.1 hr).1
        rw [heq] at h1
        rcases Nat.lt_or_ge i listed.size with h' | h'
        · simp [h'] at h0 h1; rw [h0] at h1; cases h1
        · simp [Array.getElem?_eq_none h'] at h1
      have hfree' : ∀ k ok, ops[k]? = some ok → k ≠ i → (listed.setIfInBounds j true).getD k true = false →
          (∀ e ∈ ok.after, Region.binds .any e = true → e.on ≠ i) → oi.apart ops ok = true := fun k ok hk hki hun hno => by
        refine hfree k ok hk hki ?_ hno
        by_cases hjk : j = k
        · subst hjk; exact hjun
        · rw [getD_set_ne true hjk] at hun; exact hun
      by_cases hjj : j = j0
      · have hyS : YieldsIf P ops S₂ oi v a := by
          rcases hy2 with ⟨o, ho, e, he, hb, hei⟩ | hy2
          · rw [← hjj, hoj] at ho
            injection ho with ho
            subst ho
            exact absurd hei (hnot e he hb)
          · exact hy2
        have h2 := wpOp_putIf hoj (hfree j oj hoj hji hjun hnot) (fun cs b => hsel i oi cs b hi) (fun cs b => hsel j oj cs b hoj) hQ hyS h1
        refine wpOp_mono (fun a' w' h3 => ⟨fun _ => ?_, fun h => absurd hjj h⟩) h2
        obtain ⟨h4, h5⟩ := h3.2.1 hjj
        refine ⟨h4, wpAnyH_first hi hsel hQ fuel (listed.setIfInBounds j true) a' w' hfree' (ready_mono hr (Ne.symm hji)) h3.1 h4 ?_⟩
        rw [Array.setIfInBounds_comm _ _ hji]
        exact h5
      · have both : ∀ {a : Act}, (YieldsIf P ops S₁ oi v a ∧ ((∃ o, ops[j0]? = some o ∧ ∃ e ∈ o.after, Region.binds .any e = true ∧ e.on = i) ∨ YieldsIf P ops S₂ oi v a)) ↔ YieldsIf P ops (fun w => S₁ w ∨ ((¬ ∃ o, ops[j0]? = some o ∧ ∃ e ∈ o.after, Region.binds .any e = true ∧ e.on = i) ∧ S₂ w)) oi v a := by
          intro a
          constructor
          · rintro ⟨y1, y2⟩
            rcases y1 with ⟨hw, y1⟩ | h
            · refine .inl ⟨hw, fun w hw' => ?_⟩
              rcases hw' with h | ⟨hn, h⟩
              · exact y1 w h
              · rcases y2 with y2 | ⟨_, y2⟩ | ⟨y2, _⟩
                · exact absurd y2 hn
                · exact y2 w h
                · rw [hw] at y2; cases y2
            · exact .inr h
          · rintro (⟨hw, y⟩ | h)
            · refine ⟨.inl ⟨hw, fun w h => y w (.inl h)⟩, ?_⟩
              by_cases hn : ∃ o, ops[j0]? = some o ∧ ∃ e ∈ o.after, Region.binds .any e = true ∧ e.on = i
              · exact .inl hn
              · exact .inr (.inl ⟨hw, fun w h => y w (.inr ⟨hn, h⟩)⟩)
            · exact ⟨.inr h, .inr (.inr h)⟩
        have h2 := wpOp_putIf hoj (hfree j oj hoj hji hjun hnot) (fun cs b => hsel i oi cs b hi) (fun cs b => hsel j oj cs b hoj) hQ (both.1 ⟨hy, hy2⟩) h1
        refine wpOp_mono (fun a' w' h3 => ⟨fun h => absurd h hjj, fun _ => ?_⟩) h2
        obtain ⟨y1, y2⟩ := both.2 h3.1
        obtain ⟨h4, h5⟩ := h3.2.2 hjj
        refine ⟨h4, ih (listed.setIfInBounds j true) a' w' hfree' (ready_mono hr (Ne.symm hji)) y1 y2 h4 ?_⟩
        rw [Array.setIfInBounds_comm _ _ hji]
        exact h5
end
/-- THE JUDGEMENT in two phases. -/
def TB (cx : Cx) (ops : Array Oper) (j0 : Nat) (Γ₁ Γ₂ : List HP) (fuel : Nat) (listed : Array Bool) (k : List Item) (ρ : Env) (ds : List Deferred) (Γ : List HP) : Prop :=
  ∀ a w, cx.md = none → Rp cx.n ρ ds a → Sat cx.E Γ w → wpAnyG cx.P ops (Qk cx (WP cx k)) j0 (Sat cx.E Γ₁) (Sat cx.E Γ₂) fuel listed a w
def KB (cx : Cx) (ops : Array Oper) (j0 : Nat) (Γ₁ Γ₂ : List HP) (fuel : Nat) (listed : Array Bool) (k : List Item) : Act → World → Prop :=
  fun a w => Sat cx.E Γ₁ w ∧ (cx.md = none → wpAnyG cx.P ops (Qk cx (WP cx k)) j0 (Sat cx.E Γ₁) (Sat cx.E Γ₂) fuel listed a w)
/-- j0 waits for i. -/
def waitB (ops : Array Oper) (j0 i : Nat) : Bool := match ops[j0]? with | none => false | some o => o.after.toList.any fun e => Region.binds .any e && Nat.beq e.on i
section
variable {cx : Cx} {ops : Array Oper} {j0 : Nat} {Γ₁ Γ₂ : List HP} {fuel : Nat} {listed : Array Bool} {k : List Item} {ρ : Env} {ds : List Deferred} {Γ : List HP}
theorem waitB_spec {i : Nat} (h : waitB ops j0 i = true) : ∃ o, ops[j0]? = some o ∧ ∃ e ∈ o.after, Region.binds .any e = true ∧ e.on = i := by
  unfold waitB at h
  cases ho : ops[j0]? with
  | none => rw [ho] at h; cases h
  | some o =>
    rw [ho] at h
    obtain ⟨e, he, h2⟩ := List.any_eq_true.1 h
    simp only [Bool.and_eq_true, Nat.beq_eq] at h2
    exact ⟨o, rfl, e, by simpa using he, h2⟩
theorem TK.drawB {id : Nat} {l : List Oper} (hm : cx.P.follows .mixedOrders = true) (hmd : cx.md = none) (j0 : Nat) (Γ₁ Γ₂ : List HP) (h : TB cx l.toArray j0 Γ₁ Γ₂ l.length (Array.replicate l.length false) k ρ ds Γ) : TK cx (.code (.region id l.toArray true) :: k) ρ ds Γ :=
  fun a w hr hs => WP.code (Cx.rd_of hmd) (wp_region_any hm (wpAny_of_G _ _ _ _ (by simpa using h a { w with drawn := w.drawn + 1 } hmd hr hs.drew)))
def takeG (ops : Array Oper) (listed : Array Bool) (j0 i : Nat) : Bool := takeB ops listed i && !(Nat.beq i j0)
theorem TB.core {i : Nat} {o : Oper} {v : Value} {ρ' : Env} (hi : ops[i]? = some o) (hb : takeG ops listed j0 i = true) (hS : Ent Γ Γ₁)
    (hy : ∀ a, Rp cx.n ρ ds a → YieldsIf cx.P ops (Sat cx.E Γ₁) o v a ∧ (waitB ops j0 i = true ∨ YieldsIf cx.P ops (Sat cx.E Γ₂) o v a)) (hp : ∀ a, Rp cx.n ρ ds a → Rp cx.n ρ' ds (a.put o.dst v))
    (h : TB cx ops j0 Γ₁ Γ₂ fuel (listed.setIfInBounds i true) k ρ' ds Γ) : TB cx ops j0 Γ₁ Γ₂ (fuel + 1) listed k ρ ds Γ := by
  simp only [takeG, takeB, Bool.and_eq_true, Bool.not_eq_true'] at hb
  obtain ⟨⟨⟨hb1, hb2⟩, hb3⟩, hb4⟩ := hb
  intro a w hmd hrp hsat
  obtain ⟨y1, y2⟩ := hy a hrp
  exact wpAnyG_first hi (Region.noSelect_spec hb1) (fun e => by rw [e] at hb4; simp at hb4) (fun _ _ _ hq => Qk.put hmd hq) fuel listed a w (Region.free_spec hi hb2) (by simpa using hb3) y1 (y2.imp waitB_spec id) (hsat.weaken hS) (h _ _ hmd (hp a hrp) hsat)
theorem TB.takeA {i : Nat} (_ : At i) {d : Nat} {op : Op} {ty : TypeId} {pos : String} {after : Array Edge} {v : Value} (hi : ops[i]? = some ⟨some d, op, ty, pos, after, none⟩) (hd : Nat.blt d cx.n = true) (hb : takeG ops listed j0 i = true) (hw : waitB ops j0 i = true) (hS : Ent Γ Γ₁)
    (hv : PV cx.P ρ (Sat cx.E Γ₁) ⟨some d, op, ty, pos, after, none⟩ v) (h : TB cx ops j0 Γ₁ Γ₂ fuel (listed.setIfInBounds i true) k ((d, v) :: ρ) ds Γ) : TB cx ops j0 Γ₁ Γ₂ (fuel + 1) listed k ρ ds Γ :=
  .core hi hb hS (fun a hrp => ⟨.inl ⟨rfl, fun w hw => by rw [hrp.ev]; exact hv w hw⟩, .inl hw⟩) (fun a hrp => hrp.put d v hd) h
theorem TB.takeP {i : Nat} (_ : At i) {d : Nat} {op : Op} {ty : TypeId} {pos : String} {after : Array Edge} {v : Value} (hi : ops[i]? = some ⟨some d, op, ty, pos, after, none⟩) (hd : Nat.blt d cx.n = true) (hb : takeG ops listed j0 i = true) (hS : Ent Γ Γ₁)
    (hv : PV cx.P ρ (fun _ => True) ⟨some d, op, ty, pos, after, none⟩ v) (h : TB cx ops j0 Γ₁ Γ₂ fuel (listed.setIfInBounds i true) k ((d, v) :: ρ) ds Γ) : TB cx ops j0 Γ₁ Γ₂ (fuel + 1) listed k ρ ds Γ :=
  .core hi hb hS (fun a hrp => ⟨.inl ⟨rfl, fun w _ => by rw [hrp.ev]; exact hv w trivial⟩, .inr (.inl ⟨rfl, fun w _ => by rw [hrp.ev]; exact hv w trivial⟩)⟩) (fun a hrp => hrp.put d v hd) h
theorem TB.know {t : Nat} {v : Value} (e : lk ρ t = v) (h : TB cx ops j0 Γ₁ Γ₂ fuel listed k ((t, v) :: ρ) ds Γ) : TB cx ops j0 Γ₁ Γ₂ fuel listed k ρ ds Γ := fun a w hmd hr hs => h a w hmd (hr.know e) hs
theorem TB.isT (t : Nat) {c : Bool} (e : lk ρ t = .bool c) (hc : c = true) (h : TB cx ops j0 Γ₁ Γ₂ fuel listed k ((t, .bool true) :: ρ) ds Γ) : TB cx ops j0 Γ₁ Γ₂ fuel listed k ρ ds Γ := .know (hc ▸ e) h
theorem TB.isF (t : Nat) {c : Bool} (e : lk ρ t = .bool c) (hc : c = false) (h : TB cx ops j0 Γ₁ Γ₂ fuel listed k ((t, .bool false) :: ρ) ds Γ) : TB cx ops j0 Γ₁ Γ₂ fuel listed k ρ ds Γ := .know (hc ▸ e) h
theorem TB.mem (h : ∀ m, all Γ m → TB cx ops j0 Γ₁ Γ₂ fuel listed k ρ ds Γ) : TB cx ops j0 Γ₁ Γ₂ fuel listed k ρ ds Γ := by
  intro a w hmd hr hs
  obtain ⟨m, hm, _⟩ := hs.mem
  exact h m hm a w hmd hr hs
theorem wpG_ready {i : Nat} {o : Oper} (hij : i ≠ j0) (hi : ops[i]? = some o) (hmd : cx.md = none) {a : Act} {w : World} (h : wpL cx ops (Qk cx (KB cx ops j0 Γ₁ Γ₂ fuel (listed.setIfInBounds i true) k)) [o] a w) :
    wpOp cx.P ops (Qk cx (WP cx k)) i (fun a' w' => (i = j0 → Sat cx.E Γ₂ w' ∧ wpAnyH cx.P .any ops (Qk cx (WP cx k)) (Sat cx.E Γ₂) fuel (listed.setIfInBounds i true) a' w') ∧ (i ≠ j0 → Sat cx.E Γ₁ w' ∧ wpAnyG cx.P ops (Qk cx (WP cx k)) j0 (Sat cx.E Γ₁) (Sat cx.E Γ₂) fuel (listed.setIfInBounds i true) a' w')) a w :=
  wpOp_of_one hi (fun _ _ hK => ⟨fun h => absurd h hij, fun _ => ⟨hK.1, hK.2 hmd⟩⟩) (wpL_plain hmd h)
/-- One operation alone may come up; it is not j0. -/
theorem TB.one (i : Nat) {o : Oper} (hr : Region.ready .any ops listed = [i]) (hij : Nat.beq i j0 = false) (hi : ops[i]? = some o)
    (h : TL cx ops (KB cx ops j0 Γ₁ Γ₂ fuel (listed.setIfInBounds i true) k) [o] ρ ds Γ) : TB cx ops j0 Γ₁ Γ₂ (fuel + 1) listed k ρ ds Γ := by
  intro a w hmd hrp hsat
  refine ⟨fun h0 => (by rw [hr] at h0; cases h0), fun j hj => ?_⟩
  rw [hr] at hj
  obtain rfl : j = i := by simpa using hj
  exact wpG_ready (fun e => by rw [e] at hij; simp at hij) hi hmd (h a w hrp hsat)
/-- Two may come up, one as well as the other: behind both the walk goes on once. -/
theorem TB.twoJ (i j : Nat) (J : Env → List HP → Prop) {o o' : Oper} (hr : Region.ready .any ops listed = [i, j]) (hi : ops[i]? = some o) (hj : ops[j]? = some o') (hij : (i == j) = false) (hi0 : Nat.beq i j0 = false) (hj0 : Nat.beq j j0 = false)
    (hA : (∀ ρ' Γ', J ρ' Γ' → TB cx ops j0 Γ₁ Γ₂ fuel ((listed.setIfInBounds i true).setIfInBounds j true) k ρ' ds Γ') → TL cx ops (KB cx ops j0 Γ₁ Γ₂ (fuel + 1) (listed.setIfInBounds i true) k) [o] ρ ds Γ)
    (hB : (∀ ρ' Γ', J ρ' Γ' → TB cx ops j0 Γ₁ Γ₂ fuel ((listed.setIfInBounds j true).setIfInBounds i true) k ρ' ds Γ') → TL cx ops (KB cx ops j0 Γ₁ Γ₂ (fuel + 1) (listed.setIfInBounds j true) k) [o'] ρ ds Γ)
    (tail : ∀ ρ' Γ', J ρ' Γ' → TB cx ops j0 Γ₁ Γ₂ fuel ((listed.setIfInBounds i true).setIfInBounds j true) k ρ' ds Γ') : TB cx ops j0 Γ₁ Γ₂ (fuel + 2) listed k ρ ds Γ := by
  have hne : i ≠ j := by simpa using hij
  have hc : (listed.setIfInBounds j true).setIfInBounds i true = (listed.setIfInBounds i true).setIfInBounds j true := by
    apply Array.ext'
    simp only [Array.toList_setIfInBounds]
    exact (List.set_comm true true (Ne.symm hne)).symm ▸ rfl
  have hA' := hA tail
  have hB' := hB fun ρ' Γ' h => by rw [hc]; exact tail ρ' Γ' h
  intro a w hmd hrp hsat
  refine ⟨fun h0 => (by rw [hr] at h0; cases h0), fun l hl => ?_⟩
  rw [hr] at hl
  simp only [List.mem_cons, List.not_mem_nil, or_false] at hl
  rcases hl with rfl | rfl
  · exact wpG_ready (fun e => by rw [e] at hi0; simp at hi0) hi hmd (hA' a w hrp hsat)
  · exact wpG_ready (fun e => by rw [e] at hj0; simp at hj0) hj hmd (hB' a w hrp hsat)
/-- Two may come up: two walks. -/
theorem TB.two (i j : Nat) {o o' : Oper} (hr : Region.ready .any ops listed = [i, j]) (hi : ops[i]? = some o) (hj : ops[j]? = some o') (hi0 : Nat.beq i j0 = false) (hj0 : Nat.beq j j0 = false)
    (hA : TL cx ops (KB cx ops j0 Γ₁ Γ₂ fuel (listed.setIfInBounds i true) k) [o] ρ ds Γ)
    (hB : TL cx ops (KB cx ops j0 Γ₁ Γ₂ fuel (listed.setIfInBounds j true) k) [o'] ρ ds Γ) : TB cx ops j0 Γ₁ Γ₂ (fuel + 1) listed k ρ ds Γ := by
  intro a w hmd hrp hsat
  refine ⟨fun h0 => (by rw [hr] at h0; cases h0), fun l hl => ?_⟩
  rw [hr] at hl
  simp only [List.mem_cons, List.not_mem_nil, or_false] at hl
  rcases hl with rfl | rfl
  · exact wpG_ready (fun e => by rw [e] at hi0; simp at hi0) hi hmd (hA a w hrp hsat)
  · exact wpG_ready (fun e => by rw [e] at hj0; simp at hj0) hj hmd (hB a w hrp hsat)
/-- j0 comes up: behind it the second phase. -/
theorem TB.last {o : Oper} (hr : Region.ready .any ops listed = [j0]) (hi : ops[j0]? = some o)
    (h : TL cx ops (KA cx ops Γ₂ fuel (listed.setIfInBounds j0 true) k) [o] ρ ds Γ) : TB cx ops j0 Γ₁ Γ₂ (fuel + 1) listed k ρ ds Γ := by
  intro a w hmd hrp hsat
  refine ⟨fun h0 => (by rw [hr] at h0; cases h0), fun j hj => ?_⟩
  rw [hr] at hj
  obtain rfl : j = j0 := by simpa using hj
  exact wpOp_of_one hi (fun _ _ hK => ⟨fun _ => ⟨hK.1, hK.2 hmd⟩, fun h => absurd rfl h⟩) (wpL_plain hmd (h a w hrp hsat))
theorem TL.backB (hS : Ent Γ Γ₁) (h : TB cx ops j0 Γ₁ Γ₂ fuel listed k ρ ds Γ) : TL cx ops (KB cx ops j0 Γ₁ Γ₂ fuel listed k) [] ρ ds Γ :=
  fun a w hr hs => wpL_nil ⟨hs.weaken hS, fun hmd => h a w hmd hr hs⟩
theorem TB.perm {Δ : List HP} (hp : Γ.Perm Δ) (h : TB cx ops j0 Γ₁ Γ₂ fuel listed k ρ ds Δ) : TB cx ops j0 Γ₁ Γ₂ fuel listed k ρ ds Γ := fun a w hmd hr hs => h a w hmd hr (hs.imp fun _ hm => all_perm hp hm)
theorem TB.sub {Δ : List HP} (hs : Δ.Sublist Γ) (h : TB cx ops j0 Γ₁ Γ₂ fuel listed k ρ ds Δ) : TB cx ops j0 Γ₁ Γ₂ fuel listed k ρ ds Γ := fun a w hmd hr hS => h a w hmd hr (hS.weaken fun _ hm => all_sub hs hm)
theorem TA.sub {Γ₀ Δ : List HP} (hs : Δ.Sublist Γ) (h : TA cx ops Γ₀ fuel listed k ρ ds Δ) : TA cx ops Γ₀ fuel listed k ρ ds Γ := fun a w hmd hr hS => h a w hmd hr (hS.weaken fun _ hm => all_sub hs hm)
theorem TA.perm {Γ₀ Δ : List HP} (hp : Γ.Perm Δ) (h : TA cx ops Γ₀ fuel listed k ρ ds Δ) : TA cx ops Γ₀ fuel listed k ρ ds Γ := fun a w hmd hr hs => h a w hmd hr (hs.imp fun _ hm => all_perm hp hm)
theorem TB.eqL {listed' : Array Bool} (e : listed' = listed) (h : TB cx ops j0 Γ₁ Γ₂ fuel listed k ρ ds Γ) : TB cx ops j0 Γ₁ Γ₂ fuel listed' k ρ ds Γ := e ▸ h
theorem TA.eqL {Γ₀ : List HP} {listed' : Array Bool} (e : listed' = listed) (h : TA cx ops Γ₀ fuel listed k ρ ds Γ) : TA cx ops Γ₀ fuel listed' k ρ ds Γ := e ▸ h
def setL (listed : Array Bool) (L : List Nat) : Array Bool := L.foldl (fun a i => a.setIfInBounds i true) listed
/-- Some operations, in whatever order they come up; behind them the walk goes on once. -/
theorem TB.cutJ (L : List Nat) (J : Env → List HP → Prop) {n : Nat} (hn : fuel = n + L.length) (h1 : (∀ ρ' Γ', J ρ' Γ' → TB cx ops j0 Γ₁ Γ₂ n (setL listed L) k ρ' ds Γ') → TB cx ops j0 Γ₁ Γ₂ (n + L.length) listed k ρ ds Γ) (h2 : ∀ ρ' Γ', J ρ' Γ' → TB cx ops j0 Γ₁ Γ₂ n (setL listed L) k ρ' ds Γ') : TB cx ops j0 Γ₁ Γ₂ fuel listed k ρ ds Γ := by
  subst hn; exact h1 h2
theorem TA.cutJ {Γ₀ : List HP} (L : List Nat) (J : Env → List HP → Prop) {n : Nat} (hn : fuel = n + L.length) (h1 : (∀ ρ' Γ', J ρ' Γ' → TA cx ops Γ₀ n (setL listed L) k ρ' ds Γ') → TA cx ops Γ₀ (n + L.length) listed k ρ ds Γ) (h2 : ∀ ρ' Γ', J ρ' Γ' → TA cx ops Γ₀ n (setL listed L) k ρ' ds Γ') : TA cx ops Γ₀ fuel listed k ρ ds Γ := by
  subst hn; exact h1 h2
end
end Go.Proofs.Ythbcfamfaicneaa.E
