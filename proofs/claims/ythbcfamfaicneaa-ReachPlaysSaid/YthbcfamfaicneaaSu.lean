/- MY OWN LAYER, NINTH PART: more rules: regions that draw with guards, stores into what one owns, rows of things that one owns. P is a variable. -/
import Derived.Test.YthbcfamfaicneaaSd
namespace Go.Proofs.Ythbcfamfaicneaa.E
open Go Go.RowKit

section
variable {cx : Cx} {ops : Array Oper} {K : Act → World → Prop} {rest : List Oper} {k : List Item} {ρ : Env} {ds : List Deferred} {Γ : List HP}
theorem TK.weak {Δ : List HP} (hk : ∀ m, all Γ m → ∃ m', Mem.sub m' m ∧ all Δ m') (h : TK cx k ρ ds Δ) : TK cx k ρ ds Γ := fun a w hr hs => h a w hr (hs.weaken hk)
theorem TL.weak {Δ : List HP} (hk : ∀ m, all Γ m → ∃ m', Mem.sub m' m ∧ all Δ m') (h : TL cx ops K rest ρ ds Δ) : TL cx ops K rest ρ ds Γ := fun a w hr hs => h a w hr (hs.weaken hk)
theorem TK.perm {Δ : List HP} (hp : Γ.Perm Δ) (h : TK cx k ρ ds Δ) : TK cx k ρ ds Γ := .imp (fun _ hm => all_perm hp hm) h
theorem TL.perm {Δ : List HP} (hp : Γ.Perm Δ) (h : TL cx ops K rest ρ ds Δ) : TL cx ops K rest ρ ds Γ := .imp (fun _ hm => all_perm hp hm) h
theorem TL.storeE {t e : TypeId} {x y : Operand} {b o : Nat} {v : Value} {l l' : List Value} {r : TR} {Δ : List HP} {pos : String} {ty : TypeId} {after : Array Edge} (i : Nat) (hi : Γ[i]? = some (row b l e)) (ea : ev ρ x = .pointer (some ⟨b, o, none⟩)) (eb : ev ρ y = v) (h1 : v.oneCell' = true) (ht : TabOk cx.P t r) (hr1 : (r.size == 1) = true) (ho : o < l.length)
    (hl : l.set o v = l') (hΔ : Γ.set i (row b l' e) = Δ) (h : TL cx ops K rest ρ ds Δ) : TL cx ops K (⟨none, .store t x y, ty, pos, after, none⟩ :: rest) ρ ds Γ := by
  subst hl; subst hΔ
  exact .store i hi ea eb h1 ht hr1 ho h
theorem TL.storeAggE {t e : TypeId} {x y : Operand} {b o : Nat} {vs : List Value} {l l' : List Value} {r : TR} {Δ : List HP} {pos : String} {ty : TypeId} {after : Array Edge} (i : Nat) (hi : Γ[i]? = some (row b l e)) (ea : ev ρ x = .pointer (some ⟨b, o, none⟩)) (eb : ev ρ y = .agg vs.toArray) (h1 : allOne vs = true) (ht : TabOk cx.P t r) (hn : (vs.length == r.size) = true) (ho : o + vs.length ≤ l.length)
    (hl : l.take o ++ vs ++ l.drop (o + vs.length) = l') (hΔ : Γ.set i (row b l' e) = Δ) (h : TL cx ops K rest ρ ds Δ) : TL cx ops K (⟨none, .store t x y, ty, pos, after, none⟩ :: rest) ρ ds Γ := by
  subst hl; subst hΔ
  exact .storeAgg i hi ea eb (by simpa [allOne] using h1) ht (by simpa using hn) ho h
/-- A store into memory that an assertion at place i owns. -/
theorem TL.storeIn {t e : TypeId} {x y : Operand} {b o : Nat} {v : Value} {r : TR} {H H' : HP} {pos : String} {ty : TypeId} {after : Array Edge} (i : Nat) (hi : Γ[i]? = some H) (ea : ev ρ x = .pointer (some ⟨b, o, none⟩)) (eb : ev ρ y = v) (h1 : v.oneCell' = true) (ht : TabOk cx.P t r) (hr1 : (r.size == 1) = true)
    (hH : ∀ m, H m → ∃ (l : List Value) (F : HP), sep (row b l e) F m ∧ o < l.length ∧ ∀ m', sep (row b (l.set o v) e) F m' → H' m')
    (h : TL cx ops K rest ρ ds (Γ.set i H')) : TL cx ops K (⟨none, .store t x y, ty, pos, after, none⟩ :: rest) ρ ds Γ := by
  intro a w hr hs
  obtain ⟨⟨l, F⟩, ⟨ho, hF⟩, hs1⟩ := hs.at hi (X := List Value × HP) (φ := fun p => o < p.1.length ∧ ∀ m', sep (row b (p.1.set o v) e) p.2 m' → H' m') (K := fun p => sep (row b p.1 e) p.2) (fun m hm => by
    obtain ⟨l, F, h2, h3, h4⟩ := hH m hm
    exact ⟨(l, F), ⟨h3, h4⟩, h2⟩)
  have hi2 : (Γ.set i (sep (row b l e) F))[i]? = some (sep (row b l e) F) := by
    have := (List.getElem?_eq_some_iff.1 hi).1
    simp [this]
  have hperm := perm_front hi2
  have hs2 : Sat cx.E (row b l e :: F :: Γ.eraseIdx i) w := hs1.imp fun m hm => by
    have := all_front hi2 hm
    rw [List.eraseIdx_set_eq] at this
    exact sep_assoc this
  refine TL.store (Γ := row b l e :: F :: Γ.eraseIdx i) (pos := pos) (ty := ty) (after := after) 0 rfl ea eb h1 ht hr1 ho ?_ a w hr hs2
  refine TL.imp (fun m hm => ?_) h
  refine all_perm (perm_set H' hi).symm ?_
  exact sep_mono (sep_assoc' hm) hF (fun _ => id)
theorem TL.appendE {d : Nat} {pos : String} {after : Array Edge} {t e ty : TypeId} {x y : Operand} {v : Value} {A : Option Addr} {n m c s : Nat} {cs news cs' : List Value} {r r' : TR} {H : HP} (i : Nat) (hi : Γ[i]? = some H) (hd : Nat.blt d cx.n = true) (ht : TabOk cx.P t r) (hq : r.und = .slice e) (ht' : TabOk cx.P e r') (hsz : Nat.blt 0 r'.size = true)
    (hzs : (r'.zero.cells.size == r'.size) = true) (ea : ev ρ x = v) (hH : ∀ m, H m → own e r'.size v n cs m) (eb : ev ρ y = .slice A m c) (hs : has Γ (srcAt r'.size A m news)) (h1 : ∀ u ∈ news, u.oneCell' = true) (hb : (n + m) * r'.bytes ≤ 140737488355328) (h63 : n + m ≤ maxLen) (hnm : n + m = s) (hcs : cs ++ news = cs') {Δ : Value → List HP} (hΔ : ∀ v, Γ.set i (own e r'.size v s cs') = Δ v)
    (h : ∀ A' c', s ≤ c' → TL cx ops K rest ((d, .slice A' s c') :: ρ) ds (Δ (.slice A' s c'))) : TL cx ops K (⟨some d, .call ⟨.builtin .append, #[x, y], #[t, t]⟩, ty, pos, after, none⟩ :: rest) ρ ds Γ := by
  subst hnm; subst hcs
  exact .append i hi hd ht hq ht' hsz hzs ea hH eb hs h1 hb h63 hΔ h
/-- A store into a slice of one's own. -/
theorem TL.storeOwn {t e : TypeId} {x y : Operand} {b o o' c n : Nat} {v : Value} {cs : List Value} {r : TR} {pos : String} {ty : TypeId} {after : Array Edge} (i j : Nat) (hi : Γ[i]? = some (own e 1 (.slice (some ⟨b, o, none⟩) n c) n cs)) (ea : ev ρ x = .pointer (some ⟨b, o', none⟩)) (eb : ev ρ y = v) (h1 : v.oneCell' = true) (ht : TabOk cx.P t r) (hr1 : (r.size == 1) = true)
    (ho : o' = o + j) (hj : j < n) (h : TL cx ops K rest ρ ds (Γ.set i (own e 1 (.slice (some ⟨b, o, none⟩) n c) n (cs.set j v)))) : TL cx ops K (⟨none, .store t x y, ty, pos, after, none⟩ :: rest) ρ ds Γ := by
  refine TL.storeIn (e := e) i hi ea eb h1 ht hr1 (fun m hm => ?_) h
  obtain ⟨hcl, ⟨hv, _⟩ | ⟨g, cap, cur, hv, hn, hcap, hl, htk, hrow⟩⟩ := hm
  · cases hv
  · injection hv with hv1 _ hv2
    injection hv1 with hv1
    injection hv1 with hv1 hv3
    subst hv1; subst hv2; subst hv3; subst ho
    refine ⟨cur, emp, sep_emp hrow, by simp at hl hcl ⊢; omega, fun m' hm' => ⟨by simpa using hcl, .inr ⟨b, c, cur.set (0 + j) v, rfl, hn, hcap, by simpa using hl, ?_, sep_of_emp hm'⟩⟩⟩
    rw [← htk, Nat.zero_add, List.take_set]
    
end

/-! ### regions that draw -/
/-- What bears the one bears the other. -/
def Ent (Γ Δ : List HP) : Prop := ∀ m, all Γ m → ∃ m', Mem.sub m' m ∧ all Δ m'
theorem Ent.refl (Γ : List HP) : Ent Γ Γ := fun m h => ⟨m, Mem.sub_refl _, h⟩
theorem Ent.trans {Γ Δ Θ : List HP} (h : Ent Γ Δ) (h' : Ent Δ Θ) : Ent Γ Θ := fun m hm => by
  obtain ⟨m1, h1, h2⟩ := h m hm
  obtain ⟨m2, h3, h4⟩ := h' m1 h2
  exact ⟨m2, Mem.sub_trans h3 h1, h4⟩
theorem Ent.sub {Γ Δ : List HP} (h : Δ.Sublist Γ) : Ent Γ Δ := fun _ hm => all_sub h hm
theorem Ent.tail {H : HP} {Γ Δ : List HP} (h : Ent Γ Δ) : Ent (H :: Γ) Δ := Ent.trans (Ent.sub (List.sublist_cons_self H Γ)) h
theorem Ent.cons {H K : HP} {Γ Δ : List HP} (hH : ∀ m, H m → K m) (h : Ent Γ Δ) : Ent (H :: Γ) (K :: Δ) := by
  rintro m ⟨a, b, hd, rfl, ha, hb⟩
  obtain ⟨b', h1, h2⟩ := h b hb
  have hd' : Mem.disj a b' := fun k => by
    rcases hd k with h | h
    · exact .inl h
    · right
      cases hk : b' k with
      | none => rfl
      | some o => rw [h1 k o hk] at h; cases h
  refine ⟨Mem.join a b', fun k o hk => ?_, a, b', hd', rfl, hH a ha, h2⟩
  cases hak : a k with
  | some q => simpa [Mem.join, hak] using hk
  | none =>
    simp [Mem.join, hak] at hk ⊢
    exact h1 k o hk
structure At (i : Nat) : Prop where
def takeB (ops : Array Oper) (listed : Array Bool) (i : Nat) : Bool := Region.noSelect ops && Region.free .any ops listed i && (Region.ready .any ops listed).contains i
section
variable {cx : Cx} {ops : Array Oper} {Γ₀ : List HP} {fuel : Nat} {listed : Array Bool} {k : List Item} {ρ : Env} {ds : List Deferred} {Γ : List HP}
theorem TK.drawE {id : Nat} {l : List Oper} (hm : cx.P.follows .mixedOrders = true) (hmd : cx.md = none) (Γ₀ : List HP) (h : TA cx l.toArray Γ₀ l.length (Array.replicate l.length false) k ρ ds Γ) : TK cx (.code (.region id l.toArray true) :: k) ρ ds Γ := .draw Γ₀ hm hmd h
theorem TK.drawS {id : Nat} {l : List Oper} (hm : cx.P.follows .mixedOrders = true) (hmd : cx.md = none) (h : TA cx l.toArray Γ l.length (Array.replicate l.length false) k ρ ds Γ) : TK cx (.code (.region id l.toArray true) :: k) ρ ds Γ := .draw Γ hm hmd h
theorem TA.takeA {i : Nat} (_ : At i) {d : Nat} {op : Op} {ty : TypeId} {pos : String} {after : Array Edge} {v : Value} (hi : ops[i]? = some ⟨some d, op, ty, pos, after, none⟩) (hd : Nat.blt d cx.n = true) (hb : takeB ops listed i = true) (hS : Ent Γ Γ₀)
    (hv : PV cx.P ρ (Sat cx.E Γ₀) ⟨some d, op, ty, pos, after, none⟩ v) (h : TA cx ops Γ₀ fuel (listed.setIfInBounds i true) k ((d, v) :: ρ) ds Γ) : TA cx ops Γ₀ (fuel + 1) listed k ρ ds Γ := by
  simp only [takeB, Bool.and_eq_true] at hb
  exact .take i hi hd (hS) hv hb.1.1 hb.1.2 hb.2 h
theorem yields_bool {a : Act} {t g : Nat} {c : Bool} (hr : Rp cx.n ρ ds a) (ht : ((ops[g]?).bind (·.dst)) = some t) (hn : Nat.blt t cx.n = true) (e : lk ρ t = .bool c) : yielded ops a.tmps g = some c := by
  have hlt : t < a.tmps.size := by rw [hr.size]; simpa using hn
  have := hr.get t
  rw [e] at this
  simp [hlt] at this
  simp [yielded, ht, hlt, this]
theorem TA.takeY {i : Nat} (_ : At i) {d g t : Nat} {c : Bool} {op : Op} {ty : TypeId} {pos : String} {after : Array Edge} {v : Value} (hi : ops[i]? = some ⟨some d, op, ty, pos, after, some (g, c)⟩) (hd : Nat.blt d cx.n = true) (ht : ((ops[g]?).bind (·.dst)) = some t) (hn : Nat.blt t cx.n = true) (e : lk ρ t = .bool c) (hb : takeB ops listed i = true) (hS : Ent Γ Γ₀)
    (hv : PV cx.P ρ (Sat cx.E Γ₀) ⟨some d, op, ty, pos, after, none⟩ v) (h : TA cx ops Γ₀ fuel (listed.setIfInBounds i true) k ((d, v) :: ρ) ds Γ) : TA cx ops Γ₀ (fuel + 1) listed k ρ ds Γ := by
  simp only [takeB, Bool.and_eq_true] at hb
  intro a w hmd hrp hsat
  refine wpAnyH_take (v := v) hi hb.1.1 hb.1.2 hb.2 (fun _ _ _ hq => Qk.put hmd hq) (.inl ⟨?_, fun w' hw' => ?_⟩) (hsat.weaken hS) (h _ _ hmd (hrp.put d v hd) hsat)
  · simp [Region.wanted, yields_bool hrp ht hn e]
  · rw [hrp.ev]; exact hv w' hw'
theorem TA.takeN {i : Nat} (_ : At i) {d g t : Nat} {c x : Bool} {op : Op} {ty : TypeId} {pos : String} {after : Array Edge} (hi : ops[i]? = some ⟨some d, op, ty, pos, after, some (g, c)⟩) (hd : Nat.blt d cx.n = true) (ht : ((ops[g]?).bind (·.dst)) = some t) (hn : Nat.blt t cx.n = true) (e : lk ρ t = .bool x) (hx : (x == c) = false) (hb : takeB ops listed i = true) (hS : Ent Γ Γ₀)
    (h : TA cx ops Γ₀ fuel (listed.setIfInBounds i true) k ((d, undef) :: ρ) ds Γ) : TA cx ops Γ₀ (fuel + 1) listed k ρ ds Γ := by
  simp only [takeB, Bool.and_eq_true] at hb
  intro a w hmd hrp hsat
  refine wpAnyH_take (v := undef) hi hb.1.1 hb.1.2 hb.2 (fun _ _ _ hq => Qk.put hmd hq) (.inr ⟨?_, rfl⟩) (hsat.weaken hS) (h _ _ hmd (hrp.put d undef hd) hsat)
  simp [Region.wanted, yields_bool hrp ht hn e, hx]
theorem TA.takeU {i : Nat} (_ : At i) {d g t : Nat} {c : Bool} {op : Op} {ty : TypeId} {pos : String} {after : Array Edge} (hi : ops[i]? = some ⟨some d, op, ty, pos, after, some (g, c)⟩) (hd : Nat.blt d cx.n = true) (ht : ((ops[g]?).bind (·.dst)) = some t) (hn : Nat.blt t cx.n = true) (e : lk ρ t = undef) (hb : takeB ops listed i = true) (hS : Ent Γ Γ₀)
    (h : TA cx ops Γ₀ fuel (listed.setIfInBounds i true) k ((d, undef) :: ρ) ds Γ) : TA cx ops Γ₀ (fuel + 1) listed k ρ ds Γ := by
  simp only [takeB, Bool.and_eq_true] at hb
  intro a w hmd hrp hsat
  refine wpAnyH_take (v := undef) hi hb.1.1 hb.1.2 hb.2 (fun _ _ _ hq => Qk.put hmd hq) (.inr ⟨?_, rfl⟩) (hsat.weaken hS) (h _ _ hmd (hrp.put d undef hd) hsat)
  have hlt : t < a.tmps.size := by rw [hrp.size]; simpa using hn
  have := hrp.get t
  rw [e] at this
  simp [hlt] at this
  simp [Region.wanted, yielded, ht, hlt, this, undef]
theorem TA.cases (t : Nat) {c : Bool} (e : lk ρ t = .bool c) (h1 : c = true → TA cx ops Γ₀ fuel listed k ((t, .bool true) :: ρ) ds Γ) (h2 : c = false → TA cx ops Γ₀ fuel listed k ((t, .bool false) :: ρ) ds Γ) : TA cx ops Γ₀ fuel listed k ρ ds Γ := by
  cases c with
  | true => exact .know e (h1 rfl)
  | false => exact .know e (h2 rfl)
theorem TA.isT (t : Nat) {c : Bool} (e : lk ρ t = .bool c) (hc : c = true) (h : TA cx ops Γ₀ fuel listed k ((t, .bool true) :: ρ) ds Γ) : TA cx ops Γ₀ fuel listed k ρ ds Γ := .know (hc ▸ e) h
theorem TA.isF (t : Nat) {c : Bool} (e : lk ρ t = .bool c) (hc : c = false) (h : TA cx ops Γ₀ fuel listed k ((t, .bool false) :: ρ) ds Γ) : TA cx ops Γ₀ fuel listed k ρ ds Γ := .know (hc ▸ e) h
/-- Back from a step that was taken alone. -/
theorem TL.back (hS : Ent Γ Γ₀) (h : TA cx ops Γ₀ fuel listed k ρ ds Γ) : TL cx ops (KA cx ops Γ₀ fuel listed k) [] ρ ds Γ := .any (hS) h
end

/-! ### rows of things that one owns -/
def alls {α : Type} (f : α → HP) (l : List α) : HP := all (l.map f)
theorem alls_cons {α : Type} {f : α → HP} {x : α} {l : List α} {m : Mem} : alls f (x :: l) m ↔ sep (f x) (alls f l) m := Iff.rfl
theorem alls_nil {α : Type} {f : α → HP} {m : Mem} (h : emp m) : alls f [] m := h
theorem alls_append {α : Type} {f : α → HP} {l l' : List α} {m : Mem} : alls f (l ++ l') m ↔ sep (alls f l) (alls f l') m := by
  unfold alls
  rw [List.map_append]
  exact ⟨all_append, all_append'⟩
theorem alls_one {α : Type} {f : α → HP} {x : α} {m : Mem} : alls f [x] m ↔ f x m := ⟨fun h => sep_of_emp h, fun h => sep_emp h⟩
theorem eraseIdx_map {α β : Type} (f : α → β) : ∀ (l : List α) (i : Nat), (l.map f).eraseIdx i = (l.eraseIdx i).map f
  | [], _ => by simp
  | _ :: _, 0 => by simp
  | _ :: l, i + 1 => by simp [eraseIdx_map f l i]
theorem alls_get {α : Type} {f : α → HP} {l : List α} {i : Nat} {x : α} (h : l[i]? = some x) {m : Mem} (hm : alls f l m) : sep (f x) (alls f (l.eraseIdx i)) m := by
  have := all_front (Γ := l.map f) (i := i) (H := f x) (by simp [h]) hm
  rw [eraseIdx_map] at this
  exact this
theorem alls_set {α : Type} {f : α → HP} {l : List α} {i : Nat} {x y : α} (h : l[i]? = some x) {m : Mem} (hm : sep (f y) (alls f (l.eraseIdx i)) m) : alls f (l.set i y) m := by
  have := perm_set (Γ := l.map f) (H := f x) (f y) (i := i) (by simp [h])
  unfold alls
  rw [List.map_set]
  refine all_perm this.symm ?_
  rw [eraseIdx_map]
  exact hm
theorem alls_has {α : Type} {f : α → HP} {l : List α} {x : α} {p : Mem → Prop} (hp : Up p) (hx : x ∈ l) (h : ∀ m, f x m → p m) {m : Mem} (hm : alls f l m) : p m := by
  obtain ⟨i, hi, rfl⟩ := List.mem_iff_getElem.1 hx
  obtain ⟨a, b, hd, rfl, ha, _⟩ := alls_get (by simp [hi] : l[i]? = some l[i]) hm
  exact hp _ _ (Mem.sub_left a b) (h a ha)
/-- The i-th is put anew, the old one is let go. -/
theorem alls_renew {α : Type} {f : α → HP} {l : List α} {i : Nat} {y : α} (hi : i < l.length) {Γ : List HP} {m : Mem} (hm : all (f y :: alls f l :: Γ) m) : ∃ m', Mem.sub m' m ∧ all (alls f (l.set i y) :: Γ) m' := by
  have h1 : all (f y :: f l[i] :: alls f (l.eraseIdx i) :: Γ) m := sep_mono hm (fun _ => id) fun _ h => sep_assoc (sep_mono h (fun _ h => alls_get (by simp [hi]) h) (fun _ => id))
  obtain ⟨m', hs, hm'⟩ := all_sub (Γ := f y :: f l[i] :: alls f (l.eraseIdx i) :: Γ) (Δ := f y :: alls f (l.eraseIdx i) :: Γ) (by simp) h1
  exact ⟨m', hs, sep_mono (sep_assoc' hm') (fun _ h => alls_set (x := l[i]) (by simp [hi]) h) (fun _ => id)⟩
theorem has_alls {α : Type} {f : α → HP} {l : List α} {x : α} {p : Mem → Prop} {Γ : List HP} (i : Nat) (hi : Γ[i]? = some (alls f l)) (hp : Up p) (hx : x ∈ l) (h : ∀ m, f x m → p m) : has Γ p :=
  has_at hp i hi fun _ hm => alls_has hp hx h hm
theorem PV.loadAggH {P : Program} {ρ : Env} {d : Nat} {ty : TypeId} {pos : String} {after : Array Edge} {E : World} {Γ : List HP} {t : TypeId} {x : Operand} {b o : Nat} {vs : List Value} {r : TR} (ea : ev ρ x = .pointer (some ⟨b, o, none⟩)) (ht : TabOk P t r) (hq : isAggD r.und = true) (hv : has Γ (fun m => cellsAt m b o vs)) (hl : vs.length = r.size) : PV P ρ (Sat E Γ) ⟨some d, .load t x, ty, pos, after, none⟩ (.agg vs.toArray) := PV.loadAgg ea ht hq hl hv
/-! ### numbers -/
def nums (q : IntKind) (xs : List Int) : List Value := xs.map (Value.int q)
theorem nums_length (q : IntKind) (xs : List Int) : (nums q xs).length = xs.length := by simp [nums]
theorem nums_one (q : IntKind) (xs : List Int) : ∀ u ∈ nums q xs, u.oneCell' = true := by
  intro u hu
  obtain ⟨x, _, rfl⟩ := List.mem_map.1 hu
  rfl
theorem nums_get {q : IntKind} {xs : List Int} {i : Nat} (h : i < xs.length) : (nums q xs)[i]? = some (.int q xs[i]) := by simp [nums, h]
/-- A slice's numbers, told one by one. -/
theorem src_num {q : IntKind} {A : Option Addr} {n : Nat} {xs : List Int} {m : Mem} (h : srcAt 1 A n (nums q xs) m) : n = xs.length ∧ (∀ i (hi : i < xs.length), ∃ b o, A = some ⟨b, o, none⟩ ∧ cellAt m b (o + i) (.int q xs[i])) := by
  obtain ⟨h1, h2⟩ := h
  refine ⟨by simpa [nums] using h1.symm, fun i hi => ?_⟩
  rcases h2 with h2 | ⟨b, o, hA, hc⟩
  · simp [nums] at h2; subst h2; simp at hi
  · exact ⟨b, o, hA, hc i _ (nums_get hi)⟩
theorem has_num {Γ : List HP} {q : IntKind} {b o n : Nat} {xs : List Int} (h : has Γ (srcAt 1 (some ⟨b, o, none⟩) n (nums q xs))) {i : Nat} (hi : i < xs.length) : has Γ (fun m => cellAt m b (o + i) (.int q xs[i])) := fun m hm => by
  obtain ⟨b', o', e, hc⟩ := (src_num (h m hm)).2 i hi
  injection e with e
  injection e with e1 e2 _
  subst e1; subst e2
  exact hc
theorem flat_drop {α : Type} {f : α → List Value} {sz : Nat} (hf : ∀ a, (f a).length = sz) : ∀ (l : List α) (k : Nat), (l.drop k).flatMap f = (l.flatMap f).drop (k * sz)
  | [], k => by simp
  | a :: l, 0 => by simp
  | a :: l, k + 1 => by
    rw [List.drop_succ_cons, flat_drop hf l k, List.flatMap_cons, show (k + 1) * sz = (f a).length + k * sz by rw [hf, Nat.add_mul]; omega, List.drop_length_add_append]
theorem flat_take {α : Type} {f : α → List Value} {sz : Nat} (hf : ∀ a, (f a).length = sz) : ∀ (l : List α) (k : Nat), (l.take k).flatMap f = (l.flatMap f).take (k * sz)
  | [], k => by simp
  | a :: l, 0 => by simp
  | a :: l, k + 1 => by
    rw [List.take_succ_cons, List.flatMap_cons, flat_take hf l k, List.flatMap_cons, show (k + 1) * sz = (f a).length + k * sz by rw [hf, Nat.add_mul]; omega, List.take_length_add_append]
theorem src_drop {sz n k b o o' : Nat} {news : List Value} {m : Mem} (h : srcAt sz (some ⟨b, o, none⟩) n news m) (ho : o' = o + k * sz) : srcAt sz (some ⟨b, o', none⟩) (n - k) (news.drop (k * sz)) m := by
  obtain ⟨h1, h2⟩ := h
  refine ⟨by rw [List.length_drop, h1, Nat.sub_mul], ?_⟩
  rcases h2 with rfl | ⟨b', o2, e, h2⟩
  · left; simp
  · injection e with e
    injection e with e1 e2 _
    subst e1; subst e2; subst ho
    refine .inr ⟨_, _, rfl, fun j v hj => ?_⟩
    rw [List.getElem?_drop] at hj
    have := h2 _ v hj
    rwa [← Nat.add_assoc] at this
theorem src_take {sz n k : Nat} {A : Option Addr} {news : List Value} {m : Mem} (h : srcAt sz A n news m) (hk : k ≤ n) : srcAt sz A k (news.take (k * sz)) m := by
  obtain ⟨h1, h2⟩ := h
  refine ⟨by rw [List.length_take, h1]; exact Nat.min_eq_left (Nat.mul_le_mul_right _ hk), ?_⟩
  rcases h2 with rfl | ⟨b', o2, e, h2⟩
  · left; simp
  · refine .inr ⟨_, _, e, fun j v hj => ?_⟩
    simp [List.getElem?_take] at hj
    exact h2 j v hj.2
theorem all_at {Γ : List HP} {H : HP} {p : Prop} (i : Nat) (hi : Γ[i]? = some H) (h : ∀ m, H m → p) : ∀ m, all Γ m → p := fun m hm => by
  obtain ⟨a, _, _, _, ha, _⟩ := all_front hi hm
  exact h a ha
theorem not_t {b : Bool} (h : b = false) : (!b) = true := by rw [h]; rfl
theorem not_f {b : Bool} (h : b = true) : (!b) = false := by rw [h]; rfl
theorem one_of {vs : List Value} (h : allOne vs = true) : ∀ u ∈ vs, u.oneCell' = true := by simpa [allOne] using h
theorem u64_succ (i : Nat) (h : i < 4611686018427387904) : IntKind.u64.wrap ((i : Int) + 1) = ((i + 1 : Nat) : Int) := by
  rw [u64_in (by omega) (by omega)]; omega
end Go.Proofs.Ythbcfamfaicneaa.E
