/- MY OWN LAYER OVER THE WALK'S LAWS: memory in separate pieces. A context is a list of assertions on disjoint parts of the heap; a judgement says that code, begun in whatever world bears the context and with temporaries as a list of pairs says, comes to what is claimed. No program in sight: P is a variable. -/
import Derived.WalkKit
import Derived.WalkSpells
import Derived.WalkLawsBesides
namespace Go.Proofs.Ythbcfamfaicneaa.E
open Go Go.RowKit

/-! ### temporaries as pairs -/
abbrev Env := List (Nat × Value)
def lk : Env → Nat → Value
  | [], _ => undef
  | (d, v) :: r, t => bif Nat.beq d t then v else lk r t
def ev (ρ : Env) : Operand → Value
  | .tmp t => lk ρ t
  | .const v => v
  | .global g => .pointer (some ⟨g, 0, none⟩)
  | .func f => .func (.func f) #[] #[]
theorem lk_cons (d : Nat) (v : Value) (r : Env) (t : Nat) : lk ((d, v) :: r) t = if d = t then v else lk r t := by
  simp only [lk]
  by_cases h : d = t
  · simp [h]
  · have : Nat.beq d t = false := by rw [← Bool.not_eq_true, Nat.beq_eq]; exact h
    simp [h, this]

/-! ### memory -/
abbrev Mem := Nat → Option Obj
abbrev HP := Mem → Prop
def Mem.disj (a b : Mem) : Prop := ∀ k, a k = none ∨ b k = none
def Mem.join (a b : Mem) : Mem := fun k => (a k).or (b k)
def Mem.sub (a b : Mem) : Prop := ∀ k o, a k = some o → b k = some o
def sep (H K : HP) : HP := fun m => ∃ a b, Mem.disj a b ∧ m = Mem.join a b ∧ H a ∧ K b
def emp : HP := fun m => ∀ k, m k = none
def all : List HP → HP
  | [] => emp
  | H :: Γ => sep H (all Γ)
def pt (b : Nat) (o : Obj) : HP := fun m => ∀ k, m k = if k = b then some o else none

theorem Mem.sub_refl (a : Mem) : Mem.sub a a := fun _ _ h => h
theorem Mem.sub_trans {a b c : Mem} (h : Mem.sub a b) (k : Mem.sub b c) : Mem.sub a c := fun i o e => k i o (h i o e)
theorem Mem.disj_comm {a b : Mem} (h : Mem.disj a b) : Mem.disj b a := fun k => (h k).symm
theorem Mem.join_comm {a b : Mem} (h : Mem.disj a b) : Mem.join a b = Mem.join b a := by
  funext k
  unfold Mem.join
  rcases h k with h | h <;> rw [h] <;> simp
theorem Mem.sub_left (a b : Mem) : Mem.sub a (Mem.join a b) := fun k o h => by simp [Mem.join, h]
theorem Mem.sub_right {a b : Mem} (h : Mem.disj a b) : Mem.sub b (Mem.join a b) := fun k o e => by
  rcases h k with h | h
  · simp [Mem.join, h, e]
  · rw [h] at e; cases e
theorem Mem.join_assoc (a b c : Mem) : Mem.join (Mem.join a b) c = Mem.join a (Mem.join b c) := by
  funext k
  unfold Mem.join
  cases a k <;> simp
theorem Mem.disj_join_left {a b c : Mem} (h : Mem.disj (Mem.join a b) c) : Mem.disj a c ∧ Mem.disj b c := by
  refine ⟨fun k => ?_, fun k => ?_⟩
  · rcases h k with h | h
    · left; unfold Mem.join at h; cases ha : a k <;> simp_all
    · exact .inr h
  · rcases h k with h | h
    · left; unfold Mem.join at h; cases ha : a k <;> simp_all
    · exact .inr h
theorem Mem.disj_join_right {a b c : Mem} (h1 : Mem.disj a b) (h2 : Mem.disj a c) : Mem.disj a (Mem.join b c) := fun k => by
  rcases h1 k with h | h
  · exact .inl h
  · rcases h2 k with h' | h'
    · exact .inl h'
    · right; simp [Mem.join, h, h']
theorem sep_comm {H K : HP} {m : Mem} (h : sep H K m) : sep K H m := by
  obtain ⟨a, b, hd, rfl, ha, hb⟩ := h
  exact ⟨b, a, Mem.disj_comm hd, Mem.join_comm hd, hb, ha⟩
theorem sep_assoc {H K L : HP} {m : Mem} (h : sep (sep H K) L m) : sep H (sep K L) m := by
  obtain ⟨x, c, hd, rfl, ⟨a, b, hd2, rfl, ha, hb⟩, hc⟩ := h
  obtain ⟨h1, h2⟩ := Mem.disj_join_left hd
  exact ⟨a, Mem.join b c, Mem.disj_join_right hd2 h1, Mem.join_assoc a b c, ha, b, c, h2, rfl, hb, hc⟩
theorem sep_assoc' {H K L : HP} {m : Mem} (h : sep H (sep K L) m) : sep (sep H K) L m :=
  sep_comm (sep_assoc (sep_comm (sep_assoc (sep_comm h))))
theorem sep_mono {H H' K K' : HP} {m : Mem} (h : sep H K m) (h1 : ∀ m, H m → H' m) (h2 : ∀ m, K m → K' m) : sep H' K' m := by
  obtain ⟨a, b, hd, e, ha, hb⟩ := h
  exact ⟨a, b, hd, e, h1 _ ha, h2 _ hb⟩
theorem sep_swap {H K L : HP} {m : Mem} (h : sep H (sep K L) m) : sep K (sep H L) m :=
  sep_assoc (sep_mono (sep_assoc' h) (fun _ => sep_comm) (fun _ => id))
theorem sep_emp {H : HP} {m : Mem} (h : H m) : sep H emp m :=
  ⟨m, fun _ => none, fun _ => .inr rfl, by funext k; simp [Mem.join], h, fun _ => rfl⟩
theorem sep_of_emp {H : HP} {m : Mem} (h : sep H emp m) : H m := by
  obtain ⟨a, b, _, e, ha, hb⟩ := h
  have : m = a := by rw [e]; funext k; simp [Mem.join, hb k]
  rwa [this]

theorem all_perm {Γ Δ : List HP} (h : Γ.Perm Δ) : ∀ {m : Mem}, all Γ m → all Δ m := by
  induction h with
  | nil => exact id
  | cons x _ ih => exact fun hm => sep_mono hm (fun _ => id) (fun _ => ih)
  | swap x y l => exact fun hm => sep_swap hm
  | trans _ _ ih1 ih2 => exact fun hm => ih2 (ih1 hm)
theorem all_append {Γ Δ : List HP} {m : Mem} : all (Γ ++ Δ) m → sep (all Γ) (all Δ) m := by
  induction Γ generalizing m with
  | nil => exact fun h => sep_comm (sep_emp h)
  | cons H Γ ih => exact fun h => sep_assoc' (sep_mono h (fun _ => id) (fun _ => ih))
theorem all_append' {Γ Δ : List HP} {m : Mem} : sep (all Γ) (all Δ) m → all (Γ ++ Δ) m := by
  induction Γ generalizing m with
  | nil => exact fun h => sep_of_emp (sep_comm h)
  | cons H Γ ih => exact fun h => sep_mono (sep_assoc h) (fun _ => id) (fun _ => ih)
theorem perm_front {Γ : List HP} {H : HP} : ∀ {i : Nat}, Γ[i]? = some H → Γ.Perm (H :: Γ.eraseIdx i) := by
  induction Γ with
  | nil => intro i h; simp at h
  | cons K Γ ih =>
    intro i h
    cases i with
    | zero => simp at h; subst h; exact .refl _
    | succ i => simp at h; exact (List.Perm.cons K (ih h)).trans (.swap _ _ _)
theorem all_front {Γ : List HP} {H : HP} {i : Nat} (h : Γ[i]? = some H) {m : Mem} (hm : all Γ m) : all (H :: Γ.eraseIdx i) m := all_perm (perm_front h) hm
theorem perm_set {Γ : List HP} {H : HP} (K : HP) : ∀ {i : Nat}, Γ[i]? = some H → (Γ.set i K).Perm (K :: Γ.eraseIdx i) := by
  intro i h
  have hi : i < Γ.length := by
    rcases Nat.lt_or_ge i Γ.length with h' | h'
    · exact h'
    · rw [List.getElem?_eq_none h'] at h; cases h
  have := perm_front (Γ := Γ.set i K) (H := K) (i := i) (by simp [hi])
  rwa [List.eraseIdx_set_eq] at this
/-- One assertion may be put in the place of another one. -/
theorem all_set {Γ : List HP} {H K : HP} {i : Nat} (h : Γ[i]? = some H) (hk : ∀ m, H m → K m) {m : Mem} (hm : all Γ m) : all (Γ.set i K) m :=
  all_perm (perm_set K h).symm (sep_mono (all_front h hm) hk (fun _ => id))

/-! ### worlds that bear a context -/
structure Sat (E : World) (Γ : List HP) (w : World) : Prop where
  os : w.os = E.os
  output : w.output = E.output
  mem : ∃ m, all Γ m ∧ ∀ k o, m k = some o → w.heap[k]? = some o

/-- What the memory of a context says, if a larger one says it too. -/
def has (Γ : List HP) (p : Mem → Prop) : Prop := ∀ m, all Γ m → p m
def Up (p : Mem → Prop) : Prop := ∀ a b, Mem.sub a b → p a → p b
theorem has_tail {H : HP} {Γ : List HP} {p : Mem → Prop} (hp : Up p) (h : has Γ p) : has (H :: Γ) p := by
  rintro m ⟨a, b, hd, rfl, _, hb⟩
  exact hp _ _ (Mem.sub_right hd) (h b hb)
theorem has_head {H : HP} {Γ : List HP} {p : Mem → Prop} (hp : Up p) (h : ∀ m, H m → p m) : has (H :: Γ) p := by
  rintro m ⟨a, b, hd, rfl, ha, _⟩
  exact hp _ _ (Mem.sub_left a b) (h a ha)
theorem has_at {H : HP} {Γ : List HP} {p : Mem → Prop} (hp : Up p) (i : Nat) (hi : Γ[i]? = some H) (h : ∀ m, H m → p m) : has Γ p :=
  fun _ hm => has_head (Γ := Γ.eraseIdx i) hp h _ (all_front hi hm)
theorem has_imp {Γ : List HP} {p q : Mem → Prop} (h : has Γ p) (hq : ∀ m, p m → q m) : has Γ q := fun m hm => hq m (h m hm)
theorem has_and {Γ : List HP} {p q : Mem → Prop} (h : has Γ p) (k : has Γ q) : has Γ (fun m => p m ∧ q m) := fun m hm => ⟨h m hm, k m hm⟩

theorem Sat.weaken {E : World} {Γ Δ : List HP} {w : World} (h : Sat E Γ w) (hk : ∀ m, all Γ m → ∃ m', Mem.sub m' m ∧ all Δ m') : Sat E Δ w := by
  obtain ⟨h1, h3, m, hm, hw⟩ := h
  obtain ⟨m', hs, hm'⟩ := hk m hm
  exact ⟨h1, h3, m', hm', fun k o e => hw k o (hs k o e)⟩
theorem Sat.imp {E : World} {Γ Δ : List HP} {w : World} (h : Sat E Γ w) (hk : ∀ m, all Γ m → all Δ m) : Sat E Δ w :=
  h.weaken fun m hm => ⟨m, Mem.sub_refl _, hk m hm⟩
theorem Sat.drop {E : World} {H : HP} {Γ : List HP} {w : World} (h : Sat E (H :: Γ) w) : Sat E Γ w :=
  h.weaken fun _ ⟨_, b, hd, e, _, hb⟩ => ⟨b, e ▸ Mem.sub_right hd, hb⟩
theorem Sat.erase {E : World} {Γ : List HP} {w : World} (h : Sat E Γ w) (i : Nat) : Sat E (Γ.eraseIdx i) w := by
  cases hi : Γ[i]? with
  | none => rw [List.eraseIdx_of_length_le (by simpa using hi)]; exact h
  | some H => exact (h.imp fun m hm => all_front hi hm).drop

/-! ### what a cell of memory holds -/
def cellAt (m : Mem) (b o : Nat) (v : Value) : Prop := ∃ c e fr, m b = some (.cells c e fr) ∧ c[o]? = some v
theorem up_cell (b o : Nat) (v : Value) : Up (fun m => cellAt m b o v) := fun _ _ hs ⟨c, e, fr, h, hv⟩ => ⟨c, e, fr, hs _ _ h, hv⟩
theorem Sat.cell {E : World} {Γ : List HP} {w : World} (h : Sat E Γ w) {b o : Nat} {v : Value} (hc : has Γ (fun m => cellAt m b o v)) : w.cell? ⟨b, o, none⟩ = some v := by
  obtain ⟨_, _, m, hm, hw⟩ := h
  obtain ⟨c, e, fr, h1, h2⟩ := hc m hm
  simp [World.cell?, hw _ _ h1, h2]
theorem Sat.block {E : World} {Γ : List HP} {w : World} (h : Sat E Γ w) {b i : Nat} {o : Obj} (hi : Γ[i]? = some (pt b o)) : w.heap[b]? = some o := by
  obtain ⟨_, _, m, hm, hw⟩ := h
  obtain ⟨x, y, hd, rfl, hx, _⟩ := all_front hi hm
  exact hw b o (by simp [Mem.join, hx b])
theorem heap_set (w : World) (b k : Nat) (o : Obj) (hk : k ≠ b) : (w.heap.setIfInBounds b o)[k]? = w.heap[k]? := by
  simp [Ne.symm hk]
/-- A block of one's own may be changed. -/
theorem Sat.put {E : World} {Γ : List HP} {w w' : World} (h : Sat E Γ w) {b i : Nat} {o o' : Obj} (hi : Γ[i]? = some (pt b o))
    (h1 : w'.os = w.os) (_ : w'.tape = w.tape) (h3 : w'.output = w.output) (h4 : w'.heap[b]? = some o') (h5 : ∀ k, k ≠ b → ∀ q, w.heap[k]? = some q → w'.heap[k]? = some q) :
    Sat E (Γ.set i (pt b o')) w' := by
  obtain ⟨g1, g3, m, hm, hw⟩ := h
  refine ⟨h1.trans g1, h3.trans g3, ?_⟩
  obtain ⟨x, y, hd, rfl, hx, hy⟩ := all_front hi hm
  have hyb : y b = none := by
    rcases hd b with h | h
    · rw [hx b] at h; simp at h
    · exact h
  refine ⟨Mem.join (fun k => if k = b then some o' else none) y, all_perm (perm_set _ hi).symm ⟨_, y, ?_, rfl, fun _ => rfl, hy⟩, ?_⟩
  · intro k
    by_cases hk : k = b
    · right; rw [hk]; exact hyb
    · left; simp [hk]
  · intro k q hq
    by_cases hk : k = b
    · subst hk; simp [Mem.join] at hq; rw [← hq]; exact h4
    · simp [Mem.join, hk] at hq
      exact h5 k hk q (hw k q (by simp [Mem.join, hx k, hk, hq]))
/-- New memory is a piece of its own. -/
theorem Sat.new {E : World} {Γ : List HP} {w w' : World} (h : Sat E Γ w) {b : Nat} {o : Obj}
    (h1 : w'.os = w.os) (_ : w'.tape = w.tape) (h3 : w'.output = w.output) (hb : w.heap[b]? = none) (h4 : w'.heap[b]? = some o) (h5 : ∀ (k : Nat) (q : Obj), w.heap[k]? = some q → w'.heap[k]? = some q) :
    Sat E (pt b o :: Γ) w' := by
  obtain ⟨g1, g3, m, hm, hw⟩ := h
  have hmb : m b = none := by
    cases hmb : m b with
    | none => rfl
    | some q => have := hw b q hmb; rw [hb] at this; cases this
  refine ⟨h1.trans g1, h3.trans g3, Mem.join (fun k => if k = b then some o else none) m, ⟨_, m, ?_, rfl, fun _ => rfl, hm⟩, ?_⟩
  · intro k
    by_cases hk : k = b
    · right; rw [hk]; exact hmb
    · left; simp [hk]
  · intro k q hq
    by_cases hk : k = b
    · subst hk; simp [Mem.join] at hq; rw [← hq]; exact h4
    · simp [Mem.join, hk] at hq
      exact h5 k q (hw k q hq)
theorem Sat.alloc {E : World} {Γ : List HP} {w : World} (h : Sat E Γ w) (o : Obj) : Sat E (pt w.heap.size o :: Γ) (w.alloc o) :=
  h.new rfl rfl rfl (by simp) (heap_alloc_new w o) fun k q hq => by
    have hk : k < w.heap.size := (Array.getElem?_eq_some_iff.1 hq).1
    rw [Below.heap_alloc w o k hk]; exact hq
theorem Sat.same {E : World} {Γ : List HP} {w w' : World} (h : Sat E Γ w) (h1 : w'.os = w.os) (_ : w'.tape = w.tape) (h3 : w'.output = w.output) (h4 : w'.heap = w.heap) : Sat E Γ w' := by
  obtain ⟨g1, g3, m, hm, hw⟩ := h
  exact ⟨h1.trans g1, h3.trans g3, m, hm, by rw [h4]; exact hw⟩
/-- Two worlds that differ in the tape alone. -/
theorem Sat.alike {E : World} {Γ : List HP} {w w' : World} (h : Sat E Γ w) (ha : w'.heap = w.heap ∧ w'.os = w.os ∧ w'.output = w.output) : Sat E Γ w' := by
  obtain ⟨g1, g3, m, hm, hw⟩ := h
  exact ⟨ha.2.1.trans g1, ha.2.2.trans g3, m, hm, by rw [ha.1]; exact hw⟩
end Go.Proofs.Ythbcfamfaicneaa.E
