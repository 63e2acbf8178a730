/- My own texts, one behind the other: Grb Grc Gwa Gwb Gwc Gwd Grd Gwe Gwf Gre M1 Gwg Gwh Gwi Grf Gwj0. -/
import Derived.Test.YtndmjpceocecdaaPg5
import Derived.Test.YtndmjpceocecdaaPg3
import Derived.Laws.Externs
import Derived.Stop.Asserts
import Derived.Lib.IfaceEq
import Derived.Lib.Overlaps
/- Parts of a graph, plainly: what the finder finds; in which order parts are told; there is one such order. -/
namespace Go.Proofs.Ytndmjpceocecdaa.E.Gph
variable {out : List (List Nat)}
/-- Nothing has been gone through yet. -/
def Ts.zero (n : Nat) : Ts := ⟨List.replicate n (0, 0), [], List.replicate n none, [], 0, []⟩
theorem Ts.zero_ord (n v : Nat) : (Ts.zero n).ord v = 0 := by
  simp only [Ts.ord, Ts.zero, List.getD_eq_getElem?_getD, List.getElem?_replicate]
  split <;> rfl
theorem Ts.zero_pt (n v : Nat) : (Ts.zero n).pt v = none := by
  simp only [Ts.pt, Ts.zero, List.getD_eq_getElem?_getD, List.getElem?_replicate]
  split <;> rfl
theorem Inv.zero (hok : ∀ v w, Edge out v w → w < out.length) : Inv out (Ts.zero out.length) where
  ok := hok
  lseen := List.length_replicate
  lof := List.length_replicate
  hiff v := ⟨fun h => (by cases h), fun h => absurd (Ts.zero_ord _ v) h.1⟩
  hsort := List.Pairwise.nil
  hord v := by rw [Ts.zero_ord]; exact Nat.zero_le _
  tsub := List.Sublist.refl _
  tnext x hx := by cases hx
  ptseen v k hk := by rw [Ts.zero_pt] at hk; cases hk
  ptiff v k := ⟨fun h => (by rw [Ts.zero_pt] at h; cases h), fun ⟨p, hp, _⟩ => (by cases hp)⟩
  pscc p hp := by cases hp
  closed v k w hk := by rw [Ts.zero_pt] at hk; cases hk
  gr v hv := by cases hv
  bk y hy := by cases hy
  lo v hv := by cases hv
  dseen y hy := by cases hy
  dlow v hv := by cases hv
/-- A node that nothing came to yet is where one begins. -/
theorem Inv.root {s : Ts} (h : Inv out s) (ht : s.todo = []) {v : Nat} (hv : v < out.length) (hu : s.ord v = 0) : Inv out (s.enter v []) := by
  have hg : s.gray = [] := by unfold Ts.gray; rw [ht]; rfl
  exact h.enter hv hu hg.symm (fun x hx => by cases hx) (fun g hgm => by rw [hg] at hgm; cases hgm) (fun x hx => by cases hx)
/-- A node that nothing came to yet is come to. -/
theorem Inv.push {s : Ts} (h : Inv out s) {T : List (Nat × Nat)} {a i to : Nat} (ht : s.todo = T ++ [(a, i)]) (he : (out.getD a [])[i]? = some to) (hu : s.ord to = 0) : Inv out (s.enter to (T ++ [(a, i + 1)])) := by
  obtain ⟨hag, _, _, htop⟩ := h.top ht
  have hE : Edge out a to := List.mem_of_getElem? he
  refine h.enter (h.ok _ _ hE) hu (by unfold Ts.gray; rw [ht]; simp) (fun x hx => ?_) (fun g hg => (h.gr g hg a (h.gmem hag) (htop g hg)).step hE) (fun x hx j hj w hw => ?_)
  · rcases List.mem_append.1 hx with hm | hm
    · exact h.tnext x (by rw [ht]; exact List.mem_append_left _ hm)
    · rw [List.mem_singleton] at hm
      subst hm
      exact (List.getElem?_eq_some_iff.1 he).1
  · rcases List.mem_append.1 hx with hm | hm
    · exact .inr ⟨x.2, by rw [ht]; exact List.mem_append_left _ hm, hj⟩
    · rw [List.mem_singleton] at hm
      subst hm
      by_cases hji : j = i
      · subst hji
        rw [he] at hw
        injection hw with hw
        exact .inl hw.symm
      · exact .inr ⟨i, by rw [ht]; simp, by simp only at hj; omega⟩
/-- What has been found, when all nodes have been come to. -/
structure Split (out : List (List Nat)) (of : List (Option Nat)) (parts : List (List Nat)) : Prop where
  ok : ∀ v w, Edge out v w → w < out.length
  len : of.length = out.length
  whole : ∀ v, v < out.length → ∃ k, of.getD v none = some k
  iff : ∀ v k, of.getD v none = some k ↔ ∃ p, parts[k]? = some p ∧ v ∈ p
  scc : ∀ p ∈ parts, p.Pairwise (· < ·) ∧ p ≠ [] ∧ ∀ v ∈ p, ∀ u, u ∈ p ↔ Rc (Edge out) v u ∧ Rc (Edge out) u v
  down : ∀ v k w, of.getD v none = some k → Edge out v w → ∃ j, j ≤ k ∧ of.getD w none = some j
theorem Inv.held_nil {s : Ts} (h : Inv out s) (ht : s.todo = []) : s.held = [] := by
  cases hh : s.held with
  | nil => rfl
  | cons a l =>
    obtain ⟨v, hv, _⟩ := h.bk a (by rw [hh]; exact List.mem_cons_self ..)
    unfold Ts.gray at hv
    rw [ht] at hv
    cases hv
theorem Inv.split {s : Ts} (h : Inv out s) (ht : s.todo = []) (ha : ∀ v, v < out.length → s.ord v ≠ 0) : Split out s.of s.parts where
  ok := h.ok
  len := h.lof
  whole v hv := by
    cases hp : s.of.getD v none with
    | some k => exact ⟨k, rfl⟩
    | none =>
      have := (h.hiff v).2 ⟨ha v hv, hp⟩
      rw [h.held_nil ht] at this
      cases this
  iff := h.ptiff
  scc := h.pscc
  down := h.closed
/-! ### the order in which parts are told -/
/-- Who waits for whom. -/
def Lead (out : List (List Nat)) (of : List (Option Nat)) (a b : Nat) : Prop := a ≠ b ∧ ∃ v w, Edge out v w ∧ of.getD v none = some a ∧ of.getD w none = some b
theorem Split.lt {of : List (Option Nat)} {parts : List (List Nat)} (h : Split out of parts) {v k : Nat} (hk : of.getD v none = some k) : k < parts.length := by
  obtain ⟨p, hp, _⟩ := (h.iff v k).1 hk
  exact (List.getElem?_eq_some_iff.1 hp).1
theorem Split.lead_lt {of : List (Option Nat)} {parts : List (List Nat)} (h : Split out of parts) {a b : Nat} (hl : Lead out of a b) : b < a ∧ a < parts.length := by
  obtain ⟨hne, v, w, he, hv, hw⟩ := hl
  obtain ⟨j, hj, hw'⟩ := h.down v a w hv he
  rw [hw] at hw'
  injection hw' with hw'
  exact ⟨by omega, h.lt hv⟩
def fst (parts : List (List Nat)) (k : Nat) : Nat := (parts.getD k []).headD 0
theorem Split.fst_mem {of : List (Option Nat)} {parts : List (List Nat)} (h : Split out of parts) {k : Nat} (hk : k < parts.length) : of.getD (fst parts k) none = some k := by
  refine (h.iff _ _).2 ⟨parts[k], List.getElem?_eq_getElem hk, ?_⟩
  unfold fst
  rw [List.getD_eq_getElem?_getD, List.getElem?_eq_getElem hk, Option.getD_some]
  have := (h.scc parts[k] (List.getElem_mem hk)).2.1
  cases hp : parts[k] with
  | nil => exact absurd hp this
  | cons a l => simp
theorem Split.fst_inj {of : List (Option Nat)} {parts : List (List Nat)} (h : Split out of parts) {k j : Nat} (hk : k < parts.length) (hj : j < parts.length) (e : fst parts k = fst parts j) : k = j := by
  have h1 := h.fst_mem hk
  rw [e, h.fst_mem hj] at h1
  injection h1 with h1
  exact h1.symm
/-- The list of the ready ones, while those are told: W who waits for whom. -/
structure KI (m : Nat) (f : Nat → Nat) (W : Nat → Nat → Prop) (O ready : List Nat) : Prop where
  sort : ready.Pairwise fun a b => f a < f b
  iff : ∀ k, k ∈ ready ↔ k < m ∧ k ∉ O ∧ ∀ b, ¬ W k b
/-- One more is ready. -/
def insR (f : Nat → Nat) (k at_ : Nat) (ready : List Nat) : List Nat := ready.take at_ ++ k :: ready.drop at_
def AtIs (f : Nat → Nat) (k at_ : Nat) (ready : List Nat) : Prop := at_ ≤ ready.length ∧ (∀ x ∈ ready.take at_, f x < f k) ∧ ∀ x ∈ ready.drop at_, f k ≤ f x
theorem insR_mem {f : Nat → Nat} {k at_ : Nat} {ready : List Nat} (x : Nat) : x ∈ insR f k at_ ready ↔ x = k ∨ x ∈ ready := by
  unfold insR
  rw [List.mem_append, List.mem_cons]
  conv => rhs; rw [← List.take_append_drop at_ ready, List.mem_append]
  constructor
  · rintro (h | h | h)
    · exact .inr (.inl h)
    · exact .inl h
    · exact .inr (.inr h)
  · rintro (h | h | h)
    · exact .inr (.inl h)
    · exact .inl h
    · exact .inr (.inr h)
theorem insR_sort {f : Nat → Nat} {k at_ : Nat} {ready : List Nat} (h : ready.Pairwise fun a b => f a < f b) (ha : AtIs f k at_ ready) (hk : ∀ x ∈ ready, f x ≠ f k) : (insR f k at_ ready).Pairwise fun a b => f a < f b := by
  obtain ⟨_, h1, h2⟩ := ha
  rw [← List.take_append_drop at_ ready, List.pairwise_append] at h
  unfold insR
  rw [List.pairwise_append, List.pairwise_cons]
  refine ⟨h.1, ⟨fun x hx => ?_, h.2.1⟩, fun a ha b hb => ?_⟩
  · have := h2 x hx
    have := hk x (List.mem_of_mem_drop hx)
    omega
  · rcases List.mem_cons.1 hb with rfl | hb
    · exact h1 a ha
    · exact h.2.2 a ha b hb
/-- The first ones: one by one those that wait for none. -/
theorem KI.begin {m : Nat} {f : Nat → Nat} {W : Nat → Nat → Prop} {ready : List Nat} {i at_ : Nat} (hW : ∀ b, ¬ W i b) (hi : i < m) (hf : ∀ k j, k < m → j < m → f k = f j → k = j)
    (hs : ready.Pairwise fun a b => f a < f b) (hr : ∀ k, k ∈ ready ↔ k < i ∧ ∀ b, ¬ W k b) (ha : AtIs f i at_ ready) :
    (insR f i at_ ready).Pairwise (fun a b => f a < f b) ∧ ∀ k, k ∈ insR f i at_ ready ↔ k < i + 1 ∧ ∀ b, ¬ W k b := by
  refine ⟨insR_sort hs ha fun x hx e => ?_, fun k => ?_⟩
  · have h1 := ((hr x).1 hx).1
    have := hf x i (by omega) hi e
    omega
  · rw [insR_mem, hr]
    constructor
    · rintro (rfl | ⟨h1, h2⟩)
      · exact ⟨by omega, hW⟩
      · exact ⟨by omega, h2⟩
    · rintro ⟨h1, h2⟩
      by_cases hk : k = i
      · exact .inl hk
      · exact .inr ⟨by omega, h2⟩
theorem KI.skip {m : Nat} {W : Nat → Nat → Prop} {ready : List Nat} {i : Nat} (hW : ¬ ∀ b, ¬ W i b) (hr : ∀ k, k ∈ ready ↔ k < i ∧ ∀ b, ¬ W k b) : ∀ k, k ∈ ready ↔ k < i + 1 ∧ ∀ b, ¬ W k b := fun k => by
  rw [hr]
  constructor
  · rintro ⟨h1, h2⟩; exact ⟨by omega, h2⟩
  · rintro ⟨h1, h2⟩
    by_cases hk : k = i
    · subst hk; exact absurd h2 hW
    · exact ⟨by omega, h2⟩
/-- One less is waited for: it may be ready. -/
theorem KI.less {m : Nat} {f : Nat → Nat} {W W' : Nat → Nat → Prop} {O ready : List Nat} {a k at_ : Nat} (h : KI m f W O ready) (hf : ∀ k j, k < m → j < m → f k = f j → k = j) (hak : W a k) (ham : a < m) (haO : a ∉ O)
    (hW : ∀ x b, W' x b ↔ W x b ∧ ¬ (x = a ∧ b = k)) : ((∀ b, ¬ W' a b) → AtIs f a at_ ready → KI m f W' O (insR f a at_ ready)) ∧ ((¬ ∀ b, ¬ W' a b) → KI m f W' O ready) := by
  have hna : a ∉ ready := fun hm => ((h.iff a).1 hm).2.2 k hak
  have hother : ∀ x, x ≠ a → ((∀ b, ¬ W' x b) ↔ ∀ b, ¬ W x b) := fun x hx => by
    refine forall_congr' fun b => not_congr ?_
    rw [hW]
    exact ⟨fun h => h.1, fun h => ⟨h, fun hc => hx hc.1⟩⟩
  refine ⟨fun he hat => ⟨insR_sort h.sort hat fun x hx e => ?_, fun x => ?_⟩, fun he => ⟨h.sort, fun x => ?_⟩⟩
  · have := hf x a ((h.iff x).1 hx).1 ham e
    subst this
    exact hna hx
  · rw [insR_mem]
    by_cases hx : x = a
    · subst hx
      exact ⟨fun _ => ⟨ham, haO, he⟩, fun _ => .inl rfl⟩
    · rw [hother x hx, h.iff]
      exact ⟨fun h => h.resolve_left hx, .inr⟩
  · by_cases hx : x = a
    · subst hx
      exact ⟨fun hm => absurd hm hna, fun hc => absurd hc.2.2 he⟩
    · rw [hother x hx, h.iff]
/-- What is told so far. -/
structure Told (out : List (List Nat)) (of : List (Option Nat)) (m : Nat) (f : Nat → Nat) (O : List Nat) : Prop where
  nodup : O.Nodup
  lt : ∀ k ∈ O, k < m
  down : ∀ i k, O[i]? = some k → ∀ b, Lead out of k b → b ∈ O.take i
  least : ∀ i k, O[i]? = some k → ∀ x, x < m → x ∉ O.take i → (∀ b, Lead out of x b → b ∈ O.take i) → f k ≤ f x
theorem Told.nil {of : List (Option Nat)} {m : Nat} {f : Nat → Nat} : Told out of m f [] := ⟨List.nodup_nil, fun k hk => (by cases hk), fun i k hk => (by cases hk), fun i k hk => (by cases hk)⟩
theorem Told.snoc {of : List (Option Nat)} {m : Nat} {f : Nat → Nat} {O ready : List Nat} {k : Nat} (h : Told out of m f O) (hk : KI m f (fun a b => Lead out of a b ∧ b ∉ O) O (k :: ready)) : Told out of m f (O ++ [k]) := by
  have hkk := (hk.iff k).1 (List.mem_cons_self ..)
  have hs := hk.sort
  rw [List.pairwise_cons] at hs
  refine ⟨?_, fun x hx => ?_, fun i x hx b hb => ?_, fun i x hx y hy hyO hyb => ?_⟩
  · rw [List.nodup_append]
    exact ⟨h.nodup, List.nodup_cons.2 ⟨List.not_mem_nil, List.nodup_nil⟩, fun a ha b hb e => by rw [List.mem_singleton] at hb; subst hb; exact hkk.2.1 (e ▸ ha)⟩
  · rcases List.mem_append.1 hx with hx | hx
    · exact h.lt x hx
    · rw [List.mem_singleton] at hx; rw [hx]; exact hkk.1
  · rw [List.getElem?_append] at hx
    split at hx
    · rename_i hi
      rw [List.take_append_of_le_length (by omega)]
      exact h.down i x hx b hb
    · rename_i hi
      obtain ⟨h1, h2⟩ := List.getElem?_eq_some_iff.1 hx
      simp only [List.length_singleton] at h1
      simp only [List.getElem_singleton] at h2
      subst h2
      rw [show i = O.length by omega, List.take_left]
      exact Classical.byContradiction fun hc => hkk.2.2 b ⟨hb, hc⟩
  · rw [List.getElem?_append] at hx
    split at hx
    · rename_i hi
      rw [List.take_append_of_le_length (by omega)] at hyO hyb
      exact h.least i x hx y hy hyO hyb
    · rename_i hi
      obtain ⟨h1, h2⟩ := List.getElem?_eq_some_iff.1 hx
      simp only [List.length_singleton] at h1
      simp only [List.getElem_singleton] at h2
      subst h2
      rw [show i = O.length by omega, List.take_left] at hyO hyb
      have hyr := (hk.iff y).2 ⟨hy, hyO, fun b hb => hb.2 (hyb b hb.1)⟩
      rcases List.mem_cons.1 hyr with rfl | hyr
      · exact Nat.le_refl _
      · exact Nat.le_of_lt (hs.1 y hyr)
theorem Told.whole {of : List (Option Nat)} {parts : List (List Nat)} (h : Split out of parts) {f : Nat → Nat} {O : List Nat} (hk : KI parts.length f (fun a b => Lead out of a b ∧ b ∉ O) O []) : ∀ k, k < parts.length → k ∈ O := fun k => by
  induction k using Nat.strongRecOn with
  | ind k ih =>
    intro hkm
    refine Classical.byContradiction fun hc => ?_
    have := (hk.iff k).2 ⟨hkm, hc, fun b hb => hb.2 (ih b (h.lead_lt hb.1).1 (by have := h.lead_lt hb.1; omega))⟩
    cases this
/-! ### parts as they are told -/
structure IsParts (E : Nat → Nat → Prop) (n : Nat) (L : List (List Nat)) : Prop where
  scc : ∀ p ∈ L, p.Pairwise (· < ·) ∧ p ≠ [] ∧ ∀ v ∈ p, v < n ∧ ∀ u, u ∈ p ↔ Rc E v u ∧ Rc E u v
  cover : ∀ v, v < n → ∃ p ∈ L, v ∈ p
  disj : L.Pairwise fun p q => ∀ v ∈ p, v ∉ q
  down : ∀ i p, L[i]? = some p → ∀ v ∈ p, ∀ w, Rc E v w → w ∈ (L.take (i + 1)).flatten
  least : ∀ i p, L[i]? = some p → ∀ x, x < n → x ∉ (L.take i).flatten → (∀ w, Rc E x w → w ∈ (L.take i).flatten ∨ Rc E w x) → p.headD 0 ≤ x
theorem rc_lt (hok : ∀ v w, Edge out v w → w < out.length) {v w : Nat} (h : Rc (Edge out) v w) (hv : v < out.length) : w < out.length := h.closed (C := fun x => x < out.length) (fun a b _ e => hok a b e) hv
theorem Told.parts {of : List (Option Nat)} {parts : List (List Nat)} (h : Split out of parts) {O : List Nat} (ht : Told out of parts.length (fst parts) O) (hw : ∀ k, k < parts.length → k ∈ O) : IsParts (Edge out) out.length (O.map fun k => parts.getD k []) := by
  have hget : ∀ k, k < parts.length → parts[k]? = some (parts.getD k []) := fun k hk => by rw [List.getD_eq_getElem?_getD, List.getElem?_eq_getElem hk]; rfl
  have hmem : ∀ k, k < parts.length → ∀ v, v ∈ parts.getD k [] ↔ of.getD v none = some k := fun k hk v => by
    rw [h.iff]
    constructor
    · intro hv; exact ⟨_, hget k hk, hv⟩
    · rintro ⟨p, hp, hv⟩
      rw [hget k hk] at hp
      injection hp with hp
      rw [hp]; exact hv
  have hlt : ∀ v k, of.getD v none = some k → v < out.length := fun v k hv => by
    rw [← h.len]
    apply Classical.byContradiction
    intro hc
    rw [List.getD_eq_getElem?_getD, List.getElem?_eq_none (by omega)] at hv
    cases hv
  have hfl : ∀ (Q : List Nat) v, (∀ k ∈ Q, k < parts.length) → (v ∈ (Q.map fun k => parts.getD k []).flatten ↔ ∃ k ∈ Q, of.getD v none = some k) := fun Q v hQ => by
    rw [List.mem_flatten]
    constructor
    · rintro ⟨p, hp, hv⟩
      obtain ⟨k, hk, rfl⟩ := List.mem_map.1 hp
      exact ⟨k, hk, (hmem k (hQ k hk) v).1 hv⟩
    · rintro ⟨k, hk, hv⟩
      exact ⟨_, List.mem_map_of_mem hk, (hmem k (hQ k hk) v).2 hv⟩
  have hOt : ∀ i, ∀ k ∈ O.take i, k < parts.length := fun i k hk => ht.lt k (List.mem_of_mem_take hk)
  have hscc : ∀ k, k < parts.length → ∀ v, of.getD v none = some k → ∀ u, of.getD u none = some k ↔ Rc (Edge out) v u ∧ Rc (Edge out) u v := fun k hk v hv u => by
    rw [← hmem k hk]
    exact (h.scc _ (List.mem_of_getElem? (hget k hk))).2.2 v ((hmem k hk v).2 hv) u
  refine ⟨fun p hp => ?_, fun v hv => ?_, ?_, fun i p hp v hv w hr => ?_, fun i p hp x hx hxf hxw => ?_⟩
  · obtain ⟨k, hk, rfl⟩ := List.mem_map.1 hp
    have hkm := ht.lt k hk
    obtain ⟨h1, h2, h3⟩ := h.scc _ (List.mem_of_getElem? (hget k hkm))
    exact ⟨h1, h2, fun v hv => ⟨hlt v k ((hmem k hkm v).1 hv), h3 v hv⟩⟩
  · obtain ⟨k, hk⟩ := h.whole v hv
    have hkm := h.lt hk
    exact ⟨_, List.mem_map_of_mem (hw k hkm), (hmem k hkm v).2 hk⟩
  · rw [List.pairwise_map]
    refine ht.nodup.imp_of_mem fun {a b} ha hb hab v hva hvb => ?_
    rw [hmem a (ht.lt a ha)] at hva
    rw [hmem b (ht.lt b hb)] at hvb
    rw [hva] at hvb
    injection hvb with hvb
    exact hab hvb
  · rw [List.getElem?_map] at hp
    obtain ⟨k, hk, rfl⟩ := Option.map_eq_some_iff.1 hp
    have hkm := ht.lt k (List.mem_of_getElem? hk)
    rw [← List.map_take, hfl _ _ (hOt _)]
    -- all that is told is closed
    have hv' := (hmem k hkm v).1 hv
    have hkt : k ∈ O.take (i + 1) := by
      rw [List.take_add_one, hk]; simp
    refine hr.closed (C := fun z => ∃ k ∈ O.take (i + 1), of.getD z none = some k) (fun a b ⟨ka, hka, ha⟩ e => ?_) ⟨k, hkt, hv'⟩
    obtain ⟨kb, _, hb⟩ := h.down a ka b ha e
    by_cases hab : ka = kb
    · exact ⟨ka, hka, by rw [hab]; exact hb⟩
    · obtain ⟨j, hj⟩ := List.getElem?_of_mem hka
      have hji := (List.getElem?_eq_some_iff.1 hj).1
      rw [List.length_take] at hji
      rw [List.getElem?_take] at hj
      split at hj
      · have := ht.down j ka hj kb ⟨hab, a, b, e, ha, hb⟩
        exact ⟨kb, (List.take_sublist_take_left (by omega)).subset this, hb⟩
      · cases hj
  · rw [List.getElem?_map] at hp
    obtain ⟨k, hk, rfl⟩ := Option.map_eq_some_iff.1 hp
    rw [← List.map_take, hfl _ _ (hOt _)] at hxf
    obtain ⟨kx, hkx⟩ := h.whole x hx
    have hkxm := h.lt hkx
    have hle := ht.least i k hk kx hkxm (fun hc => hxf ⟨kx, hc, hkx⟩) fun b ⟨hne, v, w, e, hv, hw'⟩ => ?_
    · have h1 : x ∈ parts.getD kx [] := (hmem kx hkxm x).2 hkx
      have h2 := (h.scc _ (List.mem_of_getElem? (hget kx hkxm))).1
      unfold fst at hle
      refine Nat.le_trans hle ?_
      cases hpx : parts.getD kx [] with
      | nil => rw [hpx] at h1; cases h1
      | cons a l =>
        rw [hpx] at h1 h2
        simp only [List.headD_cons]
        rw [List.pairwise_cons] at h2
        rcases List.mem_cons.1 h1 with rfl | h1
        · exact Nat.le_refl _
        · exact Nat.le_of_lt (h2.1 x h1)
    · have hxv := ((hscc kx hkxm x hkx v).1 hv).1
      rcases hxw w (hxv.step e) with hwf | hwx
      · rw [← List.map_take, hfl _ _ (hOt _)] at hwf
        obtain ⟨k', hk', hk''⟩ := hwf
        rw [hw'] at hk''
        injection hk'' with hk''
        rw [hk'']; exact hk'
      · have := (hscc kx hkxm x hkx w).2 ⟨hxv.step e, hwx⟩
        rw [hw'] at this
        injection this with this
        exact absurd this.symm hne
theorem sorted_ext : ∀ {p q : List Nat}, p.Pairwise (· < ·) → q.Pairwise (· < ·) → (∀ u, u ∈ p ↔ u ∈ q) → p = q
  | [], [], _, _, _ => rfl
  | [], b :: q, _, _, h => by have := (h b).2 (List.mem_cons_self ..); cases this
  | a :: p, [], _, _, h => by have := (h a).1 (List.mem_cons_self ..); cases this
  | a :: p, b :: q, hp, hq, h => by
    rw [List.pairwise_cons] at hp hq
    have hab : a = b := by
      have h1 := (h a).1 (List.mem_cons_self ..)
      have h2 := (h b).2 (List.mem_cons_self ..)
      rcases List.mem_cons.1 h1 with h1 | h1
      · exact h1
      · rcases List.mem_cons.1 h2 with h2 | h2
        · exact h2.symm
        · have := hq.1 a h1
          have := hp.1 b h2
          omega
    subst hab
    rw [sorted_ext hp.2 hq.2 fun u => ?_]
    have := h u
    rw [List.mem_cons, List.mem_cons] at this
    constructor
    · intro hu
      rcases this.1 (.inr hu) with rfl | h1
      · have := hp.1 _ hu; omega
      · exact h1
    · intro hu
      rcases this.2 (.inr hu) with rfl | h1
      · have := hq.1 _ hu; omega
      · exact h1
theorem head_mem {p : List Nat} (h : p ≠ []) : p.headD 0 ∈ p := by
  cases p with
  | nil => exact absurd rfl h
  | cons a l => simp
section
variable {E : Nat → Nat → Prop} {n : Nat} {L : List (List Nat)}
theorem IsParts.fresh (h : IsParts E n L) {i : Nat} {p : List Nat} (hp : L[i]? = some p) {v : Nat} (hv : v ∈ p) : v ∉ (L.take i).flatten := fun hc => by
  obtain ⟨q, hq, hvq⟩ := List.mem_flatten.1 hc
  have hd := h.disj
  rw [← List.take_append_drop i L, List.pairwise_append] at hd
  refine hd.2.2 q hq p ?_ v hvq hv
  have hi := (List.getElem?_eq_some_iff.1 hp).1
  rw [List.drop_eq_getElem_cons hi]
  have := (List.getElem?_eq_some_iff.1 hp).2
  rw [this]
  exact List.mem_cons_self ..
/-- The least one that is left and leads to no other one that is. -/
theorem IsParts.next (h : IsParts E n L) {i : Nat} {p : List Nat} (hp : L[i]? = some p) :
    p.headD 0 ∈ p ∧ p.headD 0 < n ∧ p.headD 0 ∉ (L.take i).flatten ∧ (∀ w, Rc E (p.headD 0) w → w ∈ (L.take i).flatten ∨ Rc E w (p.headD 0)) ∧ ∀ x, x < n → x ∉ (L.take i).flatten → (∀ w, Rc E x w → w ∈ (L.take i).flatten ∨ Rc E w x) → p.headD 0 ≤ x := by
  obtain ⟨_, h2, h3⟩ := h.scc p (List.mem_of_getElem? hp)
  have hm := head_mem h2
  refine ⟨hm, (h3 _ hm).1, h.fresh hp hm, fun w hw => ?_, h.least i p hp⟩
  have := h.down i p hp _ hm w hw
  rw [List.take_add_one, hp, Option.toList_some, List.flatten_append, List.mem_append] at this
  rcases this with h1 | h1
  · exact .inl h1
  · rw [List.flatten_singleton] at h1
    exact .inr ((h3 _ hm).2 w |>.1 h1).2
theorem IsParts.unique {L' : List (List Nat)} (h : IsParts E n L) (h' : IsParts E n L') : L = L' := by
  have key : ∀ {A B : List (List Nat)}, IsParts E n A → IsParts E n B → ∀ i, A.take i = B.take i → i < A.length → i < B.length ∧ A[i]? = B[i]? := fun {A B} hA hB i hi hl => by
    obtain ⟨p, hp⟩ : ∃ p, A[i]? = some p := ⟨A[i], List.getElem?_eq_getElem hl⟩
    obtain ⟨a1, a2, a3, a4, a5⟩ := hA.next hp
    have hlB : i < B.length := by
      apply Classical.byContradiction
      intro hc
      obtain ⟨q, hq, hv⟩ := hB.cover _ a2
      rw [hi, List.take_of_length_le (by omega)] at a3
      exact a3 (List.mem_flatten.2 ⟨q, hq, hv⟩)
    obtain ⟨q, hq⟩ : ∃ q, B[i]? = some q := ⟨B[i], List.getElem?_eq_getElem hlB⟩
    obtain ⟨b1, b2, b3, b4, b5⟩ := hB.next hq
    rw [hi] at a3 a4 a5
    have h1 := a5 _ b2 b3 b4
    have h2 := b5 _ a2 a3 a4
    have he : p.headD 0 = q.headD 0 := by omega
    refine ⟨hlB, ?_⟩
    rw [hp, hq]
    congr 1
    obtain ⟨p1, _, p3⟩ := hA.scc p (List.mem_of_getElem? hp)
    obtain ⟨q1, _, q3⟩ := hB.scc q (List.mem_of_getElem? hq)
    exact sorted_ext p1 q1 fun u => by rw [(p3 _ a1).2 u, (q3 _ b1).2 u, he]
  have ht : ∀ i, L.take i = L'.take i := fun i => by
    induction i with
    | zero => rfl
    | succ i ih =>
      rw [List.take_add_one, List.take_add_one, ih]
      congr 2
      by_cases hl : i < L.length
      · exact (key h h' i ih hl).2
      · by_cases hl' : i < L'.length
        · have := (key h' h i ih.symm hl').1
          omega
        · rw [List.getElem?_eq_none (by omega), List.getElem?_eq_none (by omega)]
  have := ht (max L.length L'.length)
  rwa [List.take_of_length_le (by omega), List.take_of_length_le (by omega)] at this
end
end Go.Proofs.Ytndmjpceocecdaa.E.Gph

/- Parts of a graph, plainly: which part has a node; edges turned round; an edge more. -/
namespace Go.Proofs.Ytndmjpceocecdaa.E.Gph
/-- Edges as they are handed in. -/
def El (es : List (Nat × Nat)) (v w : Nat) : Prop := (v, w) ∈ es
theorem IsParts.congr {E E' : Nat → Nat → Prop} {n : Nat} {L : List (List Nat)} (h : IsParts E n L) (he : ∀ v w, Rc E v w ↔ Rc E' v w) : IsParts E' n L where
  scc p hp := by
    obtain ⟨h1, h2, h3⟩ := h.scc p hp
    exact ⟨h1, h2, fun v hv => ⟨(h3 v hv).1, fun u => by rw [← he, ← he]; exact (h3 v hv).2 u⟩⟩
  cover := h.cover
  disj := h.disj
  down i p hp v hv w hw := h.down i p hp v hv w ((he _ _).2 hw)
  least i p hp x hx hf hw := h.least i p hp x hx hf fun w hr => by
    rcases hw w ((he _ _).1 hr) with h1 | h1
    · exact .inl h1
    · exact .inr ((he _ _).2 h1)
section
variable {E : Nat → Nat → Prop} {n : Nat} {L : List (List Nat)}
/-- Which part has a node. -/
def pix (L : List (List Nat)) (v : Nat) : Nat := L.findIdx fun p => decide (v ∈ p)
theorem IsParts.pix_lt (h : IsParts E n L) {v : Nat} (hv : v < n) : pix L v < L.length := by
  obtain ⟨p, hp, hm⟩ := h.cover v hv
  exact List.findIdx_lt_length_of_exists ⟨p, hp, decide_eq_true hm⟩
theorem IsParts.pix_mem (h : IsParts E n L) {v : Nat} (hv : v < n) : ∃ p, L[pix L v]? = some p ∧ v ∈ p := by
  have hl := h.pix_lt hv
  refine ⟨L[pix L v], List.getElem?_eq_getElem hl, ?_⟩
  have := List.findIdx_getElem (p := fun p => decide (v ∈ p)) (xs := L) (w := hl)
  exact of_decide_eq_true this
theorem IsParts.ix_uniq (h : IsParts E n L) {i j v : Nat} {p q : List Nat} (hp : L[i]? = some p) (hq : L[j]? = some q) (h1 : v ∈ p) (h2 : v ∈ q) : i = j := by
  have key : ∀ {i j : Nat} {p q : List Nat}, L[i]? = some p → L[j]? = some q → v ∈ p → v ∈ q → ¬ i < j := fun {i j p q} hp hq h1 h2 hij => by
    refine h.fresh hq h2 (List.mem_flatten.2 ⟨p, ?_, h1⟩)
    exact List.mem_of_getElem? (i := i) (by rw [List.getElem?_take, if_pos hij]; exact hp)
  have a := key hp hq h1 h2
  have b := key hq hp h2 h1
  omega
theorem IsParts.pix_of (h : IsParts E n L) {i v : Nat} {p : List Nat} (hp : L[i]? = some p) (h1 : v ∈ p) : pix L v = i := by
  have hv := ((h.scc p (List.mem_of_getElem? hp)).2.2 v h1).1
  obtain ⟨q, hq, h2⟩ := h.pix_mem hv
  exact h.ix_uniq hq hp h2 h1
theorem IsParts.pix_same (h : IsParts E n L) {u v : Nat} (hu : u < n) (hv : v < n) : pix L u = pix L v ↔ Rc E v u ∧ Rc E u v := by
  obtain ⟨p, hp, h1⟩ := h.pix_mem hu
  obtain ⟨q, hq, h2⟩ := h.pix_mem hv
  constructor
  · intro e
    rw [e, hq] at hp
    injection hp with hp
    subst hp
    exact (((h.scc q (List.mem_of_getElem? hq)).2.2 v h2).2 u).1 h1
  · intro e
    have := (((h.scc q (List.mem_of_getElem? hq)).2.2 v h2).2 u).2 e
    exact h.ix_uniq hp hq h1 this
theorem IsParts.pix_down (h : IsParts E n L) {u v : Nat} (hu : u < n) (hv : v < n) (e : Rc E u v) : pix L v ≤ pix L u := by
  obtain ⟨p, hp, h1⟩ := h.pix_mem hu
  obtain ⟨q, hq, h2⟩ := List.mem_flatten.1 (h.down _ p hp u h1 v e)
  obtain ⟨i, hi⟩ := List.getElem?_of_mem hq
  rw [List.getElem?_take] at hi
  split at hi
  · have := h.pix_of hi h2
    omega
  · cases hi
theorem IsParts.nodup (h : IsParts E n L) : L.Nodup := h.disj.imp_of_mem fun {p q} hp _ hpq e => by
  have := head_mem (h.scc p hp).2.1
  exact hpq _ this (e ▸ this)
end
/-! ### edges turned round -/
theorem rc_turn {E : Nat → Nat → Prop} {u v : Nat} (h : Rc E u v) : Rc (fun a b => E b a) v u := by
  induction h with
  | refl => exact .refl _
  | step _ e ih => exact (Rc.one (E := fun a b => E b a) e).trans ih
theorem turned_mem {E : Nat → Nat → Prop} {n : Nat} {L M : List (List Nat)} (h : IsParts E n L) (hm : IsParts (fun a b => E b a) n M) {p : List Nat} (hp : p ∈ L) : p ∈ M := by
  obtain ⟨h1, h2, h3⟩ := h.scc p hp
  have hv := head_mem h2
  obtain ⟨hn, hmm⟩ := h3 _ hv
  obtain ⟨q, hq, hvq⟩ := hm.cover _ hn
  obtain ⟨q1, _, q3⟩ := hm.scc q hq
  rw [sorted_ext h1 q1 fun u => ?_]
  · exact hq
  · rw [hmm, (q3 _ hvq).2 u]
    constructor
    · rintro ⟨a, b⟩; exact ⟨rc_turn b, rc_turn a⟩
    · rintro ⟨a, b⟩; exact ⟨rc_turn b, rc_turn a⟩
theorem turned_len {E : Nat → Nat → Prop} {n : Nat} {L M : List (List Nat)} (h : IsParts E n L) (hm : IsParts (fun a b => E b a) n M) : L.length = M.length :=
  ((List.perm_ext_iff_of_nodup h.nodup hm.nodup).2 fun _ => ⟨fun hp => turned_mem h hm hp, fun hp => turned_mem hm h hp⟩).length_eq
/-! ### an edge more -/
theorem rc_mono {E E' : Nat → Nat → Prop} (he : ∀ v w, E v w → E' v w) {u v : Nat} (h : Rc E u v) : Rc E' u v := by
  induction h with
  | refl => exact .refl _
  | step _ e ih => exact ih.step (he _ _ e)
/-- An edge more between nodes of which one came to the other turns nothing. -/
theorem rc_more {E : Nat → Nat → Prop} {a b : Nat} (hab : Rc E a b) (v w : Nat) : Rc E v w ↔ Rc (fun x y => E x y ∨ (x = a ∧ y = b)) v w := by
  constructor
  · exact rc_mono fun _ _ => .inl
  · intro h
    induction h with
    | refl => exact .refl _
    | step _ e ih =>
      rcases e with e | ⟨rfl, rfl⟩
      · exact ih.step e
      · exact ih.trans hab
/-- With an edge more from a to b: what b comes to with it, ending at a, it came to without. -/
theorem rc_back {E : Nat → Nat → Prop} {a b v : Nat} (h : Rc (fun x y => E x y ∨ (x = a ∧ y = b)) b v) : Rc E b v ∨ Rc E b a := by
  induction h with
  | refl => exact .inl (.refl _)
  | step _ e ih =>
    rcases ih with ih | ih
    · rcases e with e | ⟨rfl, rfl⟩
      · exact .inl (ih.step e)
      · exact .inr ih
    · exact .inr ih
theorem nodup_len {l : List Nat} {n : Nat} (h : l.Nodup) (hl : ∀ x ∈ l, x < n) : l.length ≤ n := by
  have := ((List.perm_ext_iff_of_nodup h (List.nodup_range.filter (fun x => decide (x ∈ l)) (l := List.range n))).2 fun x => by
    rw [List.mem_filter, List.mem_range, decide_eq_true_iff]
    exact ⟨fun hx => ⟨hl x hx, hx⟩, And.right⟩).length_eq
  rw [this]
  refine Nat.le_trans (List.length_filter_le _ _) ?_
  rw [List.length_range]
  exact Nat.le_refl _
theorem more_len {E E' : Nat → Nat → Prop} {n : Nat} {L M : List (List Nat)} (h : IsParts E n L) (hm : IsParts E' n M) (he : ∀ v w, Rc E v w → Rc E' v w) : M.length ≤ L.length := by
  have hnd : (M.map fun p => pix L (p.headD 0)).Nodup := by
    unfold List.Nodup
    rw [List.pairwise_map]
    refine hm.disj.imp_of_mem fun {p q} hp hq hd e => ?_
    obtain ⟨_, p2, p3⟩ := hm.scc p hp
    obtain ⟨_, q2, q3⟩ := hm.scc q hq
    have p4 := head_mem p2
    have q4 := head_mem q2
    obtain ⟨e1, e2⟩ := (h.pix_same (p3 _ p4).1 (q3 _ q4).1).1 e
    exact hd _ p4 (((q3 _ q4).2 _).2 ⟨he _ _ e1, he _ _ e2⟩)
  have hsub : ∀ x ∈ M.map fun p => pix L (p.headD 0), x ∈ List.range L.length := fun x hx => by
    obtain ⟨p, hp, rfl⟩ := List.mem_map.1 hx
    obtain ⟨_, h2, h3⟩ := hm.scc p hp
    exact List.mem_range.2 (h.pix_lt (h3 _ (head_mem h2)).1)
  have := nodup_len hnd fun x hx => List.mem_range.1 (hsub x hx)
  simpa using this
/-! ### the closure in rounds: who is come to -/
/-- No edge at all: each node is a part. -/
theorem no_edges {E : Nat → Nat → Prop} {n : Nat} {L : List (List Nat)} (h : IsParts E n L) (he : ∀ v w, ¬ E v w) : L.length = n := by
  have hrc : ∀ v w, Rc E v w → w = v := fun v w hr => by
    cases hr with
    | refl => rfl
    | step _ e => exact absurd e (he _ _)
  have h1 : (L.map fun p => p.headD 0).Nodup := by
    unfold List.Nodup
    rw [List.pairwise_map]
    refine h.disj.imp_of_mem fun {p q} hp hq hd e => ?_
    have p4 := head_mem (h.scc p hp).2.1
    exact hd _ p4 (e ▸ head_mem (h.scc q hq).2.1)
  have h2 : ∀ x, x ∈ (L.map fun p => p.headD 0) ↔ x ∈ List.range n := fun x => by
    rw [List.mem_range, List.mem_map]
    constructor
    · rintro ⟨p, hp, rfl⟩
      obtain ⟨_, h2, h3⟩ := h.scc p hp
      exact (h3 _ (head_mem h2)).1
    · intro hx
      obtain ⟨p, hp, hm⟩ := h.cover x hx
      obtain ⟨_, h2, h3⟩ := h.scc p hp
      exact ⟨p, hp, (hrc _ _ (((h3 x hm).2 _).1 (head_mem h2)).1)⟩
  have := ((List.perm_ext_iff_of_nodup h1 List.nodup_range).2 h2).length_eq
  simpa using this
end Go.Proofs.Ytndmjpceocecdaa.E.Gph

/- slices.Index, Contains, Sorted(Values) at numbers; which part has a node: walked. -/
namespace Go.Proofs.Ytndmjpceocecdaa.E
open Go Go.RowKit Go.Proofs
attribute [local irreducible] TK TL TQ TA TB Fn PV
/-- The place of the first one; -1: there is none. -/
def IdxIs (l : List Nat) (v r : Int) : Prop := (∃ i : Nat, r = (i : Int) ∧ (∃ x, l[i]? = some x ∧ v = (x : Int)) ∧ ∀ x ∈ l.take i, v ≠ (x : Int)) ∨ (r = -1 ∧ ∀ x ∈ l, v ≠ (x : Int))
theorem IdxIs.has {l : List Nat} {v r : Int} (h : IdxIs l v r) : decide (0 ≤ r) = l.any fun x => decide (v = (x : Int)) := by
  rw [Bool.eq_iff_iff, decide_eq_true_iff, List.any_eq_true]
  rcases h with ⟨i, rfl, ⟨x, hx, hv⟩, _⟩ | ⟨rfl, h⟩
  · exact ⟨fun _ => ⟨x, List.mem_of_getElem? hx, decide_eq_true hv⟩, fun _ => by omega⟩
  · exact ⟨fun h0 => by omega, fun ⟨x, hx, hv⟩ => absurd (of_decide_eq_true hv) (h x hx)⟩
set_option maxRecDepth 100000 in
theorem idx_t (A : Option Addr) (c : Nat) (l : List Nat) (v : Int) (Γ : List HP) (hs : has Γ (srcAt 1 A l.length (ints l))) (hn : l.length ≤ 1000000000) :
    FnV Try.prog 76 [.slice A l.length c, .int .i64 v] Γ fun r Γ' => (∃ k, r = .int .i64 k ∧ IdxIs l v k) ∧ Γ' = Γ := by
  refine Fn.enter Try.func76 rfl rfl rfl fun E => ?_
  refine m_run ?_
  apply TK.iter (fun j ρ' Γ' => ∃ i : Nat, i + j = l.length ∧ (∀ x ∈ l.take i, v ≠ (x : Int)) ∧ lk ρ' 0 = .slice A l.length c ∧ lk ρ' 1 = .int .i64 v ∧ lk ρ' 7 = .int .i64 (l.length : Int) ∧ lk ρ' 8 = .int .i64 (i : Int) ∧ Γ' = Γ) l.length
  · exact ⟨0, Nat.zero_add _, by simp, rfl, rfl, rfl, rfl, rfl⟩
  rintro j IH ρ' Γ ⟨i, hij, hno, e0, e1, e7, e8, rfl⟩
  refine TK.know4 e0 e1 e7 e8 ?_
  by_cases hi : i < l.length
  · obtain ⟨x, hx⟩ : ∃ x, l[i]? = some x := ⟨l[i], List.getElem?_eq_getElem hi⟩
    refine TK.mem fun m0 hm0 => ?_
    obtain ⟨g, u, rfl⟩ := src_some (hs m0 hm0) (by rw [ints_len]; omega)
    clear hm0 m0
    have hcx := has_ints hs hx
    refine m_run ?_
    by_cases hxv : v = (x : Int)
    · refine m_run ?_
      (apply TK.ret1; exact rfl; exact rfl; (exact m_val))
      exact ⟨_, rfl, ⟨_, rfl, .inl ⟨i, rfl, ⟨x, hx, hxv⟩, hno⟩⟩, rfl⟩
    · refine m_run ?_
      refine IH (j - 1) _ _ (by omega) ⟨i + 1, by omega, ?_, rfl, rfl, rfl, congrArg (Value.int .i64) (i64_succ i (by omega)), rfl⟩
      rw [List.take_add_one, hx]
      intro y hy
      rcases List.mem_append.1 hy with h | h
      · exact hno y h
      · rw [Option.toList_some, List.mem_singleton] at h
        rw [h]; exact hxv
  obtain rfl : i = l.length := by omega
  rw [List.take_length] at hno
  refine m_run ?_
  (apply TK.ret1; exact rfl; exact rfl; (exact m_val))
  exact ⟨_, rfl, ⟨_, rfl, .inr ⟨rfl, hno⟩⟩, rfl⟩
set_option maxRecDepth 100000 in
theorem contI_t (A : Option Addr) (c : Nat) (l : List Nat) (v : Int) (Γ : List HP) (hs : has Γ (srcAt 1 A l.length (ints l))) (hn : l.length ≤ 1000000000) :
    FnV Try.prog 56 [.slice A l.length c, .int .i64 v] Γ fun r Γ' => r = .bool (l.any fun x => decide (v = (x : Int))) ∧ Γ' = Γ := by
  refine Fn.enter Try.func56 rfl rfl rfl fun E => ?_
  refine m_run ?_
  (apply TL.callV; exact rfl; exact callB_of (by kernel_rfl); exact rfl; exact fun _ h => h)
  exact idx_t A c l v _ hs hn
  rintro _ _ ⟨⟨k, rfl, hk⟩, rfl⟩
  refine m_run ?_
  (apply TK.ret1; exact rfl; exact rfl; exact rfl)
  exact ⟨_, rfl, congrArg Value.bool hk.has, rfl⟩
/-! ### slices of rows, that are only read -/
/-- A slice of rows of numbers: read only. -/
structure Rows (A : Option Addr) (l : List Rw) (Γ : List HP) : Prop where
  src : has Γ (srcAt 1 A l.length (l.map Rw.v))
  row : ∀ r ∈ l, has Γ (srcAt 1 r.A r.w.length (ints r.w))
theorem Rows.sub {A : Option Addr} {l : List Rw} {Γ Δ : List HP} (h : Rows A l Γ) (hs : Γ.Sublist Δ) : Rows A l Δ := ⟨has_sublist (up_src _ _ _ _) hs h.src, fun r hr => has_sublist (up_src _ _ _ _) hs (h.row r hr)⟩
theorem Rows.tl {A : Option Addr} {l : List Rw} {Γ : List HP} {H : HP} (h : Rows A l Γ) : Rows A l (H :: Γ) := h.sub (.cons _ (.refl _))
theorem has_v {Γ : List HP} {b o n i : Nat} {l : List Value} {v : Value} (h : has Γ (srcAt 1 (some ⟨b, o, none⟩) n l)) (hi : l[i]? = some v) : has Γ (fun m => cellAt m b (o + i) v) := fun m hm => by
  rcases (h m hm).2 with h | ⟨b', o', e, h⟩
  · rw [h] at hi; cases hi
  · injection e with e; injection e with e1 e2 _
    subst e1; subst e2
    exact h i _ hi
theorem Rows.v {A : Option Addr} {l : List Rw} {Γ : List HP} {b o i : Nat} {r : Rw} (h : Rows A l Γ) (hA : A = some ⟨b, o, none⟩) (hr : l[i]? = some r) : has Γ (fun m => cellAt m b (o + i) r.v) := by
  subst hA
  exact has_v h.src (by rw [List.getElem?_map, hr]; rfl)
theorem Rows.some {A : Option Addr} {l : List Rw} {Γ : List HP} {m : Mem} (h : Rows A l Γ) (hm : all Γ m) (hl : 0 < l.length) : ∃ b o, A = Option.some ⟨b, o, none⟩ := src_some (h.src m hm) (by rw [List.length_map]; exact hl)
/-- Which row has a number; -1: none. -/
def PartIs (l : List (List Nat)) (v r : Int) : Prop := (∃ i : Nat, r = (i : Int) ∧ (∃ p, l[i]? = some p ∧ ∃ x : Nat, v = (x : Int) ∧ x ∈ p) ∧ ∀ p ∈ l.take i, ∀ x ∈ p, v ≠ (x : Int)) ∨ (r = -1 ∧ ∀ p ∈ l, ∀ x ∈ p, v ≠ (x : Int))
set_option maxRecDepth 100000 in
theorem idxRows_t (b : Nat) (A : Option Addr) (c : Nat) (l : List Rw) (v : Int) (Γ : List HP) (hs : Rows A l Γ) (hb : has Γ (fun m => cellAt m b 0 (.int .i64 v))) (hn : l.length ≤ 1000000000) (hrn : ∀ r ∈ l, r.w.length ≤ 1000000000) :
    FnV Try.prog 54 [.slice A l.length c, .func (.func 55) #[] #[.pointer (some ⟨b, 0, none⟩)]] Γ fun r Γ' => (∃ k, r = .int .i64 k ∧ PartIs (l.map Rw.w) v k) ∧ Γ' = Γ := by
  have part1 : ∀ r ∈ l, FnV Try.prog 55 [r.v, .pointer (some ⟨b, 0, none⟩)] Γ fun u Γ' => u = .bool (r.w.any fun x => decide (v = (x : Int))) ∧ Γ' = Γ := fun r hr => by
    unfold Rw.v
    refine Fn.enter Try.func55 rfl rfl rfl fun E => ?_
    refine m_run ?_
    (apply TL.callV; exact rfl; exact callB_of (by kernel_rfl); exact rfl; exact fun _ h => h)
    exact contI_t r.A r.c r.w v _ (hs.row r hr) (hrn r hr)
    rintro _ _ ⟨rfl, rfl⟩
    refine m_run ?_
    (apply TK.ret1; exact rfl; exact rfl; exact rfl)
    exact ⟨_, rfl, rfl, rfl⟩
  refine Fn.enter Try.func54 rfl rfl rfl fun E => ?_
  refine m_run ?_
  apply TK.iter (fun j ρ' Γ' => ∃ i : Nat, i + j = l.length ∧ (∀ p ∈ (l.map Rw.w).take i, ∀ x ∈ p, v ≠ (x : Int)) ∧ lk ρ' 0 = .slice A l.length c ∧ lk ρ' 1 = .func (.func 55) #[] #[.pointer (some ⟨b, 0, none⟩)] ∧ lk ρ' 7 = .int .i64 (l.length : Int) ∧ lk ρ' 8 = .int .i64 (i : Int) ∧ Γ' = Γ) l.length
  · exact ⟨0, Nat.zero_add _, by simp, rfl, rfl, rfl, rfl, rfl⟩
  rintro j IH ρ' Γ ⟨i, hij, hno, e0, e1, e7, e8, rfl⟩
  refine TK.know4 e0 e1 e7 e8 ?_
  by_cases hi : i < l.length
  · obtain ⟨r, hr⟩ : ∃ r, l[i]? = some r := ⟨l[i], List.getElem?_eq_getElem hi⟩
    refine TK.mem fun m0 hm0 => ?_
    obtain ⟨g, u, rfl⟩ := hs.some hm0 (by omega)
    clear hm0 m0
    have hcx := hs.v rfl hr
    have hrw : (l.map Rw.w)[i]? = some r.w := by rw [List.getElem?_map, hr]; rfl
    refine m_run ?_
    (apply TL.callFV (fs := []) (cs := [.pointer (some ⟨b, 0, none⟩)]); exact rfl; exact rfl; exact callB_of (by kernel_rfl); exact rfl; exact fun _ h => h)
    exact part1 r (List.mem_of_getElem? hr)
    rintro _ _ ⟨rfl, rfl⟩
    cases hp : r.w.any fun x => decide (v = (x : Int)) with
    | true =>
      refine m_run ?_
      (apply TK.ret1; exact rfl; exact rfl; (exact m_val))
      obtain ⟨x, hx, hv⟩ := List.any_eq_true.1 hp
      exact ⟨_, rfl, ⟨_, rfl, .inl ⟨i, rfl, ⟨_, hrw, x, of_decide_eq_true hv, hx⟩, hno⟩⟩, rfl⟩
    | false =>
      refine m_run ?_
      refine IH (j - 1) _ _ (by omega) ⟨i + 1, by omega, ?_, rfl, rfl, rfl, congrArg (Value.int .i64) (i64_succ i (by omega)), rfl⟩
      rw [List.take_add_one, hrw]
      intro p hpm x hx hv
      rcases List.mem_append.1 hpm with h | h
      · exact hno p h x hx hv
      · rw [Option.toList_some, List.mem_singleton] at h
        subst h
        have := List.any_eq_false.1 hp x hx
        exact this (decide_eq_true hv)
  obtain rfl : i = l.length := by omega
  rw [List.take_of_length_le (by simp)] at hno
  refine m_run ?_
  (apply TK.ret1; exact rfl; exact rfl; (exact m_val))
  exact ⟨_, rfl, ⟨_, rfl, .inr ⟨rfl, hno⟩⟩, rfl⟩
set_option maxRecDepth 100000 in
/-- graph.Part. -/
theorem part_t (A : Option Addr) (c : Nat) (l : List Rw) (v : Int) (Γ : List HP) (hs : Rows A l Γ) (hn : l.length ≤ 1000000000) (hrn : ∀ r ∈ l, r.w.length ≤ 1000000000) :
    FnV Try.prog 26 [.slice A l.length c, .int .i64 v] Γ fun r Γ' => (∃ k, r = .int .i64 k ∧ PartIs (l.map Rw.w) v k) ∧ Γ' = Γ := by
  refine Fn.enter Try.func26 rfl rfl rfl fun E => ?_
  refine m_run ?_
  (apply TL.box; exact rfl; exact rfl; (exact m_lst))
  intro b
  refine m_run ?_
  (apply TL.pv; exact rfl; (apply PV.makeFunc (fs := []) (cs := [.pointer (some ⟨b, 0, none⟩)]); exact rfl; exact rfl))
  refine m_run ?_
  (apply TL.callV; exact rfl; exact callB_of (by kernel_rfl); exact rfl; exact fun _ h => h)
  exact idxRows_t b A c l v _ hs.tl (has_row 0 rfl rfl) hn hrn
  rintro _ _ ⟨⟨k, rfl, hk⟩, rfl⟩
  refine m_run ?_
  (apply TK.retS1; exact rfl; exact rfl; exact rfl)
  · exact ⟨_, rfl, ⟨_, rfl, hk⟩, rfl⟩
  · exact .cons _ (.refl _)
end Go.Proofs.Ytndmjpceocecdaa.E

/- slices.Sorted(slices.Values(..)) at numbers: walked. -/
namespace Go.Proofs.Ytndmjpceocecdaa.E
open Go Go.RowKit Go.Proofs
attribute [local irreducible] TK TL TQ TA TB Fn PV
theorem nums_ints (D : List Nat) : nums .i64 (D.map fun n : Nat => (n : Int)) = ints D := by simp [nums, Function.comp_def]
theorem sortI_t (A : Option Addr) (c : Nat) (D : List Nat) (Γ : List HP) (hn : D.length ≤ 1000000000) :
    FnV Try.prog 94 [.slice A D.length c] (own 3 1 (.slice A D.length c) D.length (ints D) :: Γ)
      fun v Γ' => v = .tuple #[] ∧ ∃ D' : List Nat, D'.Perm D ∧ D'.Pairwise (· ≤ ·) ∧ Γ' = own 3 1 (.slice A D.length c) D.length (ints D') :: Γ := by
  have h := SI.sort_t A c (D.map fun n : Nat => (n : Int)) Γ (by rw [List.length_map]; exact hn)
  rw [nums_ints, List.length_map] at h
  refine Fn.mono h ?_
  rintro e Γ' ⟨v, rfl, rfl, D', hp, hs, rfl⟩
  have h1 : (D'.map Int.toNat).map (fun n : Nat => (n : Int)) = D' := by
    rw [List.map_map]
    conv => rhs; rw [← List.map_id D']
    refine List.map_congr_left fun x hx => ?_
    obtain ⟨y, _, rfl⟩ := List.mem_map.1 (hp.mem_iff.1 hx)
    simp
  refine ⟨_, rfl, rfl, D'.map Int.toNat, ?_, ?_, ?_⟩
  · have := hp.map Int.toNat
    rw [List.map_map] at this
    simpa [Function.comp_def] using this
  · rw [List.pairwise_map]
    exact hs.imp fun h => by omega
  · rw [← nums_ints, h1]
/-- The iterator over a row. -/
theorem values1_t (l : Nat) (D : LD) (hD : D.ps.size = 1) (vb : Nat) (A : Option Addr) (c : Nat) (L : List Nat) (hn : L.length ≤ 1000000000) (S : List Nat → List HP → Prop) (hS : ∀ pre Δ, S pre Δ → has Δ (srcAt 1 A L.length (ints L)))
    (round : ∀ (pre : List Nat) (x : Nat) (Δ : List HP), pre.length < L.length → S pre Δ → Rnd Try.prog l D [.int .i64 (x : Int)] (loopA l D .ready none :: row vb [.slice A L.length c] 54 :: Δ) fun t Γ' => t = true ∧ ∃ Δ', S (pre ++ [x]) Δ' ∧ Γ' = loopA l D .ready none :: row vb [.slice A L.length c] 54 :: Δ')
    (Δ : List HP) (h0 : S [] Δ) :
    FnV Try.prog 95 [.func (.yield l) #[] #[], .pointer (some ⟨vb, 0, none⟩)] (loopA l D .ready none :: row vb [.slice A L.length c] 54 :: Δ) fun _ Γ' => ∃ Δ', S L Δ' ∧ Γ' = loopA l D .ready none :: row vb [.slice A L.length c] 54 :: Δ' := by
  refine Fn.enterIn Try.func95 rfl rfl rfl fun E => ?_
  refine m_run ?_
  apply TK.iter (fun j ρ' Γ' => ∃ (i : Nat) (Δ' : List HP), i + j = L.length ∧ S (L.take i) Δ' ∧ lk ρ' 0 = .func (.yield l) #[] #[] ∧ lk ρ' 5 = .slice A L.length c ∧ lk ρ' 6 = .int .i64 (L.length : Int) ∧ lk ρ' 7 = .int .i64 (i : Int) ∧ Γ' = loopA l D .ready none :: row vb [.slice A L.length c] 54 :: Δ') L.length
  · exact ⟨0, Δ, Nat.zero_add _, h0, rfl, rfl, rfl, rfl, rfl⟩
  rintro j IH ρ' _ ⟨i, Δ', hij, hSi, e0, e5, e6, e7, rfl⟩
  refine TK.know4 e0 e5 e6 e7 ?_
  by_cases hi : i < L.length
  · obtain ⟨x, hx⟩ : ∃ x, L[i]? = some x := ⟨L[i], List.getElem?_eq_getElem hi⟩
    have hs := hS _ _ hSi
    refine TK.mem fun m0 hm0 => ?_
    obtain ⟨g, u, rfl⟩ := src_some ((has_tls (has_tls hs) : has (loopA l D .ready none :: row vb [.slice A L.length c] 54 :: Δ') _) m0 hm0) (by rw [ints_len]; omega)
    clear hm0 m0
    have hcx := has_ints hs hx
    refine m_run ?_
    (apply TL.yield 0; exact rfl; exact rfl; exact rfl; exact rfl; exact rfl; exact (by simp [hD]); exact round (L.take i) x Δ' (by rw [List.length_take]; omega) hSi)
    rintro _ _ ⟨rfl, Δ2, hS2, rfl⟩
    refine m_run ?_
    refine IH (j - 1) _ _ (by omega) ⟨i + 1, Δ2, by omega, ?_, rfl, rfl, rfl, congrArg (Value.int .i64) (i64_succ i (by omega)), rfl⟩
    rw [List.take_add_one, hx]
    exact hS2
  obtain rfl : i = L.length := by omega
  rw [List.take_length] at hSi
  refine m_run ?_
  (apply TK.over0; exact rfl; exact rfl)
  exact ⟨_, rfl, Δ', hSi, rfl⟩
set_option maxRecDepth 100000 in
theorem appendSeq_t (vb : Nat) (A : Option Addr) (c : Nat) (L : List Nat) (Γ : List HP) (hs : has Γ (srcAt 1 A L.length (ints L))) (hn : L.length ≤ 1000000000) :
    FnV Try.prog 108 [.slice none 0 0, .func (.func 95) #[] #[.pointer (some ⟨vb, 0, none⟩)]] (row vb [.slice A L.length c] 54 :: Γ)
      fun v Γ' => ∃ A3 c3, v = .slice A3 L.length c3 ∧ Γ' = own 3 1 (.slice A3 L.length c3) L.length (ints L) :: Γ := by
  refine Fn.enter Try.func108 rfl rfl rfl fun E => ?_
  refine m_run ?_
  (apply TL.box; exact rfl; exact rfl; (exact m_lst))
  intro b2
  refine m_run ?_
  refine TK.free (H := own 3 1 (.slice none 0 0) 0 []) (fun m hm => own_nil _ _ hm) ?_
  apply TK.rangeF (first := []) (cap := [.pointer (some ⟨vb, 0, none⟩)]) (RI := fun l' r' D _ Γ' => ∃ A3 c3, Γ' = loopA l' D .ready none :: row vb [.slice A L.length c] 54 :: [dfA r', own 3 1 (.slice A3 L.length c3) L.length (ints L), row b2 [.slice A3 L.length c3] 54] ++ Γ)
  · exact rfl
  · exact rfl
  · exact callB_of (by kernel_rfl)
  · intro l' r' D hD
    refine Fn.mono (Fn.imp (values1_t l' D (by rw [hD]; rfl) vb A c L hn (fun pre Δ => pre.length ≤ L.length ∧ ∃ A3 c3, Δ = [dfA r', own 3 1 (.slice A3 pre.length c3) pre.length (ints pre), row b2 [.slice A3 pre.length c3] 54] ++ Γ) ?_ ?_ _ ⟨Nat.zero_le _, none, 0, rfl⟩) ?_) ?_
    · rintro pre _ ⟨_, A3, c3, rfl⟩
      exact has_tls (has_tls (has_tls hs))
    · rintro pre x _ hpl ⟨_, A3, c3, rfl⟩
      refine Rnd.enterD hD Try.func108 rfl fun E2 => ?_
      refine m_run ?_
      (apply TK.begin 0; exact rfl; exact rfl; exact (rfl : _ = _ :: _))
      refine m_run ?_
      (apply TL.buildSlice (l := ints [x]); exact rfl; exact tb rfl; exact rfl; exact tb rfl; exact rfl; exact rfl; exact rfl; exact rfl; exact rfl)
      intro b
      refine m_run ?_
      (apply TL.append 4 (n := pre.length) (m := 1) (cs := ints pre) (news := ints [x]); exact rfl; exact rfl; exact tb rfl; exact rfl; exact tb rfl; exact rfl; exact rfl; exact rfl)
      · exact fun _ h => h
      · exact rfl
      · exact has_src_row 0 rfl rfl
      · exact ints_one [x]
      · show (pre.length + 1) * 8 ≤ _; omega
      · show pre.length + 1 ≤ maxLen; unfold maxLen; omega
      · exact fun _ => (rfl : _ = _ :: _ :: _ :: _ :: _ :: _)
      intro A4 c4 hc4
      have hcs : ints pre ++ ints [x] = ints (pre ++ [x]) := by simp
      rw [hcs, show pre.length + 1 = (pre ++ [x]).length by simp]
      refine m_run ?_
      refine TK.drop ?_
      (apply TK.roundEnd 0; exact rfl; exact rfl)
      exact ⟨true, rfl, rfl, _, ⟨by simp; omega, A4, c4, rfl⟩, rfl⟩
    · intro m hm
      exact all_perm (List.Perm.cons _ (List.perm_middle (l₁ := [_, _, _]))) hm
    · rintro e Γ' ⟨v, rfl, _, ⟨_, A3, c3, rfl⟩, rfl⟩
      exact ⟨v, rfl, A3, c3, rfl⟩
  · rintro l' r' D v Γ' hD ⟨A3, c3, rfl⟩
    refine ⟨0, _, _, rfl, by simp, ?_⟩
    refine m_run ?_
    (apply TK.unmark 1; exact rfl; (rintro _ ⟨_, h, _⟩; cases h); exact rfl)
    (apply TK.retS1; exact rfl; exact rfl; (exact m_val))
    · exact ⟨_, rfl, _, _, rfl, rfl⟩
    · (repeat (first | exact List.Sublist.refl _ | apply List.Sublist.cons_cons | apply List.Sublist.cons))
end Go.Proofs.Ytndmjpceocecdaa.E

/- Sorted(Values(..)); the finder comes to a node, has one lead back: walked. -/
namespace Go.Proofs.Ytndmjpceocecdaa.E
open Go Go.RowKit Go.Proofs
attribute [local irreducible] TK TL TQ TA TB Fn PV
set_option maxRecDepth 100000 in
theorem sortedV_t (vb : Nat) (A : Option Addr) (c : Nat) (L : List Nat) (Γ : List HP) (hs : has Γ (srcAt 1 A L.length (ints L))) (hn : L.length ≤ 1000000000) :
    FnV Try.prog 86 [.func (.func 95) #[] #[.pointer (some ⟨vb, 0, none⟩)]] (row vb [.slice A L.length c] 54 :: Γ)
      fun v Γ' => ∃ A3 c3 L', List.Perm L' L ∧ List.Pairwise (· ≤ ·) L' ∧ v = .slice A3 L'.length c3 ∧ Γ' = own 3 1 (.slice A3 L'.length c3) L'.length (ints L') :: Γ := by
  refine Fn.enter Try.func86 rfl rfl rfl fun E => ?_
  refine m_run ?_
  have coll : FnV Try.prog 93 [.func (.func 95) #[] #[.pointer (some ⟨vb, 0, none⟩)]] (row vb [.slice A L.length c] 54 :: Γ)
      fun v Γ' => ∃ A3 c3, v = .slice A3 L.length c3 ∧ Γ' = own 3 1 (.slice A3 L.length c3) L.length (ints L) :: Γ := by
    refine Fn.enter Try.func93 rfl rfl rfl fun E => ?_
    refine m_run ?_
    (apply TL.callV; exact rfl; exact callB_of (by kernel_rfl); exact rfl; exact fun _ h => h)
    exact appendSeq_t vb A c L Γ hs hn
    rintro _ _ ⟨A3, c3, rfl, rfl⟩
    refine m_run ?_
    (apply TK.retS1; exact rfl; exact rfl; (exact m_val))
    · exact ⟨_, rfl, _, _, rfl, rfl⟩
    · (repeat (first | exact List.Sublist.refl _ | apply List.Sublist.cons_cons | apply List.Sublist.cons))
  (apply TL.callV; exact rfl; exact callB_of (by kernel_rfl); exact rfl; exact fun _ h => h)
  exact coll
  rintro _ _ ⟨A3, c3, rfl, rfl⟩
  refine m_run ?_
  (apply TL.callV; exact rfl; exact callB_of (by kernel_rfl); exact rfl; exact fun _ h => h)
  exact sortI_t A3 c3 L _ hn
  rintro _ _ ⟨rfl, L', hp, hs, rfl⟩
  refine m_run ?_
  (apply TK.retS1; exact rfl; exact rfl; (exact m_val))
  · exact ⟨_, rfl, A3, c3, L', hp, hs, by rw [hp.length_eq], rfl⟩
  · rw [hp.length_eq]
    exact .refl _
def seC (x : Nat × Nat) : List Value := [.int .i64 (x.1 : Int), .int .i64 (x.2 : Int)]
abbrev seenC (l : List (Nat × Nat)) : List Value := l.flatMap seC
theorem seC_len (x : Nat × Nat) : (seC x).length = 2 := rfl
theorem seenC_len (l : List (Nat × Nat)) : (seenC l).length = l.length * 2 := by
  induction l with
  | nil => rfl
  | cons a l ih =>
    show (seC a ++ List.flatMap seC l).length = _
    rw [List.length_append, ih, seC_len, List.length_cons]; omega
theorem flat_split {α : Type} {f : α → List Value} {sz : Nat} (hf : ∀ a, (f a).length = sz) (y : α) : ∀ {l : List α} {i : Nat}, i < l.length → (l.flatMap f).take (i * sz) ++ f y ++ (l.flatMap f).drop (i * sz + sz) = (l.set i y).flatMap f
  | [], _, h => by simp at h
  | a :: l, 0, _ => by
    rw [List.set_cons_zero, List.flatMap_cons, List.flatMap_cons, Nat.zero_mul, List.take_zero, Nat.zero_add, List.nil_append, ← hf a, List.drop_left']
    rfl
  | a :: l, i + 1, h => by
    rw [List.set_cons_succ, List.flatMap_cons, List.flatMap_cons, ← flat_split hf y (l := l) (i := i) (by simpa using h)]
    have h1 : (i + 1) * sz = (f a).length + i * sz := by rw [hf, Nat.add_mul]; omega
    rw [h1, List.take_length_add_append, Nat.add_assoc, List.drop_length_add_append]
    simp
set_option maxRecDepth 100000 in
set_option maxHeartbeats 1000000 in
/-- A node is come to. -/
theorem enterF_t (bf sB n : Nat) (vO vF vP : Value) (H : Option Addr) (hc : Nat) (seen : List (Nat × Nat)) (held : List Nat) (order v : Nat) (X : List HP) (hv : v < n) (hsl : seen.length = n) (ho : order ≤ 1000000000) (hh : held.length ≤ 1000000000) :
    FnV Try.prog 69 [.pointer (some ⟨bf, 0, none⟩), .int .i64 (v : Int)] (row bf [vO, .slice (some ⟨sB, 0, none⟩) n n, .slice H held.length hc, vF, vP, .int .i64 (order : Int)] 85 :: own 87 2 (.slice (some ⟨sB, 0, none⟩) n n) n (seenC seen) :: own 3 1 (.slice H held.length hc) held.length (ints held) :: X)
      fun r Γ' => ∃ H' hc', r = .agg #[.int .i64 (v : Int), .int .i64 0] ∧ Γ' = row bf [vO, .slice (some ⟨sB, 0, none⟩) n n, .slice H' (held ++ [v]).length hc', vF, vP, .int .i64 ((order + 1 : Nat) : Int)] 85 :: own 87 2 (.slice (some ⟨sB, 0, none⟩) n n) n (seenC (seen.set v (order + 1, order + 1))) :: own 3 1 (.slice H' (held ++ [v]).length hc') (held ++ [v]).length (ints (held ++ [v])) :: X := by
  refine Fn.enter Try.func69 rfl rfl rfl fun E => ?_
  have hw : IntKind.i64.wrap ((order : Int) + 1) = ((order + 1 : Nat) : Int) := i64_succ order (by omega)
  refine m_run ?_
  (apply TL.alloc; exact rfl; exact tb rfl; (exact m_lst))
  intro b4
  refine m_run ?_
  rw [hw]
  refine TK.perm (List.perm_middle (l₁ := [_, _])) ?_
  refine TK.drawE mixed rfl (row b4 [.int .i64 0, .int .i64 0] 115 :: row bf [vO, .slice (some ⟨sB, 0, none⟩) n n, .slice H held.length hc, vF, vP, .int .i64 ((order + 1 : Nat) : Int)] 85 :: own 3 1 (.slice H held.length hc) held.length (ints held) :: X) ?_
  refine m_take (At.mk : At 0) ?_; refine m_take (At.mk : At 1) ?_; refine m_take (At.mk : At 2) ?_; refine m_take (At.mk : At 3) ?_; refine m_take (At.mk : At 4) ?_; refine m_take (At.mk : At 5) ?_; refine m_take (At.mk : At 6) ?_; refine m_take (At.mk : At 7) ?_; refine m_take (At.mk : At 8) ?_; refine m_take (At.mk : At 9) ?_; refine m_take (At.mk : At 10) ?_; refine m_take (At.mk : At 11) ?_; refine m_take (At.mk : At 12) ?_
  (apply TA.takeA (At.mk : At 13); exact rfl; exact rfl; kernel_rfl; ((focus ((repeat (first | assumption | exact Ent.refl _ | apply Ent.tail)); done))); (apply PV.build tabs; exact rfl; exact rfl; exact rfl; exact rfl; exact rfl; exact (rfl : _ = seC (order + 1, order + 1))))
  refine m_take (At.mk : At 14) ?_
  (apply TA.one 15; kernel_rfl; exact rfl)
  (apply TL.storeOwnA 0 v; exact rfl; exact rfl; exact rfl; exact rfl; exact tb rfl; exact rfl; exact rfl; exact rfl; exact hv; exact flat_split seC_len _ (by rw [hsl]; exact hv); exact rfl)
  refine TL.back (by (focus ((repeat (first | assumption | exact Ent.refl _ | apply Ent.tail)); done))) ?_
  refine TA.done (by kernel_rfl) ?_
  refine m_run ?_
  (apply TL.buildSlice (l := ints [v]); exact rfl; exact tb rfl; exact rfl; exact tb rfl; exact rfl; exact rfl; exact rfl; exact rfl; exact rfl)
  intro b33
  refine m_run ?_
  (apply TL.append 4 (n := held.length) (m := 1) (cs := ints held) (news := ints [v]); exact rfl; exact rfl; exact tb rfl; exact rfl; exact tb rfl; exact rfl; exact rfl; exact rfl)
  · exact fun _ h => h
  · exact rfl
  · exact has_src_row 0 rfl rfl
  · exact ints_one [v]
  · show (held.length + 1) * 8 ≤ _; omega
  · show held.length + 1 ≤ maxLen; unfold maxLen; omega
  · exact fun _ => (rfl : _ = _ :: _ :: _ :: _ :: _ :: _)
  intro A4 c4 hc4
  rw [show ints held ++ ints [v] = ints (held ++ [v]) by simp, show held.length + 1 = (held ++ [v]).length by simp]
  refine m_run ?_
  (apply TL.pv; exact rfl; (apply PV.build tabs; exact rfl; exact rfl; exact rfl; exact rfl; exact rfl; exact (rfl : _ = ([.int .i64 (v : Int), .int .i64 0] : List Value))))
  refine m_run ?_
  refine TK.perm (List.Perm.cons _ (List.perm_middle (l₁ := [_, _])).symm) ?_
  (apply TK.retRow (i := 1); exact rfl; exact rfl; exact rfl; exact rfl; exact tb rfl; exact rfl; (exact m_lst); exact rfl)
  · exact ⟨_, rfl, A4, c4, rfl, rfl⟩
  · (repeat (first | exact List.Sublist.refl _ | apply List.Sublist.cons_cons | apply List.Sublist.cons))
set_option maxRecDepth 100000 in
set_option maxHeartbeats 1000000 in
/-- A node leads back as far as another one. -/
theorem lowerF_t (bf sB n : Nat) (vO vH vF vP vo : Value) (seen : List (Nat × Nat)) (v to o l : Nat) (X : List HP) (hg : seen[v]? = some (o, l)) (hsl : seen.length = n) :
    FnV Try.prog 70 [.pointer (some ⟨bf, 0, none⟩), .int .i64 (v : Int), .int .i64 (to : Int)] (row bf [vO, .slice (some ⟨sB, 0, none⟩) n n, vH, vF, vP, vo] 85 :: own 87 2 (.slice (some ⟨sB, 0, none⟩) n n) n (seenC seen) :: X)
      fun r Γ' => r = .tuple #[] ∧ Γ' = row bf [vO, .slice (some ⟨sB, 0, none⟩) n n, vH, vF, vP, vo] 85 :: own 87 2 (.slice (some ⟨sB, 0, none⟩) n n) n (seenC (seen.set v (o, min l to))) :: X := by
  refine Fn.enter Try.func70 rfl rfl rfl fun E => ?_
  have hv : v < n := by rw [← hsl]; exact (List.getElem?_eq_some_iff.1 hg).1
  refine TK.perm (List.Perm.swap _ _ _) ?_
  have hcell : has (own 87 2 (.slice (some ⟨sB, 0, none⟩) n n) n (seenC seen) :: row bf [vO, .slice (some ⟨sB, 0, none⟩) n n, vH, vF, vP, vo] 85 :: X) (fun m => cellsAt m sB (0 + v * 2) (seC (o, l))) :=
    has_el seC_len (by decide) (has_at (up_src _ _ _ _) 0 rfl fun _ h => own_src h) hg
  rw [Nat.zero_add] at hcell
  have hlow : has (own 87 2 (.slice (some ⟨sB, 0, none⟩) n n) n (seenC seen) :: row bf [vO, .slice (some ⟨sB, 0, none⟩) n n, vH, vF, vP, vo] 85 :: X) (fun m => cellAt m sB (v * 2 + 1) (.int .i64 (l : Int))) := has_imp hcell fun m hm => hm 1 _ rfl
  refine TK.drawB mixed rfl 17 (own 87 2 (.slice (some ⟨sB, 0, none⟩) n n) n (seenC seen) :: row bf [vO, .slice (some ⟨sB, 0, none⟩) n n, vH, vF, vP, vo] 85 :: X) (row bf [vO, .slice (some ⟨sB, 0, none⟩) n n, vH, vF, vP, vo] 85 :: X) ?_
  refine m_bake (At.mk : At 0) ?_; refine m_bake (At.mk : At 1) ?_; refine m_bake (At.mk : At 2) ?_; refine m_bake (At.mk : At 3) ?_; refine m_bake (At.mk : At 4) ?_; refine m_bake (At.mk : At 5) ?_; refine m_bake (At.mk : At 6) ?_; refine m_bake (At.mk : At 7) ?_; refine m_bake (At.mk : At 8) ?_; refine m_bake (At.mk : At 9) ?_; refine m_bake (At.mk : At 10) ?_; refine m_bake (At.mk : At 11) ?_; refine m_bake (At.mk : At 12) ?_; refine m_bake (At.mk : At 13) ?_; refine m_bake (At.mk : At 14) ?_
  refine TB.know (t := 20) (v := .int .i64 ((min l to : Nat) : Int)) (congrArg (Value.int .i64) (by split <;> omega)) ?_
  refine m_bake (At.mk : At 15) ?_; refine m_bake (At.mk : At 16) ?_
  (apply TB.last; kernel_rfl; exact rfl)
  (apply TL.storeOwnF 0 (v * 2 + 1) (cs' := seenC (seen.set v (o, min l to))); exact rfl; exact rfl; (exact m_val); exact rfl; exact tb rfl; exact rfl; exact rfl; exact (by omega); exact set_flat seC 2 seC_len _ _ seen _ 1 _ hg (by decide) rfl; exact rfl)
  refine TL.back (by (focus ((repeat (first | assumption | exact Ent.refl _ | apply Ent.tail)); done))) ?_
  refine TA.done (by kernel_rfl) ?_
  refine m_run ?_
  refine TK.perm (List.Perm.swap _ _ _) ?_
  exact TK.over0 rfl rfl ⟨_, rfl, rfl, rfl⟩
end Go.Proofs.Ytndmjpceocecdaa.E

/- The finder leaves a node: walked. -/
namespace Go.Proofs.Ytndmjpceocecdaa.E
open Go Go.RowKit Go.Proofs
attribute [local irreducible] TK TL TQ TA TB Fn PV
def ofV : Option Nat → Value
  | none => .int .i64 (-1)
  | some k => .int .i64 (k : Int)
abbrev ofsC (l : List (Option Nat)) : List Value := l.map ofV
def setAll (k : Nat) (of : List (Option Nat)) (p : List Nat) : List (Option Nat) := p.foldl (fun f u => f.set u (some k)) of
theorem setAll_len (k : Nat) : ∀ (p : List Nat) (of : List (Option Nat)), (setAll k of p).length = of.length
  | [], _ => rfl
  | a :: p, of => by
    show (setAll k (of.set a (some k)) p).length = _
    rw [setAll_len k p, List.length_set]
theorem setAll_get (k : Nat) : ∀ (p : List Nat) (of : List (Option Nat)), (∀ u ∈ p, u < of.length) → ∀ u, (setAll k of p).getD u none = if u ∈ p then some k else of.getD u none
  | [], of, _, u => by simp [setAll]
  | a :: p, of, h, u => by
    show (setAll k (of.set a (some k)) p).getD u none = _
    rw [setAll_get k p _ (fun x hx => by rw [List.length_set]; exact h x (List.mem_cons_of_mem _ hx)), Gph.getD_set _ _ _ _ (h a (List.mem_cons_self ..))]
    by_cases hp : u ∈ p
    · simp [hp]
    · by_cases hu : u = a <;> simp [hp, hu]
theorem setAll_snoc {k : Nat} {of : List (Option Nat)} {p : List Nat} {i u : Nat} (h : p[i]? = some u) : setAll k of (p.take (i + 1)) = (setAll k of (p.take i)).set u (some k) := by
  unfold setAll
  rw [List.take_add_one, h]
  simp
theorem idx_of {A B : List Nat} {v : Nat} {k : Int} (h : IdxIs (A ++ v :: B) v k) (hv : v ∉ A) : k = (A.length : Int) := by
  rcases h with ⟨i, rfl, ⟨x, hx, hxv⟩, hno⟩ | ⟨_, hno⟩
  · obtain rfl : v = x := by omega
    congr 1
    by_cases h1 : i < A.length
    · rw [List.getElem?_append_left h1] at hx
      exact absurd (List.mem_of_getElem? hx) hv
    · by_cases h2 : A.length < i
      · refine absurd rfl (hno v ?_)
        rw [List.take_append, List.take_of_length_le (by omega)]
        refine List.mem_append_right _ ?_
        rw [show i - A.length = (i - A.length - 1) + 1 by omega, List.take_succ_cons]
        exact List.mem_cons_self ..
      · omega
  · exact absurd rfl (hno v (by simp))
set_option maxRecDepth 100000 in
theorem values_t (A : Option Addr) (n c : Nat) (Γ : List HP) :
    FnV Try.prog 87 [.slice A n c] Γ fun v Γ' => ∃ vb, v = .func (.func 95) #[] #[.pointer (some ⟨vb, 0, none⟩)] ∧ Γ' = row vb [.slice A n c] 54 :: Γ := by
  refine Fn.enter Try.func87 rfl rfl rfl fun E => ?_
  refine m_run ?_
  (apply TL.box; exact rfl; exact rfl; (exact m_lst))
  intro vb
  refine m_run ?_
  (apply TL.pv; exact rfl; (apply PV.makeFunc (fs := []) (cs := [.pointer (some ⟨vb, 0, none⟩)]); exact rfl; exact rfl))
  refine m_run ?_
  (apply TK.retS1; exact rfl; exact rfl; (exact m_val))
  · exact ⟨_, rfl, vb, rfl, rfl⟩
  · (repeat (first | exact List.Sublist.refl _ | apply List.Sublist.cons_cons | apply List.Sublist.cons))
theorem ofsC_set (of : List (Option Nat)) (u k : Nat) : (ofsC of).set u (.int .i64 (k : Int)) = ofsC (of.set u (some k)) := by
  show (List.map ofV of).set u (ofV (some k)) = _
  rw [← List.map_set]
set_option maxRecDepth 100000 in
set_option maxHeartbeats 4000000 in
theorem leaveF_t (bf sB fB hB n : Nat) (vO : Value) (hc : Nat) (P : Option Addr) (pc : Nat) (seen : List (Nat × Nat)) (held : List Nat) (of : List (Option Nat)) (order : Nat) (rows : List Rw) (v o l : Nat) (A B : List Nat) (X : List HP)
    (hg : seen[v]? = some (o, l)) (hh : held = A ++ v :: B) (hvA : v ∉ A) (hBn : ∀ u ∈ v :: B, u < n) (hfl : of.length = n) (hn : n ≤ 1000000) (hhl : held.length ≤ 1000000) (hrl : rows.length ≤ 1000000) (hhc : held.length ≤ hc) :
    FnV Try.prog 71 [.pointer (some ⟨bf, 0, none⟩), .int .i64 (v : Int)]
      (row bf [vO, .slice (some ⟨sB, 0, none⟩) n n, .slice (some ⟨hB, 0, none⟩) held.length hc, .slice (some ⟨fB, 0, none⟩) n n, .slice P rows.length pc, .int .i64 (order : Int)] 85 :: own 87 2 (.slice (some ⟨sB, 0, none⟩) n n) n (seenC seen) :: own 3 1 (.slice (some ⟨hB, 0, none⟩) held.length hc) held.length (ints held) :: own 3 1 (.slice (some ⟨fB, 0, none⟩) n n) n (ofsC of) :: own 54 1 (.slice P rows.length pc) rows.length (rows.map Rw.v) :: alls (Rw.h 3) rows :: X)
      fun r Γ' => r = .tuple #[] ∧ ((l ≠ o ∧ Γ' = row bf [vO, .slice (some ⟨sB, 0, none⟩) n n, .slice (some ⟨hB, 0, none⟩) held.length hc, .slice (some ⟨fB, 0, none⟩) n n, .slice P rows.length pc, .int .i64 (order : Int)] 85 :: own 87 2 (.slice (some ⟨sB, 0, none⟩) n n) n (seenC seen) :: own 3 1 (.slice (some ⟨hB, 0, none⟩) held.length hc) held.length (ints held) :: own 3 1 (.slice (some ⟨fB, 0, none⟩) n n) n (ofsC of) :: own 54 1 (.slice P rows.length pc) rows.length (rows.map Rw.v) :: alls (Rw.h 3) rows :: X) ∨
        (l = o ∧ ∃ (P' : Option Addr) (pc' : Nat) (r : Rw), r.w.Perm (v :: B) ∧ r.w.Pairwise (· ≤ ·) ∧ Γ' = row bf [vO, .slice (some ⟨sB, 0, none⟩) n n, .slice (some ⟨hB, 0, none⟩) A.length hc, .slice (some ⟨fB, 0, none⟩) n n, .slice P' (rows ++ [r]).length pc', .int .i64 (order : Int)] 85 :: own 87 2 (.slice (some ⟨sB, 0, none⟩) n n) n (seenC seen) :: own 3 1 (.slice (some ⟨hB, 0, none⟩) A.length hc) A.length (ints A) :: own 3 1 (.slice (some ⟨fB, 0, none⟩) n n) n (ofsC (setAll rows.length of r.w)) :: own 54 1 (.slice P' (rows ++ [r]).length pc') (rows ++ [r]).length ((rows ++ [r]).map Rw.v) :: alls (Rw.h 3) (rows ++ [r]) :: X)) := by
  have hlA : A.length ≤ held.length := by rw [hh]; simp
  have hcell : has (row bf [vO, .slice (some ⟨sB, 0, none⟩) n n, .slice (some ⟨hB, 0, none⟩) held.length hc, .slice (some ⟨fB, 0, none⟩) n n, .slice P rows.length pc, .int .i64 (order : Int)] 85 :: own 87 2 (.slice (some ⟨sB, 0, none⟩) n n) n (seenC seen) :: own 3 1 (.slice (some ⟨hB, 0, none⟩) held.length hc) held.length (ints held) :: own 3 1 (.slice (some ⟨fB, 0, none⟩) n n) n (ofsC of) :: own 54 1 (.slice P rows.length pc) rows.length (rows.map Rw.v) :: alls (Rw.h 3) rows :: X) (fun m => cellsAt m sB (0 + v * 2) (seC (o, l))) :=
    has_el seC_len (by decide) (has_at (up_src _ _ _ _) 1 rfl fun _ h => own_src h) hg
  rw [Nat.zero_add] at hcell
  have hlow := has_imp hcell (q := fun m => cellAt m sB (v * 2 + 1) (.int .i64 (l : Int))) fun m hm => hm 1 _ rfl
  have hord := has_imp hcell (q := fun m => cellAt m sB (v * 2) (.int .i64 (o : Int))) fun m hm => hm 0 _ rfl
  have hvn : v < n := hBn v (List.mem_cons_self ..)
  refine Fn.enter Try.func71 rfl rfl rfl fun E => ?_
  refine m_run ?_
  refine TK.drawS mixed rfl ?_
  refine m_take (At.mk : At 0) ?_; refine m_take (At.mk : At 1) ?_; refine m_take (At.mk : At 2) ?_; refine m_take (At.mk : At 3) ?_; refine m_take (At.mk : At 4) ?_; refine m_take (At.mk : At 5) ?_; refine m_take (At.mk : At 6) ?_; refine m_take (At.mk : At 7) ?_; refine m_take (At.mk : At 8) ?_; refine m_take (At.mk : At 9) ?_; refine m_take (At.mk : At 10) ?_; refine m_take (At.mk : At 11) ?_; refine m_take (At.mk : At 12) ?_; refine m_take (At.mk : At 13) ?_; refine m_take (At.mk : At 14) ?_; refine m_take (At.mk : At 15) ?_; refine m_take (At.mk : At 16) ?_
  refine TA.done (by kernel_rfl) ?_
  by_cases hlo : l = o
  rotate_left
  · refine m_run ?_
    (apply TK.ret0; exact rfl; exact rfl)
    exact ⟨_, rfl, rfl, .inl ⟨hlo, rfl⟩⟩
  refine m_run ?_
  (apply TL.callV; exact rfl; exact callB_of (by kernel_rfl); exact rfl; exact fun _ h => h)
  exact idx_t (some ⟨hB, 0, none⟩) hc held v _ (has_at (up_src _ _ _ _) 2 rfl fun _ h => own_src h) (by omega)
  rintro _ _ ⟨⟨k, rfl, hk⟩, rfl⟩
  rw [hh] at hk
  obtain rfl := idx_of hk hvA
  refine m_run ?_
  (apply TL.pv; exact rfl; (apply PV.sliceS (i := A.length) (j := held.length); exact rfl; exact tb rfl; exact rfl; exact tb rfl; exact .some rfl; exact .none; exact hlA; exact hhc))
  have hlen : held.length - A.length = (v :: B).length := by rw [hh]; simp
  obtain ⟨SA, hSA⟩ : ∃ SA, SA = (if hc = A.length then (some ⟨hB, 0, none⟩ : Option Addr) else (some ⟨hB, 0, none⟩ : Option Addr).map fun a => a.add (A.length * 1)) := ⟨_, rfl⟩
  refine TL.know (t := 36) (v := .slice SA (v :: B).length (hc - A.length)) (by rw [hSA]; exact congrArg (fun z => Value.slice _ z _) hlen) ?_
  have hsrc : has (row bf [vO, .slice (some ⟨sB, 0, none⟩) n n, .slice (some ⟨hB, 0, none⟩) held.length hc, .slice (some ⟨fB, 0, none⟩) n n, .slice P rows.length pc, .int .i64 (order : Int)] 85 :: own 87 2 (.slice (some ⟨sB, 0, none⟩) n n) n (seenC seen) :: own 3 1 (.slice (some ⟨hB, 0, none⟩) held.length hc) held.length (ints held) :: own 3 1 (.slice (some ⟨fB, 0, none⟩) n n) n (ofsC of) :: own 54 1 (.slice P rows.length pc) rows.length (rows.map Rw.v) :: alls (Rw.h 3) rows :: X) (srcAt 1 SA (v :: B).length (ints (v :: B))) := by
    have h1 := has_at (Γ := row bf [vO, .slice (some ⟨sB, 0, none⟩) n n, .slice (some ⟨hB, 0, none⟩) held.length hc, .slice (some ⟨fB, 0, none⟩) n n, .slice P rows.length pc, .int .i64 (order : Int)] 85 :: own 87 2 (.slice (some ⟨sB, 0, none⟩) n n) n (seenC seen) :: own 3 1 (.slice (some ⟨hB, 0, none⟩) held.length hc) held.length (ints held) :: own 3 1 (.slice (some ⟨fB, 0, none⟩) n n) n (ofsC of) :: own 54 1 (.slice P rows.length pc) rows.length (rows.map Rw.v) :: alls (Rw.h 3) rows :: X) (up_src 1 (some ⟨hB, 0, none⟩) held.length (ints held)) 2 rfl fun _ h => own_src h
    refine has_imp h1 fun m hm => ?_
    have h2 := src_part (i := A.length) (j := held.length) (c := hc) hm hlA (Nat.le_refl _) hhc
    rw [hlen, ← hSA, Nat.mul_one, Nat.mul_one] at h2
    have h3 : ((ints held).drop A.length).take (v :: B).length = ints (v :: B) := by
      rw [hh]
      show ((List.map _ (A ++ v :: B)).drop A.length).take (v :: B).length = _
      rw [← List.map_drop, ← List.map_take, List.drop_left, List.take_length]
    rw [h3] at h2
    exact h2
  refine m_run ?_
  (apply TL.callV; exact rfl; exact callB_of (by kernel_rfl); exact rfl; exact fun _ h => h)
  exact values_t _ _ _ _
  rintro _ _ ⟨vb, rfl, rfl⟩
  refine m_run ?_
  (apply TL.callV; exact rfl; exact callB_of (by kernel_rfl); exact rfl; exact fun _ h => h)
  exact sortedV_t vb SA _ (v :: B) _ hsrc (by rw [← hlen]; omega)
  rintro _ _ ⟨A3, c3, p, hp, hps, rfl, rfl⟩
  have hpn : ∀ u ∈ p, u < n := fun u hu => hBn u (hp.mem_iff.1 hu)
  have hpl : p.length ≤ 1000000 := by rw [hp.length_eq, ← hlen]; omega
  clear hsrc hSA hcell hlow hord
  refine m_run ?_
  (apply TL.sliceHi; exact rfl; exact rfl; exact rfl; exact tb rfl; exact rfl; exact tb rfl; exact (by omega); exact (by omega))
  refine TL.know (t := 45) (v := .slice (some ⟨hB, 0, none⟩) A.length hc) rfl ?_
  refine m_run ?_
  refine TK.imp (Δ := own 3 1 (.slice (some ⟨fB, 0, none⟩) n n) n (ofsC (setAll rows.length of (p.take 0))) :: own 3 1 (.slice A3 p.length c3) p.length (ints p) :: row bf [vO, .slice (some ⟨sB, 0, none⟩) n n, .slice (some ⟨hB, 0, none⟩) A.length hc, .slice (some ⟨fB, 0, none⟩) n n, .slice P rows.length pc, .int .i64 (order : Int)] 85 :: own 87 2 (.slice (some ⟨sB, 0, none⟩) n n) n (seenC seen) :: own 3 1 (.slice (some ⟨hB, 0, none⟩) A.length hc) A.length (ints A) :: own 54 1 (.slice P rows.length pc) rows.length (rows.map Rw.v) :: alls (Rw.h 3) rows :: X) (fun m hm => ?_) ?_
  · refine all_perm (List.perm_middle (l₁ := [_, _, _, _])) ?_
    refine sep_mono hm (fun _ h => h) fun _ hm => sep_mono hm (fun _ h => h) fun _ hm => sep_mono hm (fun _ h => h) fun _ hm => sep_mono hm (fun q hq => ?_) (fun _ h => h)
    have := own_shrink hq hlA
    rw [Nat.mul_one] at this
    have h3 : (ints held).take A.length = ints A := by
      rw [hh]
      show (List.map _ (A ++ v :: B)).take A.length = _
      rw [← List.map_take, List.take_left]
    rw [h3] at this
    exact this
  apply TK.iter (fun j ρ' Γ' => ∃ i : Nat, i + j = p.length ∧ lk ρ' 0 = .pointer (some ⟨bf, 0, none⟩) ∧ lk ρ' 5 = .slice A3 p.length c3 ∧ lk ρ' 48 = .slice A3 p.length c3 ∧ lk ρ' 49 = .int .i64 (p.length : Int) ∧ lk ρ' 50 = .int .i64 (i : Int) ∧ Γ' = own 3 1 (.slice (some ⟨fB, 0, none⟩) n n) n (ofsC (setAll rows.length of (p.take i))) :: own 3 1 (.slice A3 p.length c3) p.length (ints p) :: row bf [vO, .slice (some ⟨sB, 0, none⟩) n n, .slice (some ⟨hB, 0, none⟩) A.length hc, .slice (some ⟨fB, 0, none⟩) n n, .slice P rows.length pc, .int .i64 (order : Int)] 85 :: own 87 2 (.slice (some ⟨sB, 0, none⟩) n n) n (seenC seen) :: own 3 1 (.slice (some ⟨hB, 0, none⟩) A.length hc) A.length (ints A) :: own 54 1 (.slice P rows.length pc) rows.length (rows.map Rw.v) :: alls (Rw.h 3) rows :: X) p.length
  · exact ⟨0, Nat.zero_add _, rfl, rfl, rfl, rfl, rfl, rfl⟩
  rintro j IH ρ' _ ⟨i, hij, e0, e5, e48, e49, e50, rfl⟩
  refine TK.know5 e0 e5 e48 e49 e50 ?_
  by_cases hi : i < p.length
  · obtain ⟨u, hu⟩ : ∃ u, p[i]? = some u := ⟨p[i], List.getElem?_eq_getElem hi⟩
    have hun : u < n := hpn u (List.mem_of_getElem? hu)
    refine TK.mem fun m0 hm0 => ?_
    have hsp := has_at (Γ := own 3 1 (.slice (some ⟨fB, 0, none⟩) n n) n (ofsC (setAll rows.length of (p.take i))) :: own 3 1 (.slice A3 p.length c3) p.length (ints p) :: row bf [vO, .slice (some ⟨sB, 0, none⟩) n n, .slice (some ⟨hB, 0, none⟩) A.length hc, .slice (some ⟨fB, 0, none⟩) n n, .slice P rows.length pc, .int .i64 (order : Int)] 85 :: own 87 2 (.slice (some ⟨sB, 0, none⟩) n n) n (seenC seen) :: own 3 1 (.slice (some ⟨hB, 0, none⟩) A.length hc) A.length (ints A) :: own 54 1 (.slice P rows.length pc) rows.length (rows.map Rw.v) :: alls (Rw.h 3) rows :: X) (up_src 1 A3 p.length (ints p)) 1 rfl fun _ h => own_src h
    obtain ⟨g, u2, rfl⟩ := src_some (hsp m0 hm0) (by rw [ints_len]; omega)
    clear hm0 m0
    have hcu := has_ints hsp hu
    refine m_run ?_
    refine TK.drawE mixed rfl (own 3 1 (.slice (some ⟨g, u2, none⟩) p.length c3) p.length (ints p) :: row bf [vO, .slice (some ⟨sB, 0, none⟩) n n, .slice (some ⟨hB, 0, none⟩) A.length hc, .slice (some ⟨fB, 0, none⟩) n n, .slice P rows.length pc, .int .i64 (order : Int)] 85 :: own 87 2 (.slice (some ⟨sB, 0, none⟩) n n) n (seenC seen) :: own 3 1 (.slice (some ⟨hB, 0, none⟩) A.length hc) A.length (ints A) :: own 54 1 (.slice P rows.length pc) rows.length (rows.map Rw.v) :: alls (Rw.h 3) rows :: X) ?_
    refine m_take (At.mk : At 0) ?_; refine m_take (At.mk : At 1) ?_; refine m_take (At.mk : At 2) ?_; refine m_take (At.mk : At 3) ?_; refine m_take (At.mk : At 4) ?_; refine m_take (At.mk : At 5) ?_; refine m_take (At.mk : At 6) ?_; refine m_take (At.mk : At 7) ?_; refine m_take (At.mk : At 8) ?_; refine m_take (At.mk : At 9) ?_; refine m_take (At.mk : At 10) ?_
    (apply TA.one 11; kernel_rfl; exact rfl)
    (apply TL.storeOwn 0 u; exact rfl; exact rfl; (exact m_val); exact rfl; exact tb rfl; exact rfl; exact (Nat.zero_add _).symm; exact hun)
    show TL _ _ _ _ _ _ (own 3 1 (.slice (some ⟨fB, 0, none⟩) n n) n ((ofsC (setAll rows.length of (p.take i))).set u (.int .i64 (rows.length : Int))) :: _)
    rw [ofsC_set, ← setAll_snoc hu]
    refine TL.back (by (focus ((repeat (first | assumption | exact Ent.refl _ | apply Ent.tail)); done))) ?_
    refine TA.done (by kernel_rfl) ?_
    refine m_run ?_
    exact IH (j - 1) _ _ (by omega) ⟨i + 1, by omega, rfl, rfl, rfl, rfl, congrArg (Value.int .i64) (i64_succ i (by omega)), rfl⟩
  obtain rfl : i = p.length := by omega
  clear IH
  rw [List.take_length]
  refine m_run ?_
  (apply TL.buildSlice (l := [Rw.v ⟨A3, c3, p⟩]); exact rfl; exact tb rfl; exact rfl; exact tb rfl; exact rfl; exact rfl; exact rfl; exact rfl; exact rfl)
  intro b72
  refine m_run ?_
  (apply TL.append 6 (n := rows.length) (m := 1) (cs := rows.map Rw.v) (news := [Rw.v ⟨A3, c3, p⟩]); exact rfl; exact rfl; exact tb rfl; exact rfl; exact tb rfl; exact rfl; exact rfl; exact rfl)
  · exact fun _ h => h
  · exact rfl
  · exact has_src_row 0 rfl rfl
  · exact fun u hu => by rw [List.mem_singleton.1 hu]; rfl
  · show (rows.length + 1) * 24 ≤ _; omega
  · show rows.length + 1 ≤ maxLen; unfold maxLen; omega
  · exact fun _ => (rfl : _ = _ :: _ :: _ :: _ :: _ :: _ :: _ :: _)
  intro P2 pc2 hpc2
  rw [show rows.map Rw.v ++ [Rw.v ⟨A3, c3, p⟩] = (rows ++ [(⟨A3, c3, p⟩ : Rw)]).map Rw.v by simp, show rows.length + 1 = (rows ++ [(⟨A3, c3, p⟩ : Rw)]).length by simp]
  refine m_run ?_
  refine TK.drop ?_
  refine TK.imp (Δ := row bf [vO, .slice (some ⟨sB, 0, none⟩) n n, .slice (some ⟨hB, 0, none⟩) A.length hc, .slice (some ⟨fB, 0, none⟩) n n, .slice P2 (rows ++ [(⟨A3, c3, p⟩ : Rw)]).length pc2, .int .i64 (order : Int)] 85 :: own 87 2 (.slice (some ⟨sB, 0, none⟩) n n) n (seenC seen) :: own 3 1 (.slice (some ⟨hB, 0, none⟩) A.length hc) A.length (ints A) :: own 3 1 (.slice (some ⟨fB, 0, none⟩) n n) n (ofsC (setAll rows.length of p)) :: own 54 1 (.slice P2 (rows ++ [(⟨A3, c3, p⟩ : Rw)]).length pc2) (rows ++ [(⟨A3, c3, p⟩ : Rw)]).length ((rows ++ [(⟨A3, c3, p⟩ : Rw)]).map Rw.v) :: alls (Rw.h 3) (rows ++ [(⟨A3, c3, p⟩ : Rw)]) :: X) (fun m hm => ?_) ?_
  · have h2 := all_perm (List.perm_middle (l₁ := [_, _, _])).symm (all_perm (List.Perm.cons _ (List.perm_middle (l₁ := [_, _, _, _])).symm) hm)
    exact sep_mono h2 (fun _ h => h) fun _ hm => sep_mono hm (fun _ h => h) fun _ hm => sep_mono hm (fun _ h => h) fun _ hm => sep_mono hm (fun _ h => h) fun _ hm => sep_mono hm (fun _ h => h) fun _ hm => alls_snoc (f := Rw.h 3) ⟨A3, c3, p⟩ hm
  exact TK.over0 rfl rfl ⟨_, rfl, rfl, .inr ⟨hlo, P2, pc2, ⟨A3, c3, p⟩, hp, hps, rfl⟩⟩
end Go.Proofs.Ytndmjpceocecdaa.E

/- Parts of a graph, plainly: how much there is. -/
namespace Go.Proofs.Ytndmjpceocecdaa.E.Gph
variable {out : List (List Nat)} {s : Ts}
def zeros (s : Ts) : Nat := s.seen.countP fun x => decide (x.1 = 0)
/-- What is not seen is nothing; each number is given once. -/
structure Szd (n : Nat) (s : Ts) : Prop where
  zl : ∀ x ∈ s.seen, x.1 = 0 → x.2 = 0
  cn : s.order + zeros s = n
theorem Szd.zero (n : Nat) : Szd n (Ts.zero n) where
  zl x hx _ := by rw [List.eq_of_mem_replicate hx]
  cn := by simp [zeros, Ts.zero, List.countP_replicate]
theorem ord_get {v : Nat} (hv : v < s.seen.length) : s.seen[v]? = some (s.ord v, s.low v) := by
  unfold Ts.ord Ts.low
  rw [List.getD_eq_getElem?_getD, List.getElem?_eq_getElem hv]
  rfl
theorem ord_elem {v : Nat} (hv : v < s.seen.length) : s.seen[v] = (s.ord v, s.low v) := by
  have := ord_get (s := s) hv
  rw [List.getElem?_eq_getElem hv] at this
  injection this
theorem Szd.low {n : Nat} (h : Szd n s) {v : Nat} (hv : v < s.seen.length) (hu : s.ord v = 0) : s.low v = 0 := by
  have := h.zl _ (List.getElem_mem hv)
  rw [ord_elem hv] at this
  exact this hu
theorem Szd.enter {n : Nat} (h : Szd n s) {v : Nat} (hv : v < s.seen.length) (hu : s.ord v = 0) (T : List (Nat × Nat)) : Szd n (s.enter v T) ∧ zeros (s.enter v T) + 1 = zeros s := by
  have hz : zeros (s.enter v T) + 1 = zeros s := by
    unfold zeros Ts.enter
    simp only
    rw [List.countP_set hv, ord_elem hv]
    have : 0 < s.seen.countP fun x => decide (x.1 = 0) := List.countP_pos_iff.2 ⟨s.seen[v], List.getElem_mem hv, by rw [ord_elem hv]; exact decide_eq_true hu⟩
    simp [hu]
    omega
  refine ⟨⟨fun x hx h0 => ?_, ?_⟩, hz⟩
  · rcases List.mem_or_eq_of_mem_set (show x ∈ s.seen.set v (s.order + 1, s.order + 1) from hx) with hx | rfl
    · exact h.zl x hx h0
    · simp at h0
  · have := h.cn
    show s.order + 1 + _ = n
    omega
theorem Szd.lower {n : Nat} (h : Szd n s) {a l : Nat} (ha : a < s.seen.length) (hu : s.ord a ≠ 0) (T : List (Nat × Nat)) : Szd n (s.lower a l T) ∧ zeros (s.lower a l T) = zeros s := by
  have hz : zeros (s.lower a l T) = zeros s := by
    unfold zeros Ts.lower
    simp only
    rw [List.countP_set ha, ord_elem ha]
    simp [hu]
  refine ⟨⟨fun x hx h0 => ?_, ?_⟩, hz⟩
  · rcases List.mem_or_eq_of_mem_set (show x ∈ s.seen.set a (s.ord a, l) from hx) with hx | rfl
    · exact h.zl x hx h0
    · exact absurd h0 hu
  · rw [hz]; exact h.cn
theorem Inv.held_le (h : Inv out s) : s.held.length ≤ out.length :=
  nodup_len (h.hsort.imp fun {a b} hab e => by rw [e] at hab; exact Nat.lt_irrefl _ hab) fun v hv => h.lt ((h.hiff v).1 hv).1
theorem Inv.todo_le (h : Inv out s) : s.todo.length ≤ out.length := by
  have := h.tsub.length_le
  unfold Ts.gray at this
  rw [List.length_map] at this
  exact Nat.le_trans this h.held_le
theorem Inv.parts_le (h : Inv out s) : s.parts.length ≤ out.length := by
  have hm : ∀ k, k < s.parts.length → s.pt ((s.parts.getD k []).headD 0) = some k := fun k hk => by
    refine (h.ptiff _ _).2 ⟨s.parts[k], List.getElem?_eq_getElem hk, ?_⟩
    rw [List.getD_eq_getElem?_getD, List.getElem?_eq_getElem hk, Option.getD_some]
    exact head_mem (h.pscc _ (List.getElem_mem hk)).2.1
  have hnd : ((List.range s.parts.length).map fun k => (s.parts.getD k []).headD 0).Nodup := by
    unfold List.Nodup
    rw [List.pairwise_map]
    refine List.nodup_range.imp_of_mem fun {a b} ha hb hab e => ?_
    have h1 := hm a (List.mem_range.1 ha)
    rw [e, hm b (List.mem_range.1 hb)] at h1
    injection h1 with h1
    exact hab h1.symm
  have := nodup_len hnd fun x hx => by
    obtain ⟨k, hk, rfl⟩ := List.mem_map.1 hx
    exact h.lt (h.ptseen _ _ (hm k (List.mem_range.1 hk)))
  simpa using this
theorem sorted_lt {p : List Nat} (h : p.Pairwise (· ≤ ·)) (hn : p.Nodup) : p.Pairwise (· < ·) := (h.and hn).imp fun ⟨a, b⟩ => by omega
theorem Inv.held_nodup (h : Inv out s) : s.held.Nodup := h.hsort.imp fun {a b} hab e => by rw [e] at hab; exact Nat.lt_irrefl _ hab
end Go.Proofs.Ytndmjpceocecdaa.E.Gph

/- The finder goes through all to which a node comes: walked. -/
namespace Go.Proofs.Ytndmjpceocecdaa.E
open Go Go.RowKit Go.Proofs
attribute [local irreducible] TK TL TQ TA TB Fn PV
theorem own_addr_at {e sz n c : Nat} {A : Option Addr} {cs : List Value} {Γ : List HP} {m : Mem} (i : Nat) (hi : Γ[i]? = some (own e sz (.slice A n c) n cs)) (hm : all Γ m) (h0 : 0 < n) : ∃ b, A = some ⟨b, 0, none⟩ := own_addr (all_front hi hm) h0
theorem own_cap_at {e sz n c : Nat} {A : Option Addr} {cs : List Value} {Γ : List HP} {m : Mem} (i : Nat) (hi : Γ[i]? = some (own e sz (.slice A n c) n cs)) (hm : all Γ m) : n ≤ c := by
  obtain ⟨_, _, _, _, h, _⟩ := all_front hi hm
  exact (own_len h).2
/-- The finder in memory. -/
abbrev FM (bf oB sB fB n : Nat) (H : Option Addr) (hc : Nat) (P : Option Addr) (pc : Nat) (rows : List Rw) (s : Gph.Ts) (X : List HP) : List HP :=
  row bf [.slice (some ⟨oB, 0, none⟩) n n, .slice (some ⟨sB, 0, none⟩) n n, .slice H s.held.length hc, .slice (some ⟨fB, 0, none⟩) n n, .slice P rows.length pc, .int .i64 (s.order : Int)] 85 :: own 87 2 (.slice (some ⟨sB, 0, none⟩) n n) n (seenC s.seen) :: own 3 1 (.slice H s.held.length hc) s.held.length (ints s.held) :: own 3 1 (.slice (some ⟨fB, 0, none⟩) n n) n (ofsC s.of) :: own 54 1 (.slice P rows.length pc) rows.length (rows.map Rw.v) :: alls (Rw.h 3) rows :: X
abbrev TD (T : Option Addr) (tk : Nat) (td : List (Nat × Nat)) : HP := own 115 2 (.slice T td.length tk) td.length (seenC td)
/-- The list of what is seen, weakened: so much of it is known. -/
def seenW (sB n : Nat) (φ : List (Nat × Nat) → Prop) : HP := fun m => ∃ l, φ l ∧ own 87 2 (.slice (some ⟨sB, 0, none⟩) n n) n (seenC l) m
/-- The finder in memory, of what is seen something is known. -/
abbrev FK (bf oB sB fB n : Nat) (H : Option Addr) (hc : Nat) (P : Option Addr) (pc : Nat) (rows : List Rw) (s : Gph.Ts) (K : HP) (X : List HP) : List HP :=
  row bf [.slice (some ⟨oB, 0, none⟩) n n, .slice (some ⟨sB, 0, none⟩) n n, .slice H s.held.length hc, .slice (some ⟨fB, 0, none⟩) n n, .slice P rows.length pc, .int .i64 (s.order : Int)] 85 :: K :: own 3 1 (.slice H s.held.length hc) s.held.length (ints s.held) :: own 3 1 (.slice (some ⟨fB, 0, none⟩) n n) n (ofsC s.of) :: own 54 1 (.slice P rows.length pc) rows.length (rows.map Rw.v) :: alls (Rw.h 3) rows :: X
theorem own_cells {α : Type} {f : α → List Value} {e sz b n c i : Nat} {l : List α} {x : α} {m : Mem} (hf : ∀ a, (f a).length = sz) (hz : 0 < sz) (h : own e sz (.slice (some ⟨b, 0, none⟩) n c) n (l.flatMap f) m) (hx : l[i]? = some x) : cellsAt m b (i * sz) (f x) := by
  have h1 := has_el (Γ := [own e sz (.slice (some ⟨b, 0, none⟩) n c) n (l.flatMap f)]) hf hz (has_at (up_src _ _ _ _) 0 rfl fun _ h => own_src h) hx m (sep_emp h)
  rwa [Nat.zero_add] at h1
theorem ent_seen {bf oB sB fB n : Nat} {H : Option Addr} {hc : Nat} {P : Option Addr} {pc : Nat} {rows : List Rw} {s : Gph.Ts} {X : List HP} {φ : List (Nat × Nat) → Prop} {l : List (Nat × Nat)} (h : φ l) :
    Ent (FK bf oB sB fB n H hc P pc rows s (own 87 2 (.slice (some ⟨sB, 0, none⟩) n n) n (seenC l)) X) (FK bf oB sB fB n H hc P pc rows s (seenW sB n φ) X) :=
  .cons (fun _ h => h) (.cons (fun _ hm => ⟨l, h, hm⟩) (.refl _))
theorem seenW_cell {sB n i k : Nat} {φ : List (Nat × Nat) → Prop} {v : Value} (hφ : ∀ l, φ l → ∃ x, l[i]? = some x ∧ (seC x)[k]? = some v) {m : Mem} (h : seenW sB n φ m) : cellAt m sB (i * 2 + k) v := by
  obtain ⟨l, hl, hm⟩ := h
  obtain ⟨x, hx, hv⟩ := hφ l hl
  exact own_cells seC_len (by decide) hm hx k v hv
theorem ofs_cell {fB n i : Nat} {of : List (Option Nat)} {x : Option Nat} (hx : of[i]? = some x) {m : Mem} (h : own 3 1 (.slice (some ⟨fB, 0, none⟩) n n) n (ofsC of) m) : cellAt m fB i (ofV x) := by
  have := has_v (Γ := [own 3 1 (.slice (some ⟨fB, 0, none⟩) n n) n (ofsC of)]) (has_at (up_src 1 (some ⟨fB, 0, none⟩) n (ofsC of)) 0 rfl fun _ h => own_src h) (i := i) (v := ofV x) (by rw [List.getElem?_map, hx]; rfl) m (sep_emp h)
  rwa [Nat.zero_add] at this
theorem seen_eq (o l : Nat) : (((o : Int) == 0) && (((l : Int) == 0) && true)) = (decide (o = 0) && decide (l = 0)) := by
  rw [Bool.and_true]
  congr 1 <;> (rw [Bool.eq_iff_iff, beq_iff_eq, decide_eq_true_iff]; omega)
set_option maxRecDepth 100000 in
set_option maxHeartbeats 16000000 in
theorem fromF_t (bf oB sB fB n : Nat) (outR : List Rw) (H : Option Addr) (hc : Nat) (P : Option Addr) (pc : Nat) (rows : List Rw) (s : Gph.Ts) (root : Nat) (X : List HP)
    (hO : Rows (some ⟨oB, 0, none⟩) outR X) (hol : outR.length = n) (hn : n ≤ 100000) (hdeg : ∀ r ∈ outR, r.w.length ≤ 1000000)
    (hI : Gph.Inv (outR.map Rw.w) s) (hz : Gph.Szd n s) (ht : s.todo = []) (hp : s.parts = rows.map Rw.w) (hr : root < n) (hu : s.ord root = 0) :
    FnV Try.prog 51 [.pointer (some ⟨bf, 0, none⟩), .int .i64 (root : Int)] (FM bf oB sB fB n H hc P pc rows s X)
      fun r Γ' => r = .tuple #[] ∧ ∃ (H' : Option Addr) (hc' : Nat) (P' : Option Addr) (pc' : Nat) (rows' : List Rw) (s' : Gph.Ts) (X' : List HP), X.Sublist X' ∧ Gph.Inv (outR.map Rw.w) s' ∧ Gph.Szd n s' ∧ s'.todo = [] ∧ s'.parts = rows'.map Rw.w ∧ (∀ u, s.ord u ≠ 0 ∨ u = root → s'.ord u ≠ 0) ∧ Γ' = FM bf oB sB fB n H' hc' P' pc' rows' s' X' := by
  have hon : (outR.map Rw.w).length = n := by rw [List.length_map, hol]
  have hEg : ∀ {a : Nat} {r : Rw}, outR[a]? = some r → (outR.map Rw.w).getD a [] = r.w := fun {a r} h => by
    rw [List.getD_eq_getElem?_getD, List.getElem?_map, h]; rfl
  refine Fn.enter Try.func51 rfl rfl rfl fun E => ?_
  have hb1 := hI.held_le
  have hb2 := hz.cn
  rw [hon] at hb1
  have hsl := hI.lseen
  rw [hon] at hsl
  refine m_run ?_
  (apply TL.callV; exact rfl; exact callB_of (by kernel_rfl); exact rfl; exact fun _ h => h)
  exact enterF_t bf sB n _ _ _ H hc s.seen s.held s.order root _ hr hsl (by omega) (by omega)
  rintro _ _ ⟨H1, hc1, rfl, rfl⟩
  have hI1 := hI.root ht (by rw [hon]; exact hr) hu
  obtain ⟨hz1, hzz1⟩ := hz.enter (by rw [hsl]; exact hr) hu []
  have hm1 : ∀ u, s.ord u ≠ 0 ∨ u = root → (s.enter root []).ord u ≠ 0 := fun u hu' => by
    have : (s.enter root []).ord u = if u = root then s.order + 1 else s.ord u := by
      unfold Gph.Ts.ord Gph.Ts.enter
      simp only [Gph.getD_set _ _ _ _ (by rw [hsl]; exact hr : root < s.seen.length)]
      split <;> rfl
    rw [this]
    split
    · omega
    · rename_i hne
      exact hu'.resolve_right hne
  refine m_run ?_
  (apply TL.buildSlice (l := seenC [(root, 0)]); exact rfl; exact tb rfl; exact rfl; exact tb rfl; exact rfl; exact rfl; exact rfl; exact rfl; exact rfl)
  intro b11
  refine m_run ?_
  refine TK.imp (Δ := FM bf oB sB fB n H1 hc1 P pc rows (s.enter root []) (TD (some ⟨b11, 0, none⟩) 1 [(root, 0)] :: X)) (fun m hm => ?_) ?_
  · refine all_perm (List.perm_middle (l₁ := [_, _, _, _, _, _])).symm ?_
    exact sep_mono hm (fun _ h => own_row (n := 1) rfl (by decide) h) fun _ h => h
  apply TK.iter (fun j ρ' Γ' => ∃ (H : Option Addr) (hc : Nat) (P : Option Addr) (pc : Nat) (rows : List Rw) (s2 : Gph.Ts) (T : Option Addr) (tk : Nat) (X' : List HP), 2 * Gph.zeros s2 + s2.todo.length = j ∧ X.Sublist X' ∧ Gph.Inv (outR.map Rw.w) s2 ∧ Gph.Szd n s2 ∧ s2.parts = rows.map Rw.w ∧ (∀ u, s.ord u ≠ 0 ∨ u = root → s2.ord u ≠ 0) ∧ lk ρ' 0 = .pointer (some ⟨bf, 0, none⟩) ∧ lk ρ' 4 = .slice T s2.todo.length tk ∧ Γ' = FM bf oB sB fB n H hc P pc rows s2 (TD T tk s2.todo :: X')) (2 * Gph.zeros (s.enter root []) + 1)
  · exact ⟨H1, hc1, P, pc, rows, s.enter root [], some ⟨b11, 0, none⟩, 1, X, rfl, .refl _, hI1, hz1, hp, hm1, rfl, rfl, rfl⟩
  clear hI hz hI1 hz1 hm1 hzz1 hp hu hb1 hb2 hsl ht
  rintro j IH ρ' _ ⟨H, hc, P, pc, rows, s2, T, tk, X', hj, hXX, hI, hz, hp, hmo, e0, e4, rfl⟩
  refine TK.know2 e0 e4 ?_
  have hsl := hI.lseen
  have hb1 := hI.held_le
  have hb2 := hz.cn
  have hb3 := hI.todo_le
  have hb4 := hI.parts_le
  rw [hon] at hsl hb1 hb3 hb4
  rw [hp, List.length_map] at hb4
  rcases List.eq_nil_or_concat s2.todo with htd | ⟨T0, ⟨a, i0⟩, htd⟩
  · have h0 : s2.todo.length = 0 := by rw [htd]; rfl
    refine m_run ?_
    exact TK.over0 rfl rfl ⟨_, rfl, rfl, H, hc, P, pc, rows, s2, _, .cons _ hXX, hI, hz, htd, hp, hmo, rfl⟩
  rw [List.concat_eq_append] at htd
  have hlen : s2.todo.length = T0.length + 1 := by rw [htd]; simp
  refine TK.mem fun m0 hm0 => ?_
  obtain ⟨tB, rfl⟩ := own_addr_at 6 rfl hm0 (by omega)
  clear hm0 m0
  refine m_run ?_
  refine TL.know (t := 18) (v := .int .i64 (T0.length : Int)) (congrArg (Value.int .i64) (by rw [i64_in (by omega) (by omega)]; omega)) ?_
  refine m_run ?_
  obtain ⟨hag, _, _, _⟩ := hI.top htd
  have han : a < n := by rw [← hon]; exact hI.lt ((hI.hiff a).1 (hI.gmem hag)).1
  obtain ⟨r, hr⟩ : ∃ r, outR[a]? = some r := ⟨outR[a], List.getElem?_eq_getElem (by omega)⟩
  have hrl := hdeg r (List.mem_of_getElem? hr)
  rw [htd]
  obtain ⟨z0, hz0⟩ : ∃ z, Gph.zeros s2 = z := ⟨_, rfl⟩
  have hT0 : (T0 ++ [(a, i0)]).length = T0.length + 1 := by simp
  have hni := hI.tnext (a, i0) (by rw [htd]; simp)
  rw [hEg hr] at hni
  apply TK.iter (fun j2 ρ' Γ' => ∃ (i : Nat) (s3 : Gph.Ts), i + j2 = r.w.length ∧ Gph.zeros s3 = z0 ∧ s3.todo = T0 ++ [(a, i)] ∧ Gph.Inv (outR.map Rw.w) s3 ∧ Gph.Szd n s3 ∧ s3.parts = rows.map Rw.w ∧ (∀ u, s.ord u ≠ 0 ∨ u = root → s3.ord u ≠ 0) ∧ lk ρ' 0 = .pointer (some ⟨bf, 0, none⟩) ∧ lk ρ' 4 = .slice (some ⟨tB, 0, none⟩) (T0.length + 1) tk ∧ lk ρ' 5 = .pointer (some ⟨tB, T0.length * 2, none⟩) ∧ Γ' = FM bf oB sB fB n H hc P pc rows s3 (TD (some ⟨tB, 0, none⟩) tk (T0 ++ [(a, i)]) :: X')) (r.w.length - i0)
  · exact ⟨i0, s2, by simp only at hni; omega, hz0, htd, hI, hz, hp, hmo, rfl, congrArg (fun z => Value.slice _ z _) hT0, rfl, rfl⟩
  rw [hlen, hz0] at hj
  clear hI hz hp hmo hz0 htd hlen hsl hb1 hb2 hb3 hb4 hni e0 e4 hag
  rintro j2 IH2 ρ' _ ⟨i, s3, hij, hz0, htd, hI, hz, hp, hmo, e0, e4, e5, rfl⟩
  refine TK.know3 e0 e4 e5 ?_
  have hsl := hI.lseen
  have hfl := hI.lof
  have hb1 := hI.held_le
  have hb2 := hz.cn
  have hb3 := hI.todo_le
  have hb4 := hI.parts_le
  rw [hon] at hsl hfl hb1 hb3 hb4
  rw [hp, List.length_map] at hb4
  rw [htd, List.length_append, List.length_singleton] at hb3
  obtain ⟨hag, hT1, hT2, _⟩ := hI.top htd
  have hah := hI.gmem hag
  have hTi : (T0 ++ [(a, i)])[T0.length]? = some (a, i) := by simp
  have hRow : Rows (some ⟨oB, 0, none⟩) outR (FM bf oB sB fB n H hc P pc rows s3 (TD (some ⟨tB, 0, none⟩) tk (T0 ++ [(a, i)]) :: X')) := (hO.sub hXX).tl.tl.tl.tl.tl.tl.tl
  have hout := hRow.v rfl hr
  rw [Nat.zero_add] at hout
  have htop : has (FM bf oB sB fB n H hc P pc rows s3 (TD (some ⟨tB, 0, none⟩) tk (T0 ++ [(a, i)]) :: X')) (fun m => cellsAt m tB (0 + T0.length * 2) (seC (a, i))) := has_el seC_len (by decide) (has_at (up_src _ _ _ _) 6 rfl fun _ h => own_src h) hTi
  rw [Nat.zero_add] at htop
  have hnode := has_imp htop (q := fun m => cellAt m tB (T0.length * 2) (.int .i64 (a : Int))) fun m hm => hm 0 _ rfl
  have hnext := has_imp htop (q := fun m => cellAt m tB (T0.length * 2 + 1) (.int .i64 (i : Int))) fun m hm => hm 1 _ rfl
  refine m_run ?_
  refine TK.drawS mixed rfl ?_
  refine m_take (At.mk : At 0) ?_; refine m_take (At.mk : At 1) ?_; refine m_take (At.mk : At 2) ?_; refine m_take (At.mk : At 3) ?_; refine m_take (At.mk : At 4) ?_; refine m_take (At.mk : At 5) ?_; refine m_take (At.mk : At 6) ?_; refine m_take (At.mk : At 7) ?_; refine m_take (At.mk : At 8) ?_; refine m_take (At.mk : At 9) ?_; refine m_take (At.mk : At 10) ?_; refine m_take (At.mk : At 11) ?_; refine m_take (At.mk : At 12) ?_; refine m_take (At.mk : At 13) ?_; refine m_take (At.mk : At 14) ?_; refine m_take (At.mk : At 15) ?_
  refine TA.done (by kernel_rfl) ?_
  by_cases hi : i < r.w.length
  · obtain ⟨to, hto⟩ : ∃ to, r.w[i]? = some to := ⟨r.w[i], List.getElem?_eq_getElem hi⟩
    have hEd : Gph.Edge (outR.map Rw.w) a to := by
      unfold Gph.Edge
      rw [hEg hr]
      exact List.mem_of_getElem? hto
    have hton : to < n := by rw [← hon]; exact hI.ok _ _ hEd
    have hrow := hRow.row r (List.mem_of_getElem? hr)
    refine TK.mem fun m0 hm0 => ?_
    obtain ⟨rA, rc, rw_⟩ := r
    obtain ⟨rb, ro, rfl⟩ : ∃ b o, rA = some ⟨b, o, none⟩ := src_some (hrow m0 hm0) (by rw [ints_len]; simp only at hi ⊢; omega)
    clear hm0 m0
    have hcto := has_ints hrow hto
    refine m_run ?_
    refine TK.drawS mixed rfl ?_
    refine m_take (At.mk : At 0) ?_; refine m_take (At.mk : At 1) ?_; refine m_take (At.mk : At 2) ?_; refine m_take (At.mk : At 3) ?_; refine m_take (At.mk : At 4) ?_; refine m_take (At.mk : At 5) ?_; refine m_take (At.mk : At 6) ?_; refine m_take (At.mk : At 7) ?_; refine m_take (At.mk : At 8) ?_; refine m_take (At.mk : At 9) ?_; refine m_take (At.mk : At 10) ?_; refine m_take (At.mk : At 11) ?_; refine m_take (At.mk : At 12) ?_; refine m_take (At.mk : At 13) ?_; refine m_take (At.mk : At 14) ?_; refine m_take (At.mk : At 15) ?_; refine m_take (At.mk : At 16) ?_
    refine TA.done (by kernel_rfl) ?_
    refine m_run ?_
    refine TL.know (t := 56) (v := .int .i64 ((i + 1 : Nat) : Int)) (congrArg (Value.int .i64) (i64_succ i (by omega))) ?_
    have hset : (T0 ++ [(a, i)]).set T0.length (a, i + 1) = T0 ++ [(a, i + 1)] := by simp
    (apply TL.storeOwnF 6 (T0.length * 2 + 1) (cs' := seenC (T0 ++ [(a, i + 1)])); exact rfl; exact rfl; (exact m_val); exact rfl; exact tb rfl; exact rfl; exact rfl; exact (by simp; omega); exact (by rw [← hset]; exact set_flat seC 2 seC_len _ _ _ _ 1 _ hTi (by decide) rfl); exact rfl)
    have hse : s3.seen[to]? = some (s3.ord to, s3.low to) := Gph.ord_get (by rw [hsl]; exact hton)
    have hseen : has (FM bf oB sB fB n H hc P pc rows s3 (TD (some ⟨tB, 0, none⟩) tk (T0 ++ [(a, i + 1)]) :: X')) (fun m => cellsAt m sB (0 + to * 2) (seC (s3.ord to, s3.low to))) := has_el seC_len (by decide) (has_at (up_src _ _ _ _) 1 rfl fun _ h => own_src h) hse
    rw [Nat.zero_add] at hseen
    refine TL.imp (Δ := FM bf oB sB fB n H hc P pc rows s3 (TD (some ⟨tB, 0, none⟩) tk (T0 ++ [(a, i + 1)]) :: X')) (fun m hm => by
      have e : (T0 ++ [(a, i + 1)]).length = (T0 ++ [(a, i)]).length := by simp
      show all (FM bf oB sB fB n H hc P pc rows s3 (own 115 2 (.slice (some ⟨tB, 0, none⟩) (T0 ++ [(a, i + 1)]).length tk) (T0 ++ [(a, i + 1)]).length (seenC (T0 ++ [(a, i + 1)])) :: X')) m
      rw [e]; exact hm) ?_
    clear hnode hnext htop hRow hout hrow hcto
    refine m_run ?_
    (apply TL.pv; exact rfl; (apply PV.build tabs; exact rfl; exact rfl; exact rfl; exact rfl; exact rfl; exact (rfl : _ = seC (0, 0))))
    (apply TL.pv; exact rfl; (apply PV.eqSt (xs := seC (s3.ord to, s3.low to)) (ys := seC (0, 0)) tabs; exact rfl; exact rfl; exact rfl; exact rfl; kernel_rfl; kernel_rfl; exact congrArg some (seen_eq _ _)))
    by_cases ho : s3.ord to = 0
    · have hl0 : s3.low to = 0 := hz.low (by rw [hsl]; exact hton) ho
      refine TL.know (t := 68) (v := .bool true) (congrArg Value.bool (by rw [ho, hl0]; rfl)) ?_
      refine m_run ?_
      (apply TL.callV; exact rfl; exact callB_of (by kernel_rfl); exact rfl; exact fun _ h => h)
      exact enterF_t bf sB n _ _ _ H hc s3.seen s3.held s3.order to _ hton hsl (by omega) (by omega)
      rintro _ _ ⟨H1, hc1, rfl, rfl⟩
      refine m_run ?_
      (apply TL.buildSlice (l := seenC [(to, 0)]); exact rfl; exact tb rfl; exact rfl; exact tb rfl; exact rfl; exact rfl; exact rfl; exact rfl; exact rfl)
      intro b73
      refine m_run ?_
      (apply TL.append 7 (n := T0.length + 1) (m := 1) (cs := seenC (T0 ++ [(a, i + 1)])) (news := seenC [(to, 0)]); exact rfl; exact rfl; exact tb rfl; exact rfl; exact tb rfl; exact rfl; exact rfl; exact rfl)
      · intro m h
        have e : (T0 ++ [(a, i + 1)]).length = T0.length + 1 := by simp
        rw [← e]
        exact h
      · exact rfl
      · exact has_src_row 0 rfl rfl
      · exact fun u hu => by
          rcases List.mem_cons.1 hu with rfl | hu
          · rfl
          · rw [List.mem_singleton.1 hu]; rfl
      · show (T0.length + 1 + 1) * 16 ≤ _; omega
      · show T0.length + 1 + 1 ≤ maxLen; unfold maxLen; omega
      · exact fun _ => (rfl : _ = _ :: _ :: _ :: _ :: _ :: _ :: _ :: _ :: _)
      intro A4 c4 hc4
      rw [show seenC (T0 ++ [(a, i + 1)]) ++ seenC [(to, 0)] = seenC (T0 ++ [(a, i + 1)] ++ [(to, 0)]) by simp [seenC], show T0.length + 1 + 1 = (T0 ++ [(a, i + 1)] ++ [(to, 0)]).length by simp]
      obtain ⟨hz1, hzz⟩ := hz.enter (by rw [hsl]; exact hton) ho (T0 ++ [(a, i + 1)])
      refine m_run ?_
      refine TK.perm (List.perm_middle (l₁ := [_, _, _, _, _, _, _])).symm ?_
      refine IH (j - 1) _ _ (by omega) ⟨H1, hc1, P, pc, rows, s3.enter to (T0 ++ [(a, i + 1)]), A4, c4, row b73 (seenC [(to, 0)]) 115 :: X', ?_, .cons _ hXX, hI.push htd (by rw [hEg hr]; exact hto) ho, hz1, hp, fun u hu => ?_, rfl, rfl, rfl⟩
      · show 2 * _ + (T0 ++ [(a, i + 1)] ++ [(to, 0)]).length = _
        simp only [List.length_append, List.length_singleton]
        omega
      · have : (s3.enter to (T0 ++ [(a, i + 1)])).ord u = if u = to then s3.order + 1 else s3.ord u := by
          unfold Gph.Ts.ord Gph.Ts.enter
          simp only [Gph.getD_set _ _ _ _ (by rw [hsl]; exact hton : to < s3.seen.length)]
          split <;> rfl
        rw [this]
        split
        · omega
        · exact hmo u hu
    have hpe : s3.of[to]? = some (s3.pt to) := by
      unfold Gph.Ts.pt
      rw [List.getD_eq_getElem?_getD, List.getElem?_eq_getElem (by omega)]
      rfl
    refine TL.know (t := 68) (v := .bool false) (congrArg Value.bool (by rw [decide_eq_false ho]; rfl)) ?_
    have hal : a < s3.seen.length := by rw [hsl]; exact han
    have hoa : s3.ord a ≠ 0 := ((hI.hiff a).1 hah).1
    have hsa := Gph.ord_get hal
    cases hpt : s3.pt to with
    | none =>
      rw [hpt] at hpe
      have hth := (hI.hiff to).2 ⟨ho, hpt⟩
      have hof : has (FM bf oB sB fB n H hc P pc rows s3 (TD (some ⟨tB, 0, none⟩) tk (T0 ++ [(a, i + 1)]) :: X')) (fun m => cellAt m fB to (.int .i64 (-1))) := has_at (up_cell _ _ _) 3 rfl fun _ h => ofs_cell hpe h
      refine m_run ?_
      have hTi' : (T0 ++ [(a, i + 1)])[T0.length]? = some (a, i + 1) := by simp
      have hE := ent_seen (bf := bf) (oB := oB) (sB := sB) (fB := fB) (n := n) (H := H) (hc := hc) (P := P) (pc := pc) (rows := rows) (s := s3) (X := TD (some ⟨tB, 0, none⟩) tk (T0 ++ [(a, i + 1)]) :: X') (φ := fun l => ∃ x, l[to]? = some (s3.ord to, x)) (l := s3.seen) ⟨_, hse⟩
      have ho1 : has (FK bf oB sB fB n H hc P pc rows s3 (seenW sB n fun l => ∃ x, l[to]? = some (s3.ord to, x)) (TD (some ⟨tB, 0, none⟩) tk (T0 ++ [(a, i + 1)]) :: X')) (fun m => cellAt m sB (to * 2) (.int .i64 (s3.ord to : Int))) := has_at (up_cell _ _ _) 1 rfl fun _ h => seenW_cell (k := 0) (fun l ⟨x, hx⟩ => ⟨_, hx, rfl⟩) h
      have hn1 : has (FK bf oB sB fB n H hc P pc rows s3 (seenW sB n fun l => ∃ x, l[to]? = some (s3.ord to, x)) (TD (some ⟨tB, 0, none⟩) tk (T0 ++ [(a, i + 1)]) :: X')) (fun m => cellAt m tB (T0.length * 2) (.int .i64 (a : Int))) := has_at (up_cell _ _ _) 6 rfl fun _ h => own_cells seC_len (by decide) h hTi' 0 _ rfl
      refine TK.drawE mixed rfl (FK bf oB sB fB n H hc P pc rows s3 (seenW sB n fun l => ∃ x, l[to]? = some (s3.ord to, x)) (TD (some ⟨tB, 0, none⟩) tk (T0 ++ [(a, i + 1)]) :: X')) ?_
      refine m_take (At.mk : At 0) ?_; refine m_take (At.mk : At 1) ?_; refine m_take (At.mk : At 2) ?_; refine m_take (At.mk : At 3) ?_; refine m_take (At.mk : At 4) ?_; refine m_take (At.mk : At 5) ?_; refine m_take (At.mk : At 6) ?_; refine m_take (At.mk : At 7) ?_; refine m_take (At.mk : At 8) ?_; refine m_take (At.mk : At 9) ?_; refine m_take (At.mk : At 10) ?_; refine m_take (At.mk : At 11) ?_; refine m_take (At.mk : At 12) ?_
      (apply TA.one 13; kernel_rfl; exact rfl)
      (apply TL.callV; exact rfl; exact callB_of (by kernel_rfl); exact rfl; exact fun _ h => h)
      exact lowerF_t bf sB n _ _ _ _ _ s3.seen a (s3.ord to) (s3.ord a) (s3.low a) _ hsa hsl
      rintro _ _ ⟨rfl, rfl⟩
      have hE2 := ent_seen (bf := bf) (oB := oB) (sB := sB) (fB := fB) (n := n) (H := H) (hc := hc) (P := P) (pc := pc) (rows := rows) (s := s3) (X := TD (some ⟨tB, 0, none⟩) tk (T0 ++ [(a, i + 1)]) :: X') (φ := fun l => ∃ x, l[to]? = some (s3.ord to, x)) (l := s3.seen.set a (s3.ord a, min (s3.low a) (s3.ord to))) (by
        rw [List.getElem?_set]
        by_cases hat : a = to
        · subst hat; simp [hal]
        · rw [if_neg hat]; exact ⟨_, hse⟩)
      refine TL.back hE2 ?_
      refine TA.done (by kernel_rfl) ?_
      obtain ⟨hz1, hzz⟩ := hz.lower (l := min (s3.low a) (s3.ord to)) hal hoa (T0 ++ [(a, i + 1)])
      refine m_run ?_
      exact IH2 (j2 - 1) _ _ (by omega) ⟨i + 1, s3.lower a (min (s3.low a) (s3.ord to)) (T0 ++ [(a, i + 1)]), by omega, by omega, rfl, hI.lower htd (by rw [hEg hr]; exact hto) ho (Nat.min_le_left _ _) (by rcases Nat.le_total (s3.low a) (s3.ord to) with h | h; exact .inl (Nat.min_eq_left h); exact .inr ⟨hth, Nat.min_eq_right h⟩) (fun _ => Nat.min_le_right _ _), hz1, hp, fun u hu => by rw [s3.lower_ord hal]; exact hmo u hu, rfl, rfl, rfl, rfl⟩
    | some kp =>
      rw [hpt] at hpe
      have hnth : to ∉ s3.held := fun h => by have := ((hI.hiff to).1 h).2; rw [hpt] at this; cases this
      have hof : has (FM bf oB sB fB n H hc P pc rows s3 (TD (some ⟨tB, 0, none⟩) tk (T0 ++ [(a, i + 1)]) :: X')) (fun m => cellAt m fB to (.int .i64 (kp : Int))) := has_at (up_cell _ _ _) 3 rfl fun _ h => ofs_cell hpe h
      obtain ⟨hz1, hzz⟩ := hz.lower (l := s3.low a) hal hoa (T0 ++ [(a, i + 1)])
      have hI' := hI.lower (l := s3.low a) htd (by rw [hEg hr]; exact hto) ho (Nat.le_refl _) (.inl rfl) (fun h => absurd h hnth)
      rw [Gph.Ts.lower_self] at hI' hz1 hzz
      refine m_run ?_
      exact IH2 (j2 - 1) _ _ (by omega) ⟨i + 1, _, by omega, by omega, rfl, hI', hz1, hp, hmo, rfl, rfl, rfl, rfl⟩
  clear IH2
  obtain rfl : i = r.w.length := by omega
  obtain ⟨A, B, hAB⟩ : ∃ A B, s3.held = A ++ a :: B := List.append_of_mem hah
  have haA : a ∉ A := by
    have := hI.held_nodup
    rw [hAB, List.nodup_append] at this
    exact fun h => this.2.2 a h a (List.mem_cons_self ..) rfl
  have hBn : ∀ u ∈ a :: B, u < n := fun u hu => by rw [← hon]; exact hI.lt ((hI.hiff u).1 (by rw [hAB]; exact List.mem_append_right _ hu)).1
  have hal : a < s3.seen.length := by rw [hsl]; exact han
  have hoa : s3.ord a ≠ 0 := ((hI.hiff a).1 hah).1
  have hpa : s3.pt a = none := ((hI.hiff a).1 hah).2
  have hsa := Gph.ord_get hal
  have htkT : (seenC (T0 ++ [(a, r.w.length)])).take (T0.length * 2) = seenC T0 := by
    show (List.flatMap seC (T0 ++ [(a, r.w.length)])).take _ = _
    rw [List.flatMap_append, ← seenC_len T0, List.take_left']
    rfl
  refine TK.mem fun m0 hm0 => ?_
  obtain ⟨hB, rfl⟩ := own_addr_at 2 rfl hm0 (by rw [hAB, List.length_append, List.length_cons]; omega)
  have hhc := own_cap_at 2 rfl hm0
  have htk := own_cap_at 6 rfl hm0
  clear hm0 m0
  rw [List.length_append, List.length_singleton] at htk
  refine m_run ?_
  (apply TL.callV; exact rfl; exact callB_of (by kernel_rfl); exact rfl; exact fun _ h => h)
  exact leaveF_t bf sB fB hB n _ hc P pc s3.seen s3.held s3.of s3.order rows a (s3.ord a) (s3.low a) A B _ hsa hAB haA hBn hfl (by omega) (by omega) (by omega) hhc
  rintro _ _ ⟨rfl, ⟨hlo, rfl⟩ | ⟨hlo, P', pc', rp, hpm, hps, rfl⟩⟩
  · obtain ⟨T', w, jj, hTT, hI'⟩ := hI.drop htd (by rw [hEg hr]; exact Nat.le_refl _) hlo
    have hTl : T0.length = T'.length + 1 := by rw [hTT]; simp
    obtain ⟨hwa, hwg⟩ := hT1 w (by rw [hTT]; simp)
    have hwh := hI.gmem hwg
    have hwl : w < s3.seen.length := by rw [hI.lseen]; exact hI.lt ((hI.hiff w).1 hwh).1
    have how : s3.ord w ≠ 0 := ((hI.hiff w).1 hwh).1
    have hwne : w ≠ a := fun e => by rw [e] at hwa; omega
    have hsw := Gph.ord_get hwl
    refine m_run ?_
    refine TL.know (t := 108) (v := .int .i64 (T0.length : Int)) (congrArg (Value.int .i64) (by rw [i64_in (by omega) (by omega)]; omega)) ?_
    (apply TL.sliceHi; exact rfl; exact rfl; exact rfl; exact tb rfl; exact rfl; exact tb rfl; exact (by omega); exact (by omega))
    refine TL.know (t := 109) (v := .slice (some ⟨tB, 0, none⟩) T0.length tk) rfl ?_
    refine TL.imp (Δ := FM bf oB sB fB n (some ⟨hB, 0, none⟩) hc P pc rows s3 (TD (some ⟨tB, 0, none⟩) tk T0 :: X')) (fun m hm => ?_) ?_
    · refine sep_mono hm (fun _ h => h) fun _ hm => sep_mono hm (fun _ h => h) fun _ hm => sep_mono hm (fun _ h => h) fun _ hm => sep_mono hm (fun _ h => h) fun _ hm => sep_mono hm (fun _ h => h) fun _ hm => sep_mono hm (fun _ h => h) fun _ hm => sep_mono hm (fun q hq => ?_) (fun _ h => h)
      have := own_shrink hq (j := T0.length) (by simp)
      rw [htkT] at this
      exact this
    have hpe : s3.of[a]? = some none := by
      rw [← hpa]
      unfold Gph.Ts.pt
      rw [List.getD_eq_getElem?_getD, List.getElem?_eq_getElem (by omega)]
      rfl
    have hof : has (FM bf oB sB fB n (some ⟨hB, 0, none⟩) hc P pc rows s3 (TD (some ⟨tB, 0, none⟩) tk T0 :: X')) (fun m => cellAt m fB a (.int .i64 (-1))) := has_at (up_cell _ _ _) 3 rfl fun _ h => ofs_cell hpe h
    refine m_run ?_
    have hTw : T0[T'.length]? = some (w, jj) := by rw [hTT]; simp
    have hE := ent_seen (bf := bf) (oB := oB) (sB := sB) (fB := fB) (n := n) (H := some ⟨hB, 0, none⟩) (hc := hc) (P := P) (pc := pc) (rows := rows) (s := s3) (X := TD (some ⟨tB, 0, none⟩) tk T0 :: X') (φ := fun l => l[a]? = some (s3.ord a, s3.low a)) (l := s3.seen) hsa
    have ho1 : has (FK bf oB sB fB n (some ⟨hB, 0, none⟩) hc P pc rows s3 (seenW sB n fun l => l[a]? = some (s3.ord a, s3.low a)) (TD (some ⟨tB, 0, none⟩) tk T0 :: X')) (fun m => cellAt m sB (a * 2 + 1) (.int .i64 (s3.low a : Int))) := has_at (up_cell _ _ _) 1 rfl fun _ h => seenW_cell (k := 1) (fun l hx => ⟨_, hx, rfl⟩) h
    have hn1 : has (FK bf oB sB fB n (some ⟨hB, 0, none⟩) hc P pc rows s3 (seenW sB n fun l => l[a]? = some (s3.ord a, s3.low a)) (TD (some ⟨tB, 0, none⟩) tk T0 :: X')) (fun m => cellAt m tB (T'.length * 2) (.int .i64 (w : Int))) := has_at (up_cell _ _ _) 6 rfl fun _ h => own_cells seC_len (by decide) h hTw 0 _ rfl
    refine TK.drawE mixed rfl (FK bf oB sB fB n (some ⟨hB, 0, none⟩) hc P pc rows s3 (seenW sB n fun l => l[a]? = some (s3.ord a, s3.low a)) (TD (some ⟨tB, 0, none⟩) tk T0 :: X')) ?_
    refine m_take (At.mk : At 0) ?_; refine m_take (At.mk : At 1) ?_; refine m_take (At.mk : At 2) ?_; refine m_take (At.mk : At 3) ?_; refine m_take (At.mk : At 4) ?_
    refine TA.know (t := 127) (v := .int .i64 (T'.length : Int)) (congrArg (Value.int .i64) (by rw [i64_in (by omega) (by omega)]; omega)) ?_
    refine m_take (At.mk : At 5) ?_; refine m_take (At.mk : At 6) ?_; refine m_take (At.mk : At 7) ?_; refine m_take (At.mk : At 8) ?_; refine m_take (At.mk : At 9) ?_; refine m_take (At.mk : At 10) ?_; refine m_take (At.mk : At 11) ?_; refine m_take (At.mk : At 12) ?_; refine m_take (At.mk : At 13) ?_; refine m_take (At.mk : At 14) ?_; refine m_take (At.mk : At 15) ?_
    (apply TA.one 16; kernel_rfl; exact rfl)
    (apply TL.callV; exact rfl; exact callB_of (by kernel_rfl); exact rfl; exact fun _ h => h)
    exact lowerF_t bf sB n _ _ _ _ _ s3.seen w (s3.low a) (s3.ord w) (s3.low w) _ hsw hsl
    rintro _ _ ⟨rfl, rfl⟩
    have hE2 := ent_seen (bf := bf) (oB := oB) (sB := sB) (fB := fB) (n := n) (H := some ⟨hB, 0, none⟩) (hc := hc) (P := P) (pc := pc) (rows := rows) (s := s3) (X := TD (some ⟨tB, 0, none⟩) tk T0 :: X') (φ := fun l => l[a]? = some (s3.ord a, s3.low a)) (l := s3.seen.set w (s3.ord w, min (s3.low w) (s3.low a))) (by
      rw [List.getElem?_set, if_neg hwne]
      exact hsa)
    refine TL.back hE2 ?_
    refine TA.done (by kernel_rfl) ?_
    obtain ⟨hz1, hzz⟩ := hz.lower (l := min (s3.low w) (s3.low a)) hwl how T0
    refine m_run ?_
    exact IH (j - 1) _ _ (by omega) ⟨some ⟨hB, 0, none⟩, hc, P, pc, rows, s3.lower w (min (s3.low w) (s3.low a)) T0, some ⟨tB, 0, none⟩, tk, X', by show 2 * _ + T0.length = _; omega, hXX, hI', hz1, hp, fun u hu => by rw [s3.lower_ord hwl]; exact hmo u hu, rfl, rfl, rfl⟩
  have hpn : ∀ u ∈ rp.w, u < s3.of.length := fun u hu => by rw [hfl]; exact hBn u (hpm.mem_iff.1 hu)
  have hI' := hI.part (p := rp.w) (of' := setAll rows.length s3.of rp.w) htd (by rw [hEg hr]; exact Nat.le_refl _) hlo hAB (Gph.sorted_lt hps (hpm.nodup_iff.2 (by
    have := hI.held_nodup
    rw [hAB, List.nodup_append] at this
    exact this.2.1))) (fun u => hpm.mem_iff) (setAll_len _ _ _) (fun u => by
    rw [setAll_get _ _ _ hpn, hp, List.length_map]; rfl)
  have hpe : (setAll rows.length s3.of rp.w)[a]? = some (some rows.length) := by
    have h1 := setAll_get rows.length rp.w s3.of hpn a
    rw [if_pos (hpm.mem_iff.2 (List.mem_cons_self ..)), List.getD_eq_getElem?_getD] at h1
    cases h2 : (setAll rows.length s3.of rp.w)[a]? with
    | none => rw [h2] at h1; cases h1
    | some x => rw [h2] at h1; simp only [Option.getD_some] at h1; rw [h1]
  refine m_run ?_
  refine TL.know (t := 108) (v := .int .i64 (T0.length : Int)) (congrArg (Value.int .i64) (by rw [i64_in (by omega) (by omega)]; omega)) ?_
  (apply TL.sliceHi; exact rfl; exact rfl; exact rfl; exact tb rfl; exact rfl; exact tb rfl; exact (by omega); exact (by omega))
  refine TL.know (t := 109) (v := .slice (some ⟨tB, 0, none⟩) T0.length tk) rfl ?_
  refine TL.imp (Δ := FM bf oB sB fB n (some ⟨hB, 0, none⟩) hc P' pc' (rows ++ [rp]) ⟨s3.seen, A, setAll rows.length s3.of rp.w, s3.parts ++ [rp.w], s3.order, T0⟩ (TD (some ⟨tB, 0, none⟩) tk T0 :: X')) (fun m hm => ?_) ?_
  · refine sep_mono hm (fun _ h => h) fun _ hm => sep_mono hm (fun _ h => h) fun _ hm => sep_mono hm (fun _ h => h) fun _ hm => sep_mono hm (fun _ h => h) fun _ hm => sep_mono hm (fun _ h => h) fun _ hm => sep_mono hm (fun _ h => h) fun _ hm => sep_mono hm (fun q hq => ?_) (fun _ h => h)
    have := own_shrink hq (j := T0.length) (by simp)
    rw [htkT] at this
    exact this
  have hof : has (FM bf oB sB fB n (some ⟨hB, 0, none⟩) hc P' pc' (rows ++ [rp]) ⟨s3.seen, A, setAll rows.length s3.of rp.w, s3.parts ++ [rp.w], s3.order, T0⟩ (TD (some ⟨tB, 0, none⟩) tk T0 :: X')) (fun m => cellAt m fB a (.int .i64 (rows.length : Int))) := has_at (up_cell _ _ _) 3 rfl fun _ h => ofs_cell hpe h
  by_cases hT0 : T0.length = 0
  · refine m_run ?_
    exact IH (j - 1) _ _ (by omega) ⟨some ⟨hB, 0, none⟩, hc, P', pc', rows ++ [rp], ⟨s3.seen, A, setAll rows.length s3.of rp.w, s3.parts ++ [rp.w], s3.order, T0⟩, some ⟨tB, 0, none⟩, tk, X', by show 2 * Gph.zeros s3 + T0.length = _; omega, hXX, hI', ⟨hz.zl, hz.cn⟩, by simp [hp], hmo, rfl, rfl, rfl⟩
  · refine m_run ?_
    exact IH (j - 1) _ _ (by omega) ⟨some ⟨hB, 0, none⟩, hc, P', pc', rows ++ [rp], ⟨s3.seen, A, setAll rows.length s3.of rp.w, s3.parts ++ [rp.w], s3.order, T0⟩, some ⟨tB, 0, none⟩, tk, X', by show 2 * Gph.zeros s3 + T0.length = _; omega, hXX, hI', ⟨hz.zl, hz.cn⟩, by simp [hp], hmo, rfl, rfl, rfl⟩
end Go.Proofs.Ytndmjpceocecdaa.E

/- slices.Repeat of one number: walked; make of rows of any size. -/
namespace Go.Proofs.Ytndmjpceocecdaa.E
open Go Go.RowKit Go.Proofs
attribute [local irreducible] TK TL TQ TA TB Fn PV
set_option maxRecDepth 100000 in
theorem mul64_t (n : Nat) (hn : n ≤ 1000000) (Γ : List HP) : FnV Try.prog 85 [.int .u64 ((1 : Nat) : Int), .int .u64 (n : Int)] Γ fun v Γ' => v = .tuple #[.int .u64 0, .int .u64 (n : Int)] ∧ Γ' = Γ := by
  refine Fn.enter Try.func85 rfl rfl rfl fun E => ?_
  have h1 : n % 2 ^ 32 = n := by omega
  have h2 : n / 2 ^ 32 = 0 := by omega
  refine m_run ?_
  rw [h1, h2]
  have hM : ((2 : Int) ^ IntKind.u64.bits).natAbs = 18446744073709551616 := rfl
  have h0 : (1 / 2 ^ 32 * n % ((2 : Int) ^ IntKind.u64.bits).natAbs + 1 % 2 ^ 32 * n % ((2 : Int) ^ IntKind.u64.bits).natAbs / 2 ^ 32) % ((2 : Int) ^ IntKind.u64.bits).natAbs = 0 := by
    rw [hM, show 1 / 2 ^ 32 = 0 from rfl, show 1 % 2 ^ 32 = 1 from rfl, Nat.zero_mul, Nat.one_mul]; omega
  rw [h0]
  refine TK.know (t := 5) (v := .int .u64 (n : Int)) (show Value.int .u64 (IntKind.u64.wrap (((1 : Nat) : Int) * (n : Int))) = _ from congrArg (Value.int .u64) (by rw [Int.natCast_one, Int.one_mul]; exact u64_in (by omega) (by omega))) ?_
  refine TK.know (t := 4) (v := .int .u64 0) (by kernel_rfl) ?_
  (apply TK.retS2; exact rfl; exact rfl; (exact m_val); (exact m_val))
  · exact ⟨_, rfl, rfl, rfl⟩
  · (repeat (first | exact List.Sublist.refl _ | apply List.Sublist.cons_cons | apply List.Sublist.cons))
theorem mul_t (n : Nat) (hn : n ≤ 1000000) (Γ : List HP) : FnV Try.prog 68 [.int .u64 ((1 : Nat) : Int), .int .u64 (n : Int)] Γ fun v Γ' => v = .tuple #[.int .u64 0, .int .u64 (n : Int)] ∧ Γ' = Γ := by
  refine Fn.enter Try.func68 rfl rfl rfl fun E => ?_
  refine m_run ?_
  (apply TL.callV; exact rfl; exact callB_of (by kernel_rfl); exact rfl; exact fun _ h => h)
  exact mul64_t n hn _
  rintro _ _ ⟨rfl, rfl⟩
  refine m_run ?_
  (apply TK.retS2; exact rfl; exact rfl; (exact m_val); (exact m_val))
  · exact ⟨_, rfl, rfl, rfl⟩
  · (repeat (first | exact List.Sublist.refl _ | apply List.Sublist.cons_cons | apply List.Sublist.cons))
section
variable {cx : Cx} {ops : Array Oper} {K : Act → World → Prop} {rest : List Oper} {ρ : Env} {ds : List Deferred} {Γ : List HP} {d : Nat} {ty : TypeId} {pos : String} {after : Array Edge}
/-- make of a slice of any elements. -/
theorem TL.makeG {t e : TypeId} {x y : Operand} {q q' : IntKind} {n : Nat} {r r' : TR} (hd : Nat.blt d cx.n = true) (ea : ev ρ x = .int q (n : Int)) (eb : ev ρ y = .int q' (n : Int)) (ht : TabOk cx.P t r) (hq : r.und = .slice e) (ht' : TabOk cx.P e r') (hzs : (r'.zero.cells.size == r'.size) = true)
    (hb : r'.bytes * n ≤ 281474976710656) (h63 : n ≤ maxLen) {cs : List Value} (hcs : zerosL r'.zero.cells.toList n = cs) (h : ∀ b, TL cx ops K rest ((d, .slice (some ⟨b, 0, none⟩) n n) :: ρ) ds (own e r'.size (.slice (some ⟨b, 0, none⟩) n n) n cs :: Γ)) : TL cx ops K (⟨some d, .makeSlice t x y, ty, pos, after, none⟩ :: rest) ρ ds Γ := by
  subst hcs
  have hzs' : r'.zero.cells.size = r'.size := by simpa using hzs
  exact .act (X := Nat) (φ := fun _ => True) (v := fun b => .slice (some ⟨b, 0, none⟩) n n) (Δ := fun b => own e r'.size (.slice (some ⟨b, 0, none⟩) n n) n (zerosL r'.zero.cells.toList n) :: Γ) hd (fun w hs => by
    obtain ⟨_, i, hi, h1, h2, h3⟩ := id ht'
    have hrun := run_make (P := cx.P) w t e i r'.zero (by rw [ht.1, hq]) hi h3 q q' (n : Int) (n : Int) (by omega) (by omega) (by rw [h2, ← Int.natCast_mul]; omega) (by unfold maxLen at h63; omega)
    have hm : madeCells r'.zero.cells (n * r'.size) = (zerosL r'.zero.cells.toList n).toArray := by
      rw [← zeros_array, ← hzs']
      rfl
    rw [Int.toNat_natCast, h1, hm] at hrun
    refine ⟨w.heap.size, _, trivial, (hs.alloc (.cells (zerosL r'.zero.cells.toList n).toArray e)).imp fun m hm => sep_mono hm (fun p hp => own_row (by rw [zerosL_length, Array.length_toList, hzs']) h63 hp) (fun _ => id), ?_⟩
    rw [show execOp (ev ρ) ⟨some d, .makeSlice t x y, ty, pos, after, none⟩ = (do pure (.value (← Instr.makeSlice t (ev ρ x) (ev ρ y)))) from rfl, ea, eb]
    simp only [Sem.run_bind, hrun, Result.andThen_ok]
    rfl) (fun b _ => h b)
end
section
variable {cx : Cx} {ops : Array Oper} {K : Act → World → Prop} {rest : List Oper} {ρ : Env} {ds : List Deferred} {Γ : List HP} {d : Nat} {ty : TypeId} {pos : String} {after : Array Edge}
/-- copy, where just what is copied is known. -/
theorem TL.copyRowK {t e t2 : TypeId} {x y : Operand} {g o n cap m c k : Nat} {A : Addr} {cur cur' news : List Value} {r r' : TR} {Δ : List HP} (i : Nat) (hi : Γ[i]? = some (row g cur t2)) (hd : Nat.blt d cx.n = true) (ht : TabOk cx.P t r) (hq : r.und = .slice e) (ht' : TabOk cx.P e r') (hsz : (r'.size == 1) = true)
    (ea : ev ρ x = .slice (some ⟨g, o, none⟩) n cap) (eb : ev ρ y = .slice (some A) m c) (hs : has Γ (srcAt 1 (some A) k news)) (h1 : ∀ u ∈ news, u.oneCell' = true) (hk : k = Nat.min m n) (hfit : o + k ≤ cur.length) (hcur : cur.take o ++ news ++ cur.drop (o + k) = cur') (hΔ : Γ.set i (row g cur' t2) = Δ)
    (h : TL cx ops K rest ((d, .int .i64 (k : Int)) :: ρ) ds Δ) {ts : Array TypeId} (hts : ts[0]? = some t) (h2 : ts.size = 2) : TL cx ops K (⟨some d, .call ⟨.builtin .copy, #[x, y], ts⟩, ty, pos, after, none⟩ :: rest) ρ ds Γ := by
  subst hcur; subst hΔ
  refine .mem fun m0 hm0 => ?_
  have hkl : news.length = k := by have := (hs m0 hm0).1; omega
  refine .act (X := Unit) (φ := fun _ => True) (v := fun _ => .int .i64 (k : Int)) (Δ := fun _ => Γ.set i (row g (cur.take o ++ news ++ cur.drop (o + k)) t2)) hd (fun w hS => ?_) (fun _ _ => h)
  obtain ⟨_, inf, hinf, h5, _, _⟩ := id ht'
  have hu : cx.P.underlying t = some (.slice e) := by rw [← hq]; exact ht.1
  have hblk := hS.block hi
  have hsz1 : r'.size = 1 := by simpa using hsz
  have hrun := run_copy_row (P := cx.P) w t (ts.getD 1 0) ty e g o n cap A m c cur.toArray t2 (news) hu (by rw [hinf]; simp [h5, hsz1]) hblk (by rw [hkl, hk])
    (fun j v hj => by
      obtain ⟨_, _, mm, hmm, hw⟩ := hS
      obtain ⟨_, h6⟩ := hs mm hmm
      rcases h6 with h6 | ⟨b, o', hA, hc⟩
      · rw [h6] at hj; cases hj
      · injection hA with hA
        subst hA
        rw [add_at]
        obtain ⟨cs, ee, fr, hb, hv⟩ := hc j v hj
        simp [World.cell?, hw _ _ hb, hv]) (by rw [hkl]; simpa using hfit) h1
  rw [hkl] at hrun
  have hgo : goInt k = .int .i64 (k : Int) := rfl
  rw [hgo] at hrun
  have hts2 : ts = #[t, ts.getD 1 0] := by
    apply Array.ext
    · simp [h2]
    · intro j hj1 hj2
      have : j = 0 ∨ j = 1 := by simp at hj2; omega
      rcases this with rfl | rfl
      · have := (Array.getElem?_eq_some_iff.1 hts).2; simpa using this
      · simp [Array.getD, h2]
  have hrun2 : (execOp (ev ρ) ⟨some d, .call ⟨.builtin .copy, #[x, y], ts⟩, ty, pos, after, none⟩).run cx.P w = .ok (.value (.int .i64 (k : Int))) (w.setRow g (cur.take o ++ news ++ cur.drop (o + k)).toArray) := by
    rw [hts2]
    simp only [execOp, resolve, invoke, builtin, List.map_toArray, List.map_cons, List.map_nil, ea, eb, Sem.run_bind, Sem.run_pure, Result.andThen_ok]
    simp only at hrun
    rw [hrun]
    rfl
  exact ⟨(), _, trivial, hS.put (w' := w.setRow g (cur.take o ++ news ++ cur.drop (o + k)).toArray) hi rfl rfl rfl (setRow_heap w g _ _ t2 _ hblk) (fun k' hk' q hq => (setRow_other w g _ k' hk').trans hq), hrun2⟩
end
def repR (n k : Nat) : List Value := List.replicate k (.int .i64 (-1)) ++ List.replicate (n - k) (.int .i64 0)
theorem repR_len {n k : Nat} (h : k ≤ n) : (repR n k).length = n := by unfold repR; simp; omega
theorem repR_copy {n k c : Nat} (hk : k + c ≤ n) (hc : c ≤ k) : (repR n k).take k ++ ((repR n k).take k).take c ++ (repR n k).drop (k + c) = repR n (k + c) := by
  unfold repR
  rw [List.take_left' (by simp), List.take_replicate, Nat.min_eq_left hc, List.replicate_append_replicate, List.drop_append, List.length_replicate, List.drop_replicate, List.drop_replicate, show k - (k + c) = 0 by omega, List.replicate_zero, List.nil_append, show n - k - (k + c - k) = n - (k + c) by omega]
set_option maxRecDepth 100000 in
set_option maxHeartbeats 1000000 in
theorem repeat_t (b0 n : Nat) (hn : n ≤ 1000000) (Γ : List HP) :
    FnV Try.prog 50 [.slice (some ⟨b0, 0, none⟩) 1 1, .int .i64 (n : Int)] (row b0 [.int .i64 (-1)] 3 :: Γ) fun v Γ' => ∃ fB, v = .slice (some ⟨fB, 0, none⟩) n n ∧ Γ' = own 3 1 (.slice (some ⟨fB, 0, none⟩) n n) n (List.replicate n (.int .i64 (-1))) :: Γ := by
  refine Fn.enter Try.func50 rfl rfl rfl fun E => ?_
  refine m_run ?_
  refine TL.know (t := 15) (v := .int .u64 ((1 : Nat) : Int)) (by kernel_rfl) ?_
  refine TL.know (t := 17) (v := .int .u64 (n : Int)) (congrArg (Value.int .u64) (u64_in (by omega) (by omega))) ?_
  (apply TL.callV; exact rfl; exact callB_of (by kernel_rfl); exact rfl; exact fun _ h => h)
  exact mul_t n hn _
  rintro _ _ ⟨rfl, rfl⟩
  refine m_run ?_
  refine TL.know (t := 29) (v := .int .i64 (n : Int)) (congrArg (Value.int .i64) (i64_in (by omega) (by omega))) ?_
  (apply TL.makeRow (n := n) (c := n); exact rfl; exact rfl; exact rfl; exact tb rfl; exact rfl; exact tb rfl; exact rfl; exact rfl; exact Nat.le_refl _; exact (show 8 * n ≤ _ by omega); exact (show n ≤ maxLen by unfold maxLen; omega))
  intro fB
  refine m_run ?_
  have hs1 : has (row fB (List.replicate n (.int .i64 0)) 3 :: row b0 [.int .i64 (-1)] 3 :: Γ) (srcAt 1 (some ⟨b0, 0, none⟩) 1 [.int .i64 (-1)]) := has_src_row 1 rfl rfl
  (apply TL.copyRow (t := 54) (k := min 1 n) (cur' := repR n (min 1 n)) (news := [.int .i64 (-1)]) 0; exact rfl; exact rfl; exact tb rfl; exact rfl; exact tb rfl; exact rfl; exact rfl; exact rfl; exact hs1; exact (fun u hu => by rw [List.mem_singleton.1 hu]; rfl); exact rfl; exact (by rw [List.length_replicate, Nat.zero_add]; exact Nat.min_le_right _ _))
  · show (List.replicate n (Value.int .i64 0)).take 0 ++ List.take (min 1 n) [Value.int .i64 (-1)] ++ (List.replicate n (Value.int .i64 0)).drop (0 + min 1 n) = _
    rcases Nat.eq_zero_or_pos n with rfl | h
    · rfl
    · rw [Nat.min_eq_left (by omega)]
      unfold repR
      simp
  · exact rfl
  rotate_left
  · exact rfl
  · exact rfl
  refine m_run ?_
  apply TK.iter (fun j ρ' Γ' => ∃ k : Nat, k + j = n ∧ (0 < k ∨ n = 0) ∧ lk ρ' 7 = .slice (some ⟨fB, 0, none⟩) n n ∧ lk ρ' 8 = .int .i64 (k : Int) ∧ Γ' = row fB (repR n k) 3 :: row b0 [.int .i64 (-1)] 3 :: Γ) (n - min 1 n)
  · exact ⟨min 1 n, by omega, by omega, rfl, rfl, rfl⟩
  rintro j IH ρ' _ ⟨k, hkj, hk0, e7, e8, rfl⟩
  refine TK.know2 e7 e8 ?_
  by_cases hk : k < n
  · refine m_run ?_
    refine TK.drawE mixed rfl (row b0 [.int .i64 (-1)] 3 :: Γ) ?_
    refine m_take (At.mk : At 0) ?_; refine m_take (At.mk : At 1) ?_; refine m_take (At.mk : At 2) ?_; refine m_take (At.mk : At 4) ?_; refine m_take (At.mk : At 5) ?_
    (apply TA.takeA (At.mk : At 3); exact rfl; exact rfl; kernel_rfl; ((focus ((repeat (first | assumption | exact Ent.refl _ | apply Ent.tail)); done))); (apply PV.sliceS (i := k) (j := n); exact rfl; exact tb rfl; exact rfl; exact tb rfl; exact .some rfl; exact .none; exact (by omega); exact Nat.le_refl _))
    refine TA.know (t := 41) (v := .slice (some ⟨fB, k, none⟩) (n - k) (n - k)) (show Value.slice (if n = k then (some ⟨fB, 0, none⟩ : Option Addr) else (some ⟨fB, 0, none⟩ : Option Addr).map fun a => a.add (k * 1)) (n - k) (n - k) = _ by rw [if_neg (by omega)]; simp [Addr.add]; try omega) ?_
    (apply TA.takeA (At.mk : At 6); exact rfl; exact rfl; kernel_rfl; ((focus ((repeat (first | assumption | exact Ent.refl _ | apply Ent.tail)); done))); (apply PV.sliceS (i := 0) (j := k); exact rfl; exact tb rfl; exact rfl; exact tb rfl; exact .none; exact .some rfl; exact (by omega); exact (by omega)))
    refine TA.know (t := 44) (v := .slice (some ⟨fB, 0, none⟩) k n) (show Value.slice (if n = 0 then (some ⟨fB, 0, none⟩ : Option Addr) else (some ⟨fB, 0, none⟩ : Option Addr).map fun a => a.add (0 * 1)) (k - 0) (n - 0) = _ by rw [if_neg (by omega)]; simp [Addr.add]; try omega) ?_
    have hsr : has (row fB (repR n k) 3 :: row b0 [.int .i64 (-1)] 3 :: Γ) (srcAt 1 (some ⟨fB, 0, none⟩) k ((repR n k).take k)) := by
      have h2 : has (row fB (repR n k) 3 :: row b0 [.int .i64 (-1)] 3 :: Γ) (srcAt 1 (some ⟨fB, 0, none⟩) n (repR n k)) := has_src_row 0 rfl (by rw [repR_len (by omega), Nat.mul_one])
      refine has_imp h2 fun m hm => ?_
      have := src_part (i := 0) (j := k) (c := n) hm (by omega) (by omega) (by omega)
      rw [if_neg (by omega)] at this
      simpa [Addr.add] using this
    (apply TA.one 7; kernel_rfl; exact rfl)
    (apply TL.copyRow (t := 54) (o := k) (k := min k (n - k)) (cur' := repR n (k + min k (n - k))) (news := (repR n k).take k) 0; exact rfl; exact rfl; exact tb rfl; exact rfl; exact tb rfl; exact rfl; exact rfl; exact rfl; exact hsr; exact (fun u hu => by
      rcases List.mem_append.1 (List.mem_of_mem_take hu) with h | h <;> (rw [List.eq_of_mem_replicate h]; rfl)); exact rfl; exact (by rw [repR_len (by omega)]; omega); exact repR_copy (by omega) (by omega); exact rfl)
    rotate_left
    · exact rfl
    · exact rfl
    refine TL.back (by (focus ((repeat (first | assumption | exact Ent.refl _ | apply Ent.tail)); done))) ?_
    refine m_take (At.mk : At 8) ?_; refine m_take (At.mk : At 9) ?_
    refine TA.done (by kernel_rfl) ?_
    refine m_run ?_
    exact IH (n - (k + min k (n - k))) _ _ (by omega) ⟨k + min k (n - k), by omega, by omega, rfl, congrArg (Value.int .i64) (by rw [i64_in (by omega) (by omega)]; omega), rfl⟩
  obtain rfl : k = n := by omega
  refine m_run ?_
  refine TK.imp (Δ := own 3 1 (.slice (some ⟨fB, 0, none⟩) k k) k (List.replicate k (.int .i64 (-1))) :: row b0 [.int .i64 (-1)] 3 :: Γ) (fun m hm => sep_mono hm (fun _ h => ?_) fun _ h => h) ?_
  · unfold repR at h
    rw [Nat.sub_self, List.replicate_zero, List.append_nil] at h
    exact own_row (by simp) (by unfold maxLen; omega) h
  (apply TK.retS1; exact rfl; exact rfl; (exact m_val))
  · exact ⟨_, rfl, fB, rfl, rfl⟩
  · (repeat (first | exact List.Sublist.refl _ | apply List.Sublist.cons_cons | apply List.Sublist.cons))
end Go.Proofs.Ytndmjpceocecdaa.E

/- A number laid into a row, plainly. -/
namespace Go.Proofs.Ytndmjpceocecdaa.E
/-- What stands behind is moved by one, a value is laid in its place. -/
theorem ins_shift {α : Type} (L : List α) (o at_ n : Nat) (x : α) (h : o + n + 1 ≤ L.length) (ha : at_ ≤ n) :
    let L' := L.take (o + at_ + 1) ++ ((L.drop (o + at_)).take (n + 1 - at_)).take (n - at_) ++ L.drop (o + at_ + 1 + (n - at_))
    let L'' := L'.take (o + at_) ++ [x] ++ L'.drop (o + at_ + 1)
    (L''.drop o).take (n + 1) = ((L.drop o).take n).take at_ ++ x :: ((L.drop o).take n).drop at_ ∧ L''.length = L.length := by
  obtain ⟨P, R, rfl, hP⟩ : ∃ P R, L = P ++ R ∧ P.length = o := ⟨L.take o, L.drop o, (List.take_append_drop o L).symm, by simp; omega⟩
  obtain ⟨Q, R, rfl, hQ⟩ : ∃ Q S, R = Q ++ S ∧ Q.length = at_ := ⟨R.take at_, R.drop at_, (List.take_append_drop at_ R).symm, by simp at h ⊢; omega⟩
  obtain ⟨S, T, rfl, hS⟩ : ∃ S T, R = S ++ T ∧ S.length = n - at_ := ⟨R.take (n - at_), R.drop (n - at_), (List.take_append_drop (n - at_) R).symm, by simp at h ⊢; omega⟩
  simp only [List.length_append] at h
  obtain ⟨t, T', rfl⟩ : ∃ t T', T = t :: T' := by
    cases T with
    | nil => simp at h; omega
    | cons t T' => exact ⟨t, T', rfl⟩
  have e1 : (P ++ (Q ++ (S ++ t :: T'))).drop (o + at_) = S ++ t :: T' := by
    rw [← List.append_assoc]; exact List.drop_left' (by simp; omega)
  have e2 : ((S ++ t :: T').take (n + 1 - at_)).take (n - at_) = S := by
    rw [List.take_take, Nat.min_eq_left (by omega)]; exact List.take_left' hS
  have e3 : (P ++ (Q ++ (S ++ t :: T'))).drop (o + at_ + 1 + (n - at_)) = T' := by
    rw [show P ++ (Q ++ (S ++ t :: T')) = (P ++ Q ++ S ++ [t]) ++ T' by simp]; exact List.drop_left' (by simp; omega)
  obtain ⟨u, hu⟩ : ∃ u, (P ++ (Q ++ (S ++ t :: T'))).take (o + at_ + 1) = P ++ Q ++ [u] := by
    rw [← List.append_assoc, List.take_append, List.take_of_length_le (by simp; omega), show o + at_ + 1 - (P ++ Q).length = 1 by simp; omega]
    cases S with
    | nil => exact ⟨t, by simp⟩
    | cons s S => exact ⟨s, by simp⟩
  have e4 : (P ++ Q ++ [u] ++ S ++ T').take (o + at_) = P ++ Q := by
    rw [List.append_assoc, List.append_assoc]; exact List.take_left' (by simp; omega)
  have e5 : (P ++ Q ++ [u] ++ S ++ T').drop (o + at_ + 1) = S ++ T' := by
    rw [List.append_assoc]; exact List.drop_left' (by simp; omega)
  have e6 : ((P ++ (Q ++ (S ++ t :: T'))).drop o).take n = Q ++ S := by
    rw [List.drop_left' hP, show Q ++ (S ++ t :: T') = (Q ++ S) ++ t :: T' by simp]; exact List.take_left' (by simp; omega)
  simp only [e1, e2, e3, hu, e4, e5, e6]
  refine ⟨?_, by simp; omega⟩
  rw [show P ++ Q ++ [x] ++ (S ++ T') = P ++ ((Q ++ x :: S) ++ T') by simp, List.drop_left' hP, List.take_left' (by simp; omega), List.take_left' hQ, List.drop_left' hQ]
/-- .. and in a row that is made. -/
theorem ins_grow {α : Type} (R C : List α) (at_ n : Nat) (x : α) (hR : R.length = n) (ha : at_ ≤ n) (hC : n + 1 ≤ C.length) (ht : C.take at_ = R.take at_) :
    let C' := C.take at_ ++ [x] ++ C.drop (at_ + 1)
    let C'' := C'.take (at_ + 1) ++ R.drop at_ ++ C'.drop (at_ + 1 + (n - at_))
    C''.take (n + 1) = R.take at_ ++ x :: R.drop at_ ∧ C''.length = C.length := by
  intro C' C''
  have h1 : C'.take (at_ + 1) = R.take at_ ++ [x] := by
    show (C.take at_ ++ [x] ++ C.drop (at_ + 1)).take (at_ + 1) = _
    rw [← ht]
    exact List.take_left' (by simp; omega)
  have h3 : C'.length = C.length := by
    show (C.take at_ ++ [x] ++ C.drop (at_ + 1)).length = _
    simp; omega
  have h2 : C'' = (R.take at_ ++ x :: R.drop at_) ++ C'.drop (at_ + 1 + (n - at_)) := by
    show C'.take (at_ + 1) ++ R.drop at_ ++ C'.drop (at_ + 1 + (n - at_)) = _
    rw [h1]; simp
  constructor
  · rw [h2]; exact List.take_left' (by simp; omega)
  · rw [h2, List.length_append, List.length_drop, h3]; simp; omega
end Go.Proofs.Ytndmjpceocecdaa.E

/- MY OWN LAYER: interface values, methods called on them, functions that the model stands in for; errors.Is and errors.As at a wrong of package hmac. -/
namespace Go.Proofs.Ytndmjpceocecdaa.E
open Go Go.RowKit Go.Proofs Go.Extern
section
variable {P : Program} {S : World → Prop} {ρ : Env} {d : Nat} {ty : TypeId} {pos : String} {after : Array Edge}
theorem PV.iface {t : TypeId} {x : Operand} {v : Value} {r : TR} (ea : ev ρ x = v) (ht : TabOk P t r) (hq : (match r.und with | .interface _ => false | _ => true) = true) : PV P ρ S ⟨some d, .makeInterface t x, ty, pos, after, none⟩ (.iface t v) := fun w _ => by
  have h2 : (Instr.makeInterface t v).run P w = .ok (.iface t v) w := by
    unfold Instr.makeInterface
    simp only [Sem.run_bind, ht.run_und, Result.andThen_ok]
    revert hq
    cases r.und <;> intro hq <;> first | rfl | cases hq
  simp [execOp, ea, h2]
theorem PV.ifaceNil {t t' tx : TypeId} {x : Operand} {v : Value} {r : TR} {ms : Array (String × TypeId)} (ea : ev ρ x = .iface tx v) (ht : TabOk P t r) (hq : r.und = .interface ms) : PV P ρ S ⟨some d, .binOp .eql t x (.const .nilIface) t', ty, pos, after, none⟩ (.bool false) := fun w _ => by simp [execOp, ea, ev_const, eqGuard, binOp, run_eql_iface ht hq]
theorem PV.nilNil {t t' : TypeId} {x : Operand} {r : TR} {ms : Array (String × TypeId)} (ea : ev ρ x = .nilIface) (ht : TabOk P t r) (hq : r.und = .interface ms) : PV P ρ S ⟨some d, .binOp .eql t x (.const .nilIface) t', ty, pos, after, none⟩ (.bool true) := fun w _ => by simp [execOp, ea, ev_const, eqGuard, binOp, run_eql_iface_nil ht hq]
theorem PV.ifaceNilN {t t' tx : TypeId} {x : Operand} {v : Value} {r : TR} {ms : Array (String × TypeId)} (ea : ev ρ x = .iface tx v) (ht : TabOk P t r) (hq : r.und = .interface ms) : PV P ρ S ⟨some d, .binOp .neq t x (.const .nilIface) t', ty, pos, after, none⟩ (.bool true) := fun w _ => by simp [execOp, ea, ev_const, eqGuard, binOp, run_eql_iface ht hq]
theorem PV.nilNilN {t t' : TypeId} {x : Operand} {r : TR} {ms : Array (String × TypeId)} (ea : ev ρ x = .nilIface) (ht : TabOk P t r) (hq : r.und = .interface ms) : PV P ρ S ⟨some d, .binOp .neq t x (.const .nilIface) t', ty, pos, after, none⟩ (.bool false) := fun w _ => by simp [execOp, ea, ev_const, eqGuard, binOp, run_eql_iface_nil ht hq]
/-- Two values of interface type: what 'binOp' says of them. -/
theorem PV.eqIface {t t' tx tx' : TypeId} {x y : Operand} {v v' : Value} {c : Bool} (ea : ev ρ x = .iface tx v) (eb : ev ρ y = .iface tx' v') (h : ∀ w, (binOp .eql t (.iface tx v) (.iface tx' v')).run P w = .ok (.bool c) w) : PV P ρ S ⟨some d, .binOp .eql t x y t', ty, pos, after, none⟩ (.bool c) := fun w _ => by simp [execOp, ea, eb, eqGuard, h]
theorem PV.assertOk {x : Operand} {xT T : TypeId} {v u : Value} (ea : ev ρ x = v) (h : ∀ w, (Instr.typeAssert v xT T true).run P w = .ok u w) : PV P ρ S ⟨some d, .typeAssert x xT T true, ty, pos, after, none⟩ u := fun w _ => by simp [execOp, ea, h]
/-- A function that the model stands in for, which reads. -/
theorem PV.ext {f : FuncId} {xs : List Operand} {vs : List Value} {ts : Array TypeId} {v : Value} (ha : xs.map (ev ρ) = vs) (h : ∀ w, S w → (callFunc f vs.toArray).run P w = .ok (.value v) w) : PV P ρ S ⟨some d, .call ⟨.value (.func f), xs.toArray, ts⟩, ty, pos, after, none⟩ v := fun w hw => by
  rw [← ha] at h
  have := h w hw
  simp [execOp, resolve, ev, Deferred.ofValue, invoke] at this ⊢
  exact this
theorem run_inv {t : TypeId} {u u' : Value} {f : FuncId} {name : String} {c : Array Value} {w : World} (vs : List Value) (hm : (Go.method (P.types.size + Made.depth) t u name).run P w = .ok (f, u') w) :
    (invoke (.fn (.method name) c) (#[.iface t u] ++ vs.toArray)).run P w = (callFunc f (u' :: vs).toArray).run P w := by
  have e1 : (#[Value.iface t u] ++ vs.toArray : Array Value) = (Value.iface t u :: vs).toArray := by simp
  have e2 : ((Value.iface t u :: vs).toArray).extract 1 (Value.iface t u :: vs).toArray.size = vs.toArray := by simp
  have e3 : ((Value.iface t u :: vs).toArray)[0]? = some (Value.iface t u) := by simp
  have e4 : (#[u'] ++ vs.toArray : Array Value) = (u' :: vs).toArray := by simp
  have hp : (program).run P w = .ok P w := rfl
  rw [e1]
  simp only [invoke, e3, e2, callMethod, Sem.run_bind, hp, Result.andThen_ok, hm, e4]
/-- A method of an interface value that the model stands in for. -/
theorem PV.extM {f : FuncId} {name : String} {x : Operand} {xs : List Operand} {vs : List Value} {ts : Array TypeId} {t : TypeId} {u u' v : Value} (ea : ev ρ x = .iface t u) (ha : xs.map (ev ρ) = vs) (hm : ∀ w, (Go.method (P.types.size + Made.depth) t u name).run P w = .ok (f, u') w)
    (h : ∀ w, S w → (callFunc f (u' :: vs).toArray).run P w = .ok (.value v) w) : PV P ρ S ⟨some d, .call ⟨.invoke x name, xs.toArray, ts⟩, ty, pos, after, none⟩ v := fun w hw => by
  subst ha
  have := run_inv (P := P) (c := #[]) (xs.map (ev ρ)) (hm w)
  simp only [execOp, resolve, ea, Sem.run_bind, Sem.run_pure, Result.andThen_ok, List.map_toArray]
  exact this.trans (h w hw)
end
section
variable {cx : Cx} {ops : Array Oper} {K : Act → World → Prop} {rest : List Oper} {ρ : Env} {ds : List Deferred} {Γ : List HP} {d : Nat} {ty : TypeId} {pos : String} {after : Array Edge}
/-- A method of an interface value, by its contract. -/
theorem TL.callM {f : FuncId} {name : String} {x : Operand} {xs : List Operand} {vs : List Value} {ts : Array TypeId} {t : TypeId} {u u' : Value} {Δ : List HP} {R : Value → List HP → Prop} (hd : Nat.blt d cx.n = true) (hc : Callable cx.P f) (ea : ev ρ x = .iface t u) (ha : xs.map (ev ρ) = vs)
    (hm : ∀ w, (Go.method (cx.P.types.size + Made.depth) t u name).run cx.P w = .ok (f, u') w) (hΓ : ∀ m, all Γ m → all Δ m) (hf : FnV cx.P f (u' :: vs) Δ R)
    (h : ∀ v Γ', R v Γ' → TL cx ops K rest ((d, v) :: ρ) ds Γ') : TL cx ops K (⟨some d, .call ⟨.invoke x name, xs.toArray, ts⟩, ty, pos, after, none⟩ :: rest) ρ ds Γ := by
  intro a w hr hs
  obtain ⟨fn, h1, h2, h3⟩ := hc
  have hx : (execOp a.eval ⟨some d, .call ⟨.invoke x name, xs.toArray, ts⟩, ty, pos, after, none⟩).run cx.P w = .ok (.enter f (u' :: vs).toArray) w := by
    rw [hr.ev, ← ha]
    have h2' : ¬ fn.name = "runtime.NumGoroutine" := by simpa using h2
    have h3' : ¬ fn.body = none := by intro h; rw [h] at h3; cases h3
    have := run_inv (P := cx.P) (c := #[]) (xs.map (ev ρ)) (hm w)
    simp only [execOp, resolve, ea, Sem.run_bind, Sem.run_pure, Result.andThen_ok, List.map_toArray]
    refine this.trans ?_
    simp [callFunc, h1, h2', h3', program, Sem.run]
  refine wpL_enter rfl hx (Calls.mono (hf cx.E w (hs.imp hΓ)) ?_)
  rintro e w' ⟨Γ', ⟨v, rfl, hR⟩, hs'⟩
  exact h v Γ' hR _ _ (hr.put d v hd) hs'
/-- A function that the model stands in for, which makes a row of its own. -/
theorem TL.extA {f : FuncId} {xs : List Operand} {vs : List Value} {ts : Array TypeId} {v : Nat → Value} {l : List Value} {e : TypeId} (hd : Nat.blt d cx.n = true) (ha : xs.map (ev ρ) = vs) (hx : ∀ w, (callFunc f vs.toArray).run cx.P w = .ok (.value (v w.heap.size)) (w.alloc (.cells l.toArray e)))
    (h : ∀ b, TL cx ops K rest ((d, v b) :: ρ) ds (row b l e :: Γ)) : TL cx ops K (⟨some d, .call ⟨.value (.func f), xs.toArray, ts⟩, ty, pos, after, none⟩ :: rest) ρ ds Γ :=
  .act (X := Nat) (φ := fun _ => True) (v := v) (Δ := fun b => row b l e :: Γ) hd (fun w hs => ⟨w.heap.size, _, trivial, hs.alloc (.cells l.toArray e), by
    rw [← ha] at hx
    have := hx w
    simp [execOp, resolve, ev, Deferred.ofValue, invoke] at this ⊢
    exact this⟩) (fun b _ => h b)
/-- A function that the model stands in for, which stores one value. -/
theorem TL.extS {f : FuncId} {xs : List Operand} {vs : List Value} {ts : Array TypeId} {b : Nat} {old new v : Value} {e : TypeId} {Δ : List HP} (i : Nat) (hi : Γ[i]? = some (row b [old] e)) (hd : Nat.blt d cx.n = true) (ha : xs.map (ev ρ) = vs)
    (hx : ∀ w, Sat cx.E Γ w → w.heap[b]? = some (.cells #[old] e (0, 0)) → (callFunc f vs.toArray).run cx.P w = .ok (.value v) (w.setRow b #[new])) (hΔ : Γ.set i (row b [new] e) = Δ)
    (h : TL cx ops K rest ((d, v) :: ρ) ds Δ) : TL cx ops K (⟨some d, .call ⟨.value (.func f), xs.toArray, ts⟩, ty, pos, after, none⟩ :: rest) ρ ds Γ := by
  subst hΔ
  exact .act (X := Unit) (φ := fun _ => True) (v := fun _ => v) (Δ := fun _ => Γ.set i (row b [new] e)) hd (fun w hs => ⟨(), _, trivial, by
    have hb := hs.block hi
    exact hs.put (w' := w.setRow b #[new]) hi rfl rfl rfl (setRow_heap w b _ _ e _ hb) (fun k hk q hq => (setRow_other w b _ k hk).trans hq), by
    rw [← ha] at hx
    have := hx w hs (hs.block hi)
    simp [execOp, resolve, ev, Deferred.ofValue, invoke] at this ⊢
    exact this⟩) (fun _ _ => h)
end
end Go.Proofs.Ytndmjpceocecdaa.E

/- slices.Insert of one number: walked. -/
namespace Go.Proofs.Ytndmjpceocecdaa.E
open Go Go.RowKit Go.Proofs
attribute [local irreducible] TK TL TQ TA TB Fn PV
theorem ownO_cap {e n c : Nat} {A : Option Addr} {cs : List Value} {m : Mem} (h : ownO e (.slice A n c) n cs m) : n ≤ c := by
  obtain ⟨_, ⟨hv, hn, _⟩ | ⟨g, o, cap, cur, hv, hn, _⟩⟩ := h
  · injection hv with _ _ hc; omega
  · injection hv with _ _ hc; omega
/-- A number laid in at a place. -/
def insL (R : List Nat) (at_ k : Nat) : List Nat := R.take at_ ++ k :: R.drop at_
theorem insL_len {R : List Nat} {at_ k : Nat} : (insL R at_ k).length = R.length + 1 := by unfold insL; simp; omega
theorem insL_ints (R : List Nat) (at_ k : Nat) : ints (insL R at_ k) = (ints R).take at_ ++ .int .i64 (k : Int) :: (ints R).drop at_ := by
  show List.map _ (R.take at_ ++ k :: R.drop at_) = (List.map _ R).take at_ ++ _ :: (List.map _ R).drop at_
  rw [List.map_append, List.map_cons, List.map_take, List.map_drop]
theorem insL_end {R : List Nat} {k : Nat} : insL R R.length k = R ++ [k] := by unfold insL; simp
theorem addr_slice {g o i c : Nat} (h : c ≠ i) : (if c = i then (some ⟨g, o, none⟩ : Option Addr) else (some ⟨g, o, none⟩ : Option Addr).map fun a => a.add (i * 1)) = some ⟨g, o + i, none⟩ := by
  rw [if_neg h]; simp [Addr.add]
theorem addr_slice0 {A : Option Addr} {c : Nat} : (if c = 0 then A else A.map fun a => a.add (0 * 1)) = A := by
  split
  · rfl
  · cases A <;> simp [Addr.add]
theorem row_srcO {g o n e : Nat} {cur news : List Value} {m : Mem} (h : row g cur e m) (hn : news.length = n) (hd : (cur.drop o).take n = news) : srcAt 1 (some ⟨g, o, none⟩) n news m := by
  refine ⟨by rw [Nat.mul_one]; exact hn, .inr ⟨g, o, rfl, fun j v hj => ⟨cur.toArray, e, (0, 0), by rw [h g]; simp, ?_⟩⟩⟩
  rw [← hd] at hj
  simp [List.getElem?_take] at hj
  simpa using hj.2
theorem callFunc_overlaps (w : World) (a b : Addr) (la ca lb cb : Nat) (hne : a.block ≠ b.block) (kA kB : Nat) (ta tb_ : TypeId)
    (hsa : w.shape? a.block = some (ta, kA)) (hsb : w.shape? b.block = some (tb_, kB)) (hkB : kB ≠ 0) (hfa : w.frozen? a = false) (hfe : w.frozen? { block := a.block, off := kA } = false) :
    (callFunc 88 #[.slice (some a) la ca, .slice (some b) lb cb]).run Try.prog w = .ok (.value (.bool false)) w := by
  have ht : Try.prog.underlying 54 = some (.slice 3) := (tb rfl : TabOk Try.prog 54 _).1
  have hz : ∀ w, (Go.sizeOf 3).run Try.prog w = .ok 1 w := fun w => by
    obtain ⟨_, inf, hinf, h2, _, _⟩ := id (tb rfl : TabOk Try.prog 3 _)
    simp [sizeOf, typeInfo, hinf]
    exact h2
  rw [run_callFunc_extern Try.func88 (by kernel_rfl) (by kernel_rfl) (by kernel_rfl) (e := Extern.SlicesOverlaps.overlaps #[54, 54] #[4]) (by kernel_rfl),
    Lib.run_overlaps_apart w 54 4 3 ht 1 hz a b la ca lb cb hne ta tb_ kA kB hsa hsb hkB hfa hfe]
  rfl
set_option maxRecDepth 100000 in
set_option maxHeartbeats 4000000 in
theorem insert_t (bk k : Nat) (A : Option Addr) (c : Nat) (R : List Nat) (at_ : Nat) (Γ : List HP) (ha : at_ ≤ R.length) (hn : R.length ≤ 1000000) (hk : k ≤ 1000000) :
    FnV Try.prog 75 [.slice A R.length c, .int .i64 (at_ : Int), .slice (some ⟨bk, 0, none⟩) 1 1] (ownO 3 (.slice A R.length c) R.length (ints R) :: row bk [.int .i64 (k : Int)] 3 :: Γ)
      fun v Γ' => ∃ A' c', v = .slice A' (insL R at_ k).length c' ∧ Γ' = ownO 3 (.slice A' (insL R at_ k).length c') (insL R at_ k).length (ints (insL R at_ k)) :: Γ := by
  refine Fn.enter Try.func75 rfl rfl rfl fun E => ?_
  refine TK.mem fun m0 hm0 => ?_
  have hc : R.length ≤ c := by
    obtain ⟨_, _, _, _, h, _⟩ := hm0
    exact ownO_cap h
  clear hm0 m0
  refine m_run ?_
  (apply TL.pv; exact rfl; (apply PV.sliceS (i := at_) (j := R.length); exact rfl; exact tb rfl; exact rfl; exact tb rfl; exact .some rfl; exact .none; exact ha; exact hc))
  by_cases hat : at_ = R.length
  · subst hat
    refine m_run ?_
    (apply TL.appendO 0 (n := R.length) (m := 1) (cs := ints R) (news := [.int .i64 (k : Int)]); exact rfl; exact rfl; exact tb rfl; exact rfl; exact tb rfl; exact rfl; exact rfl; exact rfl; exact rfl)
    · exact has_src_row 1 rfl rfl
    · exact fun u hu => by rw [List.mem_singleton.1 hu]; rfl
    · show (R.length + 1) * 8 ≤ _; omega
    · show R.length + 1 ≤ maxLen; unfold maxLen; omega
    · exact fun _ => (rfl : _ = _ :: _ :: _)
    intro A4 c4 hc4
    rw [show ints R ++ [Value.int .i64 (k : Int)] = ints (insL R R.length k) by rw [insL_end]; simp, show R.length + 1 = (insL R R.length k).length from insL_len.symm]
    refine m_run ?_
    (apply TK.retS1; exact rfl; exact rfl; (exact m_val))
    · exact ⟨_, rfl, A4, c4, rfl, rfl⟩
    · (repeat (first | exact List.Sublist.refl _ | apply List.Sublist.cons_cons | apply List.Sublist.cons))
  refine TL.open (X := Nat × Nat × List Value) (φ := fun x => A = some ⟨x.1, x.2.1, none⟩ ∧ x.2.1 + c ≤ x.2.2.length ∧ x.2.2.length ≤ maxLen ∧ (x.2.2.drop x.2.1).take R.length = ints R) (Δ := fun x => row x.1 x.2.2 3 :: row bk [.int .i64 (k : Int)] 3 :: Γ) (fun m hm => ?_) ?_
  · obtain ⟨m1, m2, hd, rfl, ⟨h1, h2⟩, h3⟩ := hm
    rcases h2 with ⟨_, h0, _⟩ | ⟨g, o, cap, cur, hv, hnc, hoc, hl, ht, hr⟩
    · omega
    · injection hv with e1 _ e2
      subst e1; subst e2
      exact ⟨(g, o, cur), ⟨rfl, hoc, hl, ht⟩, m1, m2, hd, rfl, hr, h3⟩
  rintro ⟨g, o, cur⟩ ⟨rfl, hoc, hlm, hcur⟩
  simp only at hoc hlm hcur ⊢
  have hw : IntKind.i64.wrap ((R.length : Int) + ((1 : Nat) : Int)) = ((R.length + 1 : Nat) : Int) := i64_succ R.length (by omega)
  have hcl : (ints R).length = R.length := ints_len R
  refine m_run ?_
  rw [hw]
  by_cases hroom : c < R.length + 1
  · obtain rfl : c = R.length := by omega
    refine m_run ?_
    (apply TL.pv; exact rfl; (apply PV.sliceS (i := 0) (j := at_); exact rfl; exact tb rfl; exact rfl; exact tb rfl; exact .none; exact .some rfl; exact (by omega); exact (by omega)))
    refine TL.know (t := 34) (v := .slice (some ⟨g, o, none⟩) at_ R.length) (show Value.slice (if R.length = 0 then (some ⟨g, o, none⟩ : Option Addr) else (some ⟨g, o, none⟩ : Option Addr).map fun a => a.add (0 * 1)) (at_ - 0) (R.length - 0) = _ by rw [addr_slice0]; rfl) ?_
    refine m_run ?_
    refine TL.know (t := 39) (v := .int .i64 ((R.length + 1 - at_ : Nat) : Int)) (congrArg (Value.int .i64) (by rw [hw, i64_in (by omega) (by omega)]; omega)) ?_
    have hs1 : has (row g cur 3 :: row bk [.int .i64 (k : Int)] 3 :: Γ) (srcAt 1 (some ⟨g, o, none⟩) at_ ((ints R).take at_)) := has_at (up_src _ _ _ _) 0 rfl fun _ h => row_srcO h (by rw [List.length_take, hcl]; omega) (by rw [← hcur, List.take_take, Nat.min_eq_left (by omega)])
    (apply TL.appZgrow (n := at_) (k := R.length + 1 - at_) (cs := (ints R).take at_) (s := R.length + 1); exact rfl; exact tb rfl; exact rfl; exact tb rfl; exact tb rfl; exact rfl; exact rfl; exact (by decide); exact rfl; exact rfl; exact rfl; exact hs1; exact (by omega); exact (by omega); exact (by omega); exact (by omega); exact rfl)
    intro g2 c2 cur2 hc2 hm2 hl2 ht2
    refine m_run ?_
    (apply TL.pv; exact rfl; (apply PV.sliceS (i := at_) (j := R.length + 1); exact rfl; exact tb rfl; exact rfl; exact tb rfl; exact .some rfl; exact .none; exact (by omega); exact (by omega)))
    refine TL.know (t := 43) (v := .slice (some ⟨g2, at_, none⟩) (R.length + 1 - at_) (c2 - at_)) (show Value.slice (if c2 = at_ then (some ⟨g2, 0, none⟩ : Option Addr) else (some ⟨g2, 0, none⟩ : Option Addr).map fun a => a.add (at_ * 1)) (R.length + 1 - at_) (c2 - at_) = _ by rw [addr_slice (by omega), Nat.zero_add]) ?_
    refine m_run ?_
    (apply TL.copyRow (t := 54) (o := at_) (k := 1) (cur' := cur2.take at_ ++ [Value.int .i64 (k : Int)] ++ cur2.drop (at_ + 1)) (news := [.int .i64 (k : Int)]) 0; exact rfl; exact rfl; exact tb rfl; exact rfl; exact tb rfl; exact rfl; exact rfl; exact rfl; exact has_src_row 2 rfl rfl; exact (fun u hu => by rw [List.mem_singleton.1 hu]; rfl); exact (Nat.min_eq_left (by omega)).symm; exact (by omega); exact rfl; exact rfl)
    rotate_left
    · exact rfl
    · exact rfl
    refine m_run ?_
    refine TK.drawE mixed rfl (row g cur 3 :: row bk [.int .i64 (k : Int)] 3 :: Γ) ?_
    refine m_take (At.mk : At 0) ?_; refine m_take (At.mk : At 1) ?_; refine m_take (At.mk : At 2) ?_; refine m_take (At.mk : At 3) ?_; refine m_take (At.mk : At 5) ?_; refine m_take (At.mk : At 6) ?_
    refine TA.know (t := 49) (v := .int .i64 ((at_ + 1 : Nat) : Int)) (congrArg (Value.int .i64) (i64_succ at_ (by omega))) ?_
    (apply TA.takeA (At.mk : At 4); exact rfl; exact rfl; kernel_rfl; ((focus ((repeat (first | assumption | exact Ent.refl _ | apply Ent.tail)); done))); (apply PV.sliceS (i := at_ + 1) (j := R.length + 1); exact rfl; exact tb rfl; exact rfl; exact tb rfl; exact .some rfl; exact .none; exact (by omega); exact (by omega)))
    refine TA.know (t := 50) (v := .slice (some ⟨g2, at_ + 1, none⟩) (R.length + 1 - (at_ + 1)) (c2 - (at_ + 1))) (show Value.slice (if c2 = at_ + 1 then (some ⟨g2, 0, none⟩ : Option Addr) else (some ⟨g2, 0, none⟩ : Option Addr).map fun a => a.add ((at_ + 1) * 1)) (R.length + 1 - (at_ + 1)) (c2 - (at_ + 1)) = _ by rw [addr_slice (by omega), Nat.zero_add]) ?_
    (apply TA.takeA (At.mk : At 7); exact rfl; exact rfl; kernel_rfl; ((focus ((repeat (first | assumption | exact Ent.refl _ | apply Ent.tail)); done))); (apply PV.sliceS (i := at_) (j := R.length); exact rfl; exact tb rfl; exact rfl; exact tb rfl; exact .some rfl; exact .none; exact (by omega); exact (by omega)))
    refine TA.know (t := 53) (v := .slice (some ⟨g, o + at_, none⟩) (R.length - at_) (R.length - at_)) (show Value.slice (if R.length = at_ then (some ⟨g, o, none⟩ : Option Addr) else (some ⟨g, o, none⟩ : Option Addr).map fun a => a.add (at_ * 1)) (R.length - at_) (R.length - at_) = _ by rw [addr_slice (by omega)]) ?_
    have hs2 : has (row g2 (cur2.take at_ ++ [Value.int .i64 (k : Int)] ++ cur2.drop (at_ + 1)) 3 :: row g cur 3 :: row bk [.int .i64 (k : Int)] 3 :: Γ) (srcAt 1 (some ⟨g, o + at_, none⟩) (R.length - at_) ((ints R).drop at_)) := has_at (up_src _ _ _ _) 1 rfl fun _ h => row_srcO h (by rw [List.length_drop, hcl]) (by rw [← hcur, ← List.drop_drop, List.drop_take])
    obtain ⟨hg1, hg2⟩ := ins_grow (ints R) cur2 at_ R.length (.int .i64 (k : Int)) hcl (by omega) (by omega) (by
      have := congrArg (List.take at_) ht2
      rw [List.take_take, Nat.min_eq_left (by omega), List.take_append_of_le_length (by rw [List.length_take, hcl]; omega), List.take_take, Nat.min_self] at this
      exact this)
    (apply TA.one 8; kernel_rfl; exact rfl)
    (apply TL.copyRow (t := 54) (o := at_ + 1) (k := R.length - at_) (cur' := (cur2.take at_ ++ [Value.int .i64 (k : Int)] ++ cur2.drop (at_ + 1)).take (at_ + 1) ++ (ints R).drop at_ ++ (cur2.take at_ ++ [Value.int .i64 (k : Int)] ++ cur2.drop (at_ + 1)).drop (at_ + 1 + (R.length - at_))) (news := (ints R).drop at_) 0; exact rfl; exact rfl; exact tb rfl; exact rfl; exact tb rfl; exact rfl; exact rfl; exact rfl; exact hs2; exact (fun u hu => ints_one R u (List.mem_of_mem_drop hu)); exact (Nat.min_eq_left (by omega)).symm; exact (by simp; omega); exact (by rw [show List.take (R.length - at_) (List.drop at_ (ints R)) = List.drop at_ (ints R) from List.take_of_length_le (by rw [List.length_drop, hcl]; exact Nat.le_refl _)]); exact rfl)
    rotate_left
    · exact rfl
    · exact rfl
    refine TL.back (by (focus ((repeat (first | assumption | exact Ent.refl _ | apply Ent.tail)); done))) ?_
    refine TA.done (by kernel_rfl) ?_
    refine m_run ?_
    refine TK.imp (Δ := ownO 3 (.slice (some ⟨g2, 0, none⟩) (insL R at_ k).length c2) (insL R at_ k).length (ints (insL R at_ k)) :: row g cur 3 :: row bk [.int .i64 (k : Int)] 3 :: Γ) (fun m hm => sep_mono hm (fun _ h => ?_) fun _ h => h) ?_
    · refine ⟨ints_len _, .inr ⟨g2, 0, c2, _, rfl, by rw [insL_len]; exact hc2, by rw [hg2]; omega, by rw [hg2]; omega, ?_, h⟩⟩
      rw [List.drop_zero, insL_len, hg1, insL_ints]
    (apply TK.retS1; exact rfl; exact rfl; (exact m_val))
    · exact ⟨_, rfl, some ⟨g2, 0, none⟩, c2, congrArg (fun z => Value.slice _ z _) insL_len.symm, rfl⟩
    · exact .cons_cons _ (.cons _ (.cons _ (.refl _)))
  refine m_run ?_
  refine TL.know (t := 59) (v := .int .i64 ((R.length + 1 : Nat) : Int)) (congrArg (Value.int .i64) hw) ?_
  (apply TL.pv; exact rfl; (apply PV.sliceS (i := 0) (j := R.length + 1); exact rfl; exact tb rfl; exact rfl; exact tb rfl; exact .none; exact .some rfl; exact (by omega); exact (by omega)))
  refine TL.know (t := 60) (v := .slice (some ⟨g, o, none⟩) (R.length + 1) c) (show Value.slice (if c = 0 then (some ⟨g, o, none⟩ : Option Addr) else (some ⟨g, o, none⟩ : Option Addr).map fun a => a.add (0 * 1)) (R.length + 1 - 0) (c - 0) = _ by rw [addr_slice0]; rfl) ?_
  refine m_run ?_
  refine TL.know (t := 65) (v := .int .i64 ((at_ + 1 : Nat) : Int)) (congrArg (Value.int .i64) (i64_succ at_ (by omega))) ?_
  (apply TL.pv; exact rfl; (apply PV.sliceS (i := at_ + 1) (j := R.length + 1); exact rfl; exact tb rfl; exact rfl; exact tb rfl; exact .some rfl; exact .none; exact (by omega); exact (by omega)))
  refine TL.know (t := 66) (v := .slice (some ⟨g, o + (at_ + 1), none⟩) (R.length + 1 - (at_ + 1)) (c - (at_ + 1))) (show Value.slice (if c = at_ + 1 then (some ⟨g, o, none⟩ : Option Addr) else (some ⟨g, o, none⟩ : Option Addr).map fun a => a.add ((at_ + 1) * 1)) (R.length + 1 - (at_ + 1)) (c - (at_ + 1)) = _ by rw [addr_slice (by omega)]) ?_
  refine TL.mem fun m0 hm0 => ?_
  have hne : bk ≠ g := by
    obtain ⟨m1, m2, hd, _, h1, m3, m4, _, rfl, h3, _⟩ := hm0
    rintro rfl
    rcases hd bk with h | h
    · rw [h1 bk] at h; simp at h
    · unfold Mem.join at h; rw [h3 bk] at h; simp at h
  clear hm0 m0
  (apply TL.pv; exact rfl; (apply PV.ext (vs := [.slice (some ⟨bk, 0, none⟩) 1 1, .slice (some ⟨g, o + (at_ + 1), none⟩) (R.length + 1 - (at_ + 1)) (c - (at_ + 1))]); exact rfl))
  · intro w hS
    have hg := hS.block (i := 0) (o := .cells cur.toArray 3 (0, 0)) rfl
    have hb := hS.block (i := 1) (o := .cells [Value.int .i64 (k : Int)].toArray 3 (0, 0)) rfl
    exact callFunc_overlaps w ⟨bk, 0, none⟩ ⟨g, o + (at_ + 1), none⟩ _ _ _ _ hne 1 cur.length 3 3 (by simp [World.shape?, hb]) (by simp [World.shape?, hg]) (by omega) (by simp [World.frozen?, hb]) (by simp [World.frozen?, hb])
  refine m_run ?_
  obtain ⟨hg1, hg2⟩ := ins_shift cur o at_ R.length (.int .i64 (k : Int)) (by omega) (by omega)
  obtain ⟨C1, hC1⟩ : ∃ C1, C1 = cur.take (o + at_ + 1) ++ ((cur.drop (o + at_)).take (R.length + 1 - at_)).take (R.length - at_) ++ cur.drop (o + at_ + 1 + (R.length - at_)) := ⟨_, rfl⟩
  simp only [← hC1] at hg1 hg2
  refine TK.drawE mixed rfl (row bk [.int .i64 (k : Int)] 3 :: Γ) ?_
  refine m_take (At.mk : At 0) ?_; refine m_take (At.mk : At 1) ?_; refine m_take (At.mk : At 2) ?_; refine m_take (At.mk : At 3) ?_; refine m_take (At.mk : At 5) ?_; refine m_take (At.mk : At 6) ?_
  refine TA.know (t := 72) (v := .int .i64 ((at_ + 1 : Nat) : Int)) (congrArg (Value.int .i64) (i64_succ at_ (by omega))) ?_
  (apply TA.takeA (At.mk : At 4); exact rfl; exact rfl; kernel_rfl; ((focus ((repeat (first | assumption | exact Ent.refl _ | apply Ent.tail)); done))); (apply PV.sliceS (i := at_ + 1) (j := R.length + 1); exact rfl; exact tb rfl; exact rfl; exact tb rfl; exact .some rfl; exact .none; exact (by omega); exact (by omega)))
  refine TA.know (t := 73) (v := .slice (some ⟨g, o + at_ + 1, none⟩) (R.length - at_) (c - (at_ + 1))) (show Value.slice (if c = at_ + 1 then (some ⟨g, o, none⟩ : Option Addr) else (some ⟨g, o, none⟩ : Option Addr).map fun a => a.add ((at_ + 1) * 1)) (R.length + 1 - (at_ + 1)) (c - (at_ + 1)) = _ by rw [addr_slice (by omega), Nat.add_sub_add_right]; rfl) ?_
  (apply TA.takeA (At.mk : At 7); exact rfl; exact rfl; kernel_rfl; ((focus ((repeat (first | assumption | exact Ent.refl _ | apply Ent.tail)); done))); (apply PV.sliceS (i := at_) (j := R.length + 1); exact rfl; exact tb rfl; exact rfl; exact tb rfl; exact .some rfl; exact .none; exact (by omega); exact (by omega)))
  refine TA.know (t := 76) (v := .slice (some ⟨g, o + at_, none⟩) (R.length + 1 - at_) (c - at_)) (show Value.slice (if c = at_ then (some ⟨g, o, none⟩ : Option Addr) else (some ⟨g, o, none⟩ : Option Addr).map fun a => a.add (at_ * 1)) (R.length + 1 - at_) (c - at_) = _ by rw [addr_slice (by omega)]) ?_
  have hcd : ((cur.drop (o + at_)).take (R.length + 1 - at_)).take (R.length - at_) = (ints R).drop at_ := by
    rw [← hcur, List.take_take, Nat.min_eq_left (by omega), ← List.drop_drop, List.drop_take]
  rw [hcd] at hC1
  have hs3 : has (row g cur 3 :: row bk [.int .i64 (k : Int)] 3 :: Γ) (srcAt 1 (some ⟨g, o + at_, none⟩) (R.length - at_) ((ints R).drop at_)) := has_at (up_src _ _ _ _) 0 rfl fun _ h => row_srcO h (by rw [List.length_drop, hcl]) (by rw [← hcur, ← List.drop_drop, List.drop_take])
  (apply TA.one 8; kernel_rfl; exact rfl)
  (apply TL.copyRowK (t := 54) (o := o + at_ + 1) (k := R.length - at_) (cur' := C1) (news := (ints R).drop at_) 0; exact rfl; exact rfl; exact tb rfl; exact rfl; exact tb rfl; exact rfl; exact rfl; exact rfl; exact hs3; exact (fun u hu => ints_one R u (List.mem_of_mem_drop hu)); exact (Nat.min_eq_right (by omega)).symm; exact (by omega); exact hC1.symm; exact rfl)
  rotate_left
  · exact rfl
  · exact rfl
  refine TL.back (by (focus ((repeat (first | assumption | exact Ent.refl _ | apply Ent.tail)); done))) ?_
  refine TA.done (by kernel_rfl) ?_
  refine m_run ?_
  (apply TL.pv; exact rfl; (apply PV.sliceS (i := at_) (j := R.length + 1); exact rfl; exact tb rfl; exact rfl; exact tb rfl; exact .some rfl; exact .none; exact (by omega); exact (by omega)))
  refine TL.know (t := 80) (v := .slice (some ⟨g, o + at_, none⟩) (R.length + 1 - at_) (c - at_)) (show Value.slice (if c = at_ then (some ⟨g, o, none⟩ : Option Addr) else (some ⟨g, o, none⟩ : Option Addr).map fun a => a.add (at_ * 1)) (R.length + 1 - at_) (c - at_) = _ by rw [addr_slice (by omega)]) ?_
  refine m_run ?_
  have hC1l : C1.length = cur.length := by rw [hC1]; simp; omega
  (apply TL.copyRow (t := 54) (o := o + at_) (k := 1) (cur' := C1.take (o + at_) ++ [Value.int .i64 (k : Int)] ++ C1.drop (o + at_ + 1)) (news := [.int .i64 (k : Int)]) 0; exact rfl; exact rfl; exact tb rfl; exact rfl; exact tb rfl; exact rfl; exact rfl; exact rfl; exact has_src_row 1 rfl rfl; exact (fun u hu => by rw [List.mem_singleton.1 hu]; rfl); exact (Nat.min_eq_left (by omega)).symm; exact (by omega); exact rfl; exact rfl)
  rotate_left
  · exact rfl
  · exact rfl
  refine m_run ?_
  refine TK.imp (Δ := ownO 3 (.slice (some ⟨g, o, none⟩) (insL R at_ k).length c) (insL R at_ k).length (ints (insL R at_ k)) :: row bk [.int .i64 (k : Int)] 3 :: Γ) (fun m hm => sep_mono hm (fun _ h => ?_) fun _ h => h) ?_
  · refine ⟨ints_len _, .inr ⟨g, o, c, _, rfl, by rw [insL_len]; omega, by rw [hg2]; omega, by rw [hg2]; omega, ?_, h⟩⟩
    rw [insL_len, hg1, hcur, insL_ints]
  (apply TK.retS1; exact rfl; exact rfl; (exact m_val))
  · exact ⟨_, rfl, some ⟨g, o, none⟩, c, congrArg (fun z => Value.slice _ z _) insL_len.symm, rfl⟩
  · exact .cons_cons _ (.cons _ (.refl _))
end Go.Proofs.Ytndmjpceocecdaa.E

/- BinarySearchFunc; parts compared by their first nodes; one more is ready: walked. -/
namespace Go.Proofs.Ytndmjpceocecdaa.E
open Go Go.RowKit Go.Proofs
attribute [local irreducible] TK TL TQ TA TB Fn PV
set_option maxRecDepth 100000 in
set_option maxHeartbeats 1000000 in
/-- byFirst. -/
theorem byFirst_t (b1 bf : Nat) (P : Option Addr) (pc : Nat) (rows : List Rw) (a b : Nat) (Γ : List HP) (h1 : has Γ (fun m => cellAt m b1 0 (.pointer (some ⟨bf, 0, none⟩)))) (h2 : has Γ (fun m => cellAt m bf 4 (.slice P rows.length pc))) (hR : Rows P rows Γ)
    (ha : a < rows.length) (hb : b < rows.length) (hne : ∀ r ∈ rows, r.w ≠ []) (hlt : ∀ r ∈ rows, ∀ x ∈ r.w, x ≤ 1000000) :
    FnV Try.prog 72 [.int .i64 (a : Int), .int .i64 (b : Int), .pointer (some ⟨b1, 0, none⟩)] Γ fun v Γ' => v = .int .i64 ((Gph.fst (rows.map Rw.w) a : Int) - (Gph.fst (rows.map Rw.w) b : Int)) ∧ Γ' = Γ := by
  have hfst : ∀ k, k < rows.length → ∃ (r : Rw) (x : Nat) (rb ro : Nat), rows[k]? = some r ∧ r.w[0]? = some x ∧ Gph.fst (rows.map Rw.w) k = x ∧ x ≤ 1000000 := fun k hk => by
    have hr := List.getElem?_eq_getElem hk
    have hm := List.getElem_mem hk
    obtain ⟨x, l, hx⟩ : ∃ x l, rows[k].w = x :: l := by
      cases hw : rows[k].w with
      | nil => exact absurd hw (hne _ hm)
      | cons x l => exact ⟨x, l, rfl⟩
    refine ⟨rows[k], x, 0, 0, hr, by rw [hx]; rfl, ?_, hlt _ hm x (by rw [hx]; exact List.mem_cons_self ..)⟩
    unfold Gph.fst
    rw [List.getD_eq_getElem?_getD, List.getElem?_map, hr, Option.map_some, Option.getD_some, hx]
    rfl
  obtain ⟨ra, xa, _, _, hra, hxa, hfa, hla⟩ := hfst a ha
  obtain ⟨rb, xb, _, _, hrb, hxb, hfb, hlb⟩ := hfst b hb
  rw [hfa, hfb]
  refine Fn.enter Try.func72 rfl rfl rfl fun E => ?_
  have ra1 := hR.row ra (List.mem_of_getElem? hra)
  have rb1 := hR.row rb (List.mem_of_getElem? hrb)
  refine TK.mem fun m0 hm0 => ?_
  obtain ⟨ga, oa, hAa⟩ := src_some (ra1 m0 hm0) (by rw [ints_len]; exact (List.getElem?_eq_some_iff.1 hxa).1)
  obtain ⟨gb, ob, hAb⟩ := src_some (rb1 m0 hm0) (by rw [ints_len]; exact (List.getElem?_eq_some_iff.1 hxb).1)
  obtain ⟨gp, op, rfl⟩ := hR.some hm0 (by omega)
  clear hm0 m0
  have va := hR.v rfl hra
  have vb := hR.v rfl hrb
  unfold Rw.v at va vb
  rw [hAa] at ra1 va
  rw [hAb] at rb1 vb
  have ca := has_ints ra1 hxa
  have cb := has_ints rb1 hxb
  rw [Nat.add_zero] at ca cb
  have hwa : 0 < ra.w.length := (List.getElem?_eq_some_iff.1 hxa).1
  have hwb : 0 < rb.w.length := (List.getElem?_eq_some_iff.1 hxb).1
  refine m_run ?_
  refine TK.drawS mixed rfl ?_
  refine m_take (At.mk : At 0) ?_; refine m_take (At.mk : At 1) ?_; refine m_take (At.mk : At 2) ?_; refine m_take (At.mk : At 3) ?_; refine m_take (At.mk : At 4) ?_; refine m_take (At.mk : At 5) ?_; refine m_take (At.mk : At 6) ?_; refine m_take (At.mk : At 7) ?_; refine m_take (At.mk : At 8) ?_; refine m_take (At.mk : At 9) ?_; refine m_take (At.mk : At 10) ?_; refine m_take (At.mk : At 11) ?_; refine m_take (At.mk : At 12) ?_; refine m_take (At.mk : At 13) ?_; refine m_take (At.mk : At 14) ?_; refine m_take (At.mk : At 15) ?_; refine m_take (At.mk : At 16) ?_; refine m_take (At.mk : At 17) ?_; refine m_take (At.mk : At 18) ?_
  refine TA.know (t := 24) (v := .int .i64 ((xa : Int) - (xb : Int))) (congrArg (Value.int .i64) (i64_in (by omega) (by omega))) ?_
  refine m_take (At.mk : At 19) ?_
  refine TA.done (by kernel_rfl) ?_
  refine m_run ?_
  (apply TK.ret1; exact rfl; exact rfl; (exact m_val))
  exact ⟨_, rfl, rfl, rfl⟩
set_option maxRecDepth 100000 in
set_option maxHeartbeats 1000000 in
theorem bsearch_t (b1 : Nat) (f : Nat → Nat) (A : Option Addr) (c : Nat) (R : List Nat) (k : Nat) (Γ : List HP) (hs : has Γ (srcAt 1 A R.length (ints R))) (hn : R.length ≤ 1000000) (hsort : R.Pairwise fun a b => f a < f b)
    (hF : ∀ x ∈ R, FnV Try.prog 72 [.int .i64 (x : Int), .int .i64 (k : Int), .pointer (some ⟨b1, 0, none⟩)] Γ fun v Γ' => v = .int .i64 ((f x : Int) - (f k : Int)) ∧ Γ' = Γ) :
    FnV Try.prog 74 [.slice A R.length c, .int .i64 (k : Int), .func (.func 72) #[] #[.pointer (some ⟨b1, 0, none⟩)]] Γ fun v Γ' => ∃ (at_ : Nat) (b : Bool), Gph.AtIs f k at_ R ∧ v = .tuple #[.int .i64 (at_ : Int), .bool b] ∧ Γ' = Γ := by
  refine Fn.enter Try.func74 rfl rfl rfl fun E => ?_
  refine m_run ?_
  apply TK.iter (fun j ρ' Γ' => ∃ i e : Nat, i + j = e ∧ e ≤ R.length ∧ (∀ x ∈ R.take i, f x < f k) ∧ (∀ x ∈ R.drop e, f k ≤ f x) ∧ lk ρ' 0 = .slice A R.length c ∧ lk ρ' 1 = .int .i64 (k : Int) ∧ lk ρ' 2 = .func (.func 72) #[] #[.pointer (some ⟨b1, 0, none⟩)] ∧ lk ρ' 8 = .int .i64 (R.length : Int) ∧ lk ρ' 9 = .int .i64 (i : Int) ∧ lk ρ' 10 = .int .i64 (e : Int) ∧ Γ' = Γ) R.length
  · exact ⟨0, R.length, Nat.zero_add _, Nat.le_refl _, by simp, by simp, rfl, rfl, rfl, rfl, rfl, rfl, rfl⟩
  rintro j IH ρ' Γ ⟨i, e, hij, he, hlo, hhi, e0, e1, e2, e8, e9, e10, rfl⟩
  refine TK.know6 e0 e1 e2 e8 e9 e10 ?_
  by_cases hi : i < e
  · obtain ⟨m, hm⟩ : ∃ m, m = (i + e) / 2 := ⟨_, rfl⟩
    have hml : m < R.length := by omega
    obtain ⟨x, hx⟩ : ∃ x, R[m]? = some x := ⟨R[m], List.getElem?_eq_getElem hml⟩
    refine TK.mem fun m0 hm0 => ?_
    obtain ⟨g, u, rfl⟩ := src_some (hs m0 hm0) (by rw [ints_len]; omega)
    clear hm0 m0
    have hcx := has_ints hs hx
    refine m_run ?_
    refine TL.know (t := 21) (v := .int .u64 ((i + e : Nat) : Int)) (congrArg (Value.int .u64) (by rw [i64_in (by omega) (by omega), u64_in (by omega) (by omega)]; omega)) ?_
    refine m_run ?_
    refine TL.know (t := 11) (v := .int .i64 (m : Int)) (congrArg (Value.int .i64) (by rw [i64_in (by omega) (by omega)]; omega)) ?_
    refine TL.know (t := 26) (v := .int .i64 (m : Int)) (congrArg (Value.int .i64) (by rw [i64_in (by omega) (by omega)]; omega)) ?_
    refine m_run ?_
    (apply TL.callFV (fs := []) (cs := [.pointer (some ⟨b1, 0, none⟩)]); exact rfl; exact rfl; exact callB_of (by kernel_rfl); exact rfl; exact fun _ h => h)
    exact hF x (List.mem_of_getElem? hx)
    rintro _ Γ ⟨rfl, rfl⟩
    have hsp := hsort
    have hsplit : R = R.take m ++ x :: R.drop (m + 1) := by
      have h1 : R.drop m = R[m]'hml :: R.drop (m + 1) := List.drop_eq_getElem_cons hml
      rw [(List.getElem?_eq_some_iff.1 hx).2] at h1
      rw [← h1, List.take_append_drop]
    rw [hsplit, List.pairwise_append, List.pairwise_cons] at hsp
    by_cases hc : f x < f k
    · refine m_run ?_
      refine IH (e - (m + 1)) _ _ (by omega) ⟨m + 1, e, by omega, he, fun y hy => ?_, hhi, rfl, rfl, rfl, rfl, congrArg (Value.int .i64) (i64_succ m (by omega)), rfl, rfl⟩
      rw [List.take_add_one, hx] at hy
      rcases List.mem_append.1 hy with hy | hy
      · have := hsp.2.2 y hy x (List.mem_cons_self ..)
        omega
      · rw [Option.toList_some, List.mem_singleton] at hy
        rw [hy]; exact hc
    · refine m_run ?_
      refine IH (m - i) _ _ (by omega) ⟨i, m, by omega, by omega, hlo, fun y hy => ?_, rfl, rfl, rfl, rfl, rfl, rfl, rfl⟩
      have h1 : R.drop m = R[m]'hml :: R.drop (m + 1) := List.drop_eq_getElem_cons hml
      rw [(List.getElem?_eq_some_iff.1 hx).2] at h1
      rw [h1] at hy
      rcases List.mem_cons.1 hy with rfl | hy
      · omega
      · have := hsp.2.1.1 y hy
        omega
  obtain rfl : i = e := by omega
  clear IH
  have hat : Gph.AtIs f k i R := ⟨he, hlo, hhi⟩
  by_cases hl : i < R.length
  · obtain ⟨x, hx⟩ : ∃ x, R[i]? = some x := ⟨R[i], List.getElem?_eq_getElem hl⟩
    refine TK.mem fun m0 hm0 => ?_
    obtain ⟨g, u, rfl⟩ := src_some (hs m0 hm0) (by rw [ints_len]; omega)
    clear hm0 m0
    have hcx := has_ints hs hx
    refine m_run ?_
    (apply TL.callFV (fs := []) (cs := [.pointer (some ⟨b1, 0, none⟩)]); exact rfl; exact rfl; exact callB_of (by kernel_rfl); exact rfl; exact fun _ h => h)
    exact hF x (List.mem_of_getElem? hx)
    rintro _ Γ ⟨rfl, rfl⟩
    refine m_run ?_
    (apply TK.ret2; exact rfl; exact rfl; (exact m_val); (exact m_val))
    exact ⟨_, rfl, i, _, hat, rfl, rfl⟩
  · refine m_run ?_
    (apply TK.ret2; exact rfl; exact rfl; (exact m_val); (exact m_val))
    exact ⟨_, rfl, i, _, hat, rfl, rfl⟩
end Go.Proofs.Ytndmjpceocecdaa.E

/- Maps that are nil; one more is ready: walked. -/
namespace Go.Proofs.Ytndmjpceocecdaa.E
open Go Go.RowKit Go.Proofs
attribute [local irreducible] TK TL TQ TA TB Fn PV
section
variable {P : Program} {S : World → Prop} {ρ : Env} {d : Nat} {ty : TypeId} {pos : String} {after : Array Edge} {α : Type} [DecidableEq α] {kv : α → Value} {mt kt et : TypeId} {x y : Operand} {k : α} {r r' : TR}
theorem PV.lenMap0 (ea : ev ρ x = .map none) (ht : TabOk P mt r) (hq : r.und = .map kt et) : PV P ρ S ⟨some d, .call ⟨.builtin .len, #[x], #[mt]⟩, ty, pos, after, none⟩ (.int .i64 0) := by
  unfold PV
  intro w _
  simp [execOp, resolve, invoke, builtin, ea, Builtin.len_, ht.run_und, hq, goInt]
theorem PV.look0 (hk : KeyOk P kt kv) (ht : TabOk P mt r) (hq : r.und = .map kt et) (hu : ∃ kd, P.underlying kt = some kd) (he : TabOk P et r') (ea : ev ρ x = .map none) (eb : ev ρ y = kv k) : PV P ρ S ⟨some d, .lookup mt x y false, ty, pos, after, none⟩ r'.zero := by
  unfold PV
  intro w _
  obtain ⟨kd, hu⟩ := hu
  obtain ⟨h4, _⟩ := run_find (P := P) (vv := kv) (arr := #[]) (es := ([] : List (α × α))) hk hu k rfl w
  simp at h4
  simp [execOp, ea, eb, Instr.lookup, ht.run_und, hq, hk.check, h4, he.run_zero]
end
abbrev iN (n : Nat) : Value := .int .i64 (n : Int)
theorem keyI : KeyOk Try.prog 3 iN := keyNat (tb rfl : TabOk Try.prog 3 _).1
theorem has_ownO {Γ : List HP} {e n c : Nat} {A : Option Addr} {cs : List Value} (i : Nat) (hi : Γ[i]? = some (ownO e (.slice A n c) n cs)) : has Γ (srcAt 1 A n cs) := has_at (up_src _ _ _ _) i hi fun _ h => ownO_src h
set_option maxRecDepth 100000 in
set_option maxHeartbeats 1000000 in
/-- add. -/
theorem add_t (b12 b11 b1 bf : Nat) (P : Option Addr) (pc : Nat) (rows : List Rw) (A : Option Addr) (c : Nat) (R : List Nat) (k : Nat) (Γ : List HP) (h11 : has Γ (fun m => cellAt m b11 0 (.func (.func 72) #[] #[.pointer (some ⟨b1, 0, none⟩)])))
    (h1 : has Γ (fun m => cellAt m b1 0 (.pointer (some ⟨bf, 0, none⟩)))) (h2 : has Γ (fun m => cellAt m bf 4 (.slice P rows.length pc))) (hR : Rows P rows Γ) (hne : ∀ r ∈ rows, r.w ≠ []) (hlt : ∀ r ∈ rows, ∀ x ∈ r.w, x ≤ 1000000)
    (hRl : ∀ x ∈ R, x < rows.length) (hk : k < rows.length) (hn : R.length ≤ 1000000) (hrl : rows.length ≤ 1000000) (hsort : R.Pairwise fun a b => Gph.fst (rows.map Rw.w) a < Gph.fst (rows.map Rw.w) b) :
    FnV Try.prog 73 [.int .i64 (k : Int), .pointer (some ⟨b12, 0, none⟩), .pointer (some ⟨b11, 0, none⟩)] (row b12 [.slice A R.length c] 54 :: ownO 3 (.slice A R.length c) R.length (ints R) :: Γ)
      fun v Γ' => v = .tuple #[] ∧ ∃ at_ A' c', Gph.AtIs (Gph.fst (rows.map Rw.w)) k at_ R ∧ Γ' = row b12 [.slice A' (insL R at_ k).length c'] 54 :: ownO 3 (.slice A' (insL R at_ k).length c') (insL R at_ k).length (ints (insL R at_ k)) :: Γ := by
  refine Fn.enter Try.func73 rfl rfl rfl fun E => ?_
  have g11 := has_tlc (K := row b12 [.slice A R.length c] 54) (has_tlc (K := ownO 3 (.slice A R.length c) R.length (ints R)) h11)
  refine m_run ?_
  (apply TL.callV; exact rfl; exact callB_of (by kernel_rfl); exact rfl; exact fun _ h => h)
  refine bsearch_t b1 (Gph.fst (rows.map Rw.w)) A c R k _ (has_ownO 1 rfl) hn hsort fun x hx => ?_
  exact byFirst_t b1 bf P pc rows x k _ (has_tlc (has_tlc h1)) (has_tlc (has_tlc h2)) hR.tl.tl (hRl x hx) hk hne hlt
  rintro _ _ ⟨at_, b, hat, rfl, rfl⟩
  refine m_run ?_
  (apply TL.buildSlice (l := ints [k]); exact rfl; exact tb rfl; exact rfl; exact tb rfl; exact rfl; exact rfl; exact rfl; exact rfl; exact rfl)
  intro b16
  refine TL.perm (Δ := ownO 3 (.slice A R.length c) R.length (ints R) :: row b16 [.int .i64 (k : Int)] 3 :: row b12 [.slice A R.length c] 54 :: Γ) (List.perm_middle (l₁ := [_, _])) ?_
  refine m_run ?_
  (apply TL.callV; exact rfl; exact callB_of (by kernel_rfl); exact rfl; exact fun _ h => h)
  exact insert_t b16 k A c R at_ _ hat.1 hn (by omega)
  rintro _ _ ⟨A', c', rfl, rfl⟩
  refine m_run ?_
  refine TK.perm (List.Perm.swap _ _ _) ?_
  exact TK.over0 rfl rfl ⟨_, rfl, rfl, at_, A', c', hat, rfl⟩
end Go.Proofs.Ytndmjpceocecdaa.E

/- Parts of a graph, plainly: who waits for whom, edge by edge. -/
namespace Go.Proofs.Ytndmjpceocecdaa.E.Gph
variable {out : List (List Nat)} {of : List (Option Nat)}
/-- Who waits for whom by the edges that have been gone through: those of the first i nodes, and j of the next one. -/
def PQ (out : List (List Nat)) (of : List (Option Nat)) (i j a b : Nat) : Prop := a ≠ b ∧ ∃ v w, (v < i ∧ Edge out v w ∨ v = i ∧ w ∈ (out.getD i []).take j) ∧ of.getD v none = some a ∧ of.getD w none = some b
theorem PQ.zero (a b : Nat) : ¬ PQ out of 0 0 a b := by
  rintro ⟨_, v, w, h | h, _⟩
  · omega
  · simp at h
theorem PQ.succ {i j w a b : Nat} (hw : (out.getD i [])[j]? = some w) (ha : of.getD i none = some a) (hb : of.getD w none = some b) (x y : Nat) : PQ out of i (j + 1) x y ↔ PQ out of i j x y ∨ (x = a ∧ y = b ∧ a ≠ b) := by
  unfold PQ
  rw [List.take_add_one, hw, Option.toList_some]
  constructor
  · rintro ⟨hne, v, u, h, h1, h2⟩
    rcases h with h | ⟨rfl, h⟩
    · exact .inl ⟨hne, v, u, .inl h, h1, h2⟩
    · rcases List.mem_append.1 h with h | h
      · exact .inl ⟨hne, v, u, .inr ⟨rfl, h⟩, h1, h2⟩
      · rw [List.mem_singleton] at h
        subst h
        rw [ha] at h1; rw [hb] at h2
        injection h1 with h1; injection h2 with h2
        subst h1; subst h2
        exact .inr ⟨rfl, rfl, hne⟩
  · rintro (⟨hne, v, u, h, h1, h2⟩ | ⟨rfl, rfl, hne⟩)
    · refine ⟨hne, v, u, ?_, h1, h2⟩
      rcases h with h | ⟨h, h'⟩
      · exact .inl h
      · exact .inr ⟨h, List.mem_append_left _ h'⟩
    · exact ⟨hne, i, w, .inr ⟨rfl, by simp⟩, ha, hb⟩
theorem PQ.row {i j : Nat} (hj : (out.getD i []).length ≤ j) (x y : Nat) : PQ out of i j x y ↔ PQ out of (i + 1) 0 x y := by
  unfold PQ
  rw [List.take_of_length_le hj]
  constructor
  · rintro ⟨hne, v, u, h, h1, h2⟩
    refine ⟨hne, v, u, .inl ?_, h1, h2⟩
    rcases h with ⟨h, h'⟩ | ⟨rfl, h⟩
    · exact ⟨by omega, h'⟩
    · exact ⟨by omega, h⟩
  · rintro ⟨hne, v, u, h, h1, h2⟩
    refine ⟨hne, v, u, ?_, h1, h2⟩
    rcases h with ⟨h, h'⟩ | ⟨_, h⟩
    · by_cases hv : v = i
      · subst hv; exact .inr ⟨rfl, h'⟩
      · exact .inl ⟨by omega, h'⟩
    · simp at h
theorem PQ.whole {n : Nat} (hn : out.length = n) (x y : Nat) : PQ out of n 0 x y ↔ Lead out of x y := by
  unfold PQ Lead
  constructor
  · rintro ⟨hne, v, u, h, h1, h2⟩
    rcases h with ⟨_, h⟩ | ⟨_, h⟩
    · exact ⟨hne, v, u, h, h1, h2⟩
    · simp at h
  · rintro ⟨hne, v, u, h, h1, h2⟩
    refine ⟨hne, v, u, .inl ⟨?_, h⟩, h1, h2⟩
    rw [← hn]
    apply Classical.byContradiction
    intro hc
    unfold Edge at h
    rw [List.getD_eq_getElem?_getD, List.getElem?_eq_none (by omega)] at h
    cases h
theorem KI.congr {m : Nat} {f : Nat → Nat} {W W' : Nat → Nat → Prop} {O R : List Nat} (h : KI m f W O R) (e : ∀ a b, W a b ↔ W' a b) : KI m f W' O R :=
  ⟨h.sort, fun k => by rw [h.iff]; simp only [e]⟩
theorem KI.start {m : Nat} {f : Nat → Nat} {W : Nat → Nat → Prop} {R : List Nat} (hs : R.Pairwise fun a b => f a < f b) (hr : ∀ k, k ∈ R ↔ k < m ∧ ∀ b, ¬ W k b) : KI m f (fun a b => W a b ∧ b ∉ ([] : List Nat)) [] R :=
  ⟨hs, fun k => by rw [hr]; simp⟩
/-- The first one of the ready ones is told. -/
theorem KI.pop {m : Nat} {f : Nat → Nat} {W : Nat → Nat → Prop} {O R : List Nat} {k : Nat} (h : KI m f W O (k :: R)) : KI m f W (O ++ [k]) R := by
  have hs := h.sort
  rw [List.pairwise_cons] at hs
  refine ⟨hs.2, fun x => ?_⟩
  have hx := h.iff x
  rw [List.mem_cons] at hx
  rw [List.mem_append, List.mem_singleton]
  constructor
  · intro hm
    obtain ⟨h1, h2, h3⟩ := hx.1 (.inr hm)
    refine ⟨h1, fun hc => hc.elim h2 fun e => ?_, h3⟩
    have := hs.1 x hm
    rw [e] at this
    exact Nat.lt_irrefl _ this
  · rintro ⟨h1, h2, h3⟩
    exact (hx.2 ⟨h1, fun hc => h2 (.inl hc), h3⟩).resolve_left fun e => h2 (.inr e)
end Go.Proofs.Ytndmjpceocecdaa.E.Gph

/- Entries of maps, plainly; lists of rows and maps: one out, one in. -/
namespace Go.Proofs.Ytndmjpceocecdaa.E
open Go Go.RowKit Go.Proofs
attribute [local irreducible] TK TL TQ TA Fn PV
def noTwo {β : Type} (L : List (Nat × β)) : Prop := (L.map (·.1)).Nodup
theorem lookE_mem {β : Type} {w : Nat} {v : β} : ∀ {L : List (Nat × β)}, noTwo L → (lookE L w = some v ↔ (w, v) ∈ L)
  | [], _ => by simp [lookE]
  | p :: L, h => by
    simp only [noTwo, List.map_cons, List.nodup_cons] at h
    simp only [lookE]
    by_cases hw : w = p.1
    · rw [if_pos hw]
      subst hw
      constructor
      · intro e; injection e with e; subst e; exact List.mem_cons_self ..
      · intro e
        rcases List.mem_cons.1 e with e | e
        · rw [← e]
        · exact absurd (List.mem_map.2 ⟨_, e, rfl⟩) h.1
    · rw [if_neg hw, lookE_mem h.2]
      constructor
      · exact fun e => List.mem_cons_of_mem _ e
      · intro e
        rcases List.mem_cons.1 e with e | e
        · exact absurd (by rw [← e]) hw
        · exact e
theorem lookE_none {β : Type} {w : Nat} : ∀ {L : List (Nat × β)}, lookE L w = none ↔ w ∉ L.map (·.1)
  | [] => by simp [lookE]
  | p :: L => by
    simp only [lookE, List.map_cons, List.mem_cons, not_or]
    by_cases hw : w = p.1
    · simp [hw]
    · rw [if_neg hw, lookE_none]; exact ⟨fun h => ⟨hw, h⟩, fun h => h.2⟩
theorem dropE_sub {β : Type} {w : Nat} : ∀ (L : List (Nat × β)), (dropE L w).Sublist L
  | [] => .slnil
  | p :: L => by
    simp only [dropE]
    split
    · exact List.sublist_cons_self ..
    · exact (dropE_sub L).cons_cons _
theorem dropE_filter {β : Type} {w : Nat} : ∀ {L : List (Nat × β)}, noTwo L → dropE L w = L.filter (fun p => !decide (w = p.1))
  | [], _ => rfl
  | p :: L, h => by
    simp only [noTwo, List.map_cons, List.nodup_cons] at h
    simp only [dropE, List.filter_cons]
    by_cases hw : w = p.1
    · subst hw
      have : L.filter (fun q => !decide (p.1 = q.1)) = L := List.filter_eq_self.2 fun q hq => by
        have : p.1 ≠ q.1 := fun e => h.1 (e ▸ List.mem_map.2 ⟨q, hq, rfl⟩)
        simpa using this
      simp [this]
    · simp only [hw, if_false, decide_false, Bool.not_false, if_true]
      rw [dropE_filter h.2]
theorem noTwo_drop {β : Type} {w : Nat} {L : List (Nat × β)} (h : noTwo L) : noTwo (dropE L w) := ((dropE_sub L).map _).nodup h
theorem lookE_drop {β : Type} {w w' : Nat} {L : List (Nat × β)} (h : noTwo L) : lookE (dropE L w) w' = if w = w' then none else lookE L w' := by
  have hd := noTwo_drop (w := w) h
  split
  · rename_i he
    subst he
    rw [lookE_none, dropE_filter h]
    intro hm
    obtain ⟨p, hp, hpw⟩ := List.mem_map.1 hm
    have := (List.mem_filter.1 hp).2
    simp [hpw] at this
  · rename_i he
    cases hl : lookE L w' with
    | some v =>
      rw [lookE_mem hd, dropE_filter h]
      refine List.mem_filter.2 ⟨(lookE_mem h).1 hl, by simpa using he⟩
    | none =>
      rw [lookE_none]
      intro hm
      exact lookE_none.1 hl (((dropE_sub L).map _).subset hm)
theorem lookE_put {β : Type} {w w' : Nat} {v : β} {L : List (Nat × β)} (hw : lookE L w = none) : lookE (L ++ [(w, v)]) w' = if w = w' then some v else lookE L w' := by
  rw [← setE_none hw, lookE_set]
  by_cases h : w' = w
  · simp [h]
  · rw [if_neg h, if_neg (fun e => h e.symm)]
/-- Who a part waits for: a map that may be nil. -/
abbrev Wt := Option (Nat × List (Nat × Nat))
def Wt.v : Wt → Value
  | none => .map none
  | some x => .map (some x.1)
def Wt.h : Wt → HP
  | none => emp
  | some x => mapA iN iN x.1 x.2
def Wt.get (x : Wt) (b : Nat) : Option Nat := match x with
  | none => none
  | some y => lookE y.2 b
def Wt.len : Wt → Nat
  | none => 0
  | some x => x.2.length
theorem Wt.len_zero {x : Wt} : x.len = 0 ↔ ∀ b, x.get b = none := by
  cases x with
  | none => exact ⟨fun _ _ => rfl, fun _ => rfl⟩
  | some y =>
    show y.2.length = 0 ↔ ∀ b, lookE y.2 b = none
    constructor
    · intro h b
      rw [List.eq_nil_of_length_eq_zero h]; rfl
    · intro h
      cases he : y.2 with
      | nil => rfl
      | cons p l =>
        have := h p.1
        rw [he] at this
        simp [lookE] at this
theorem PV.lenWt {P : Program} {E : World} {ρ : Env} {Γ : List HP} {d : Nat} {ty : TypeId} {pos : String} {after : Array Edge} {mt kt et : TypeId} {o : Operand} {r : TR} {x : Wt} (ea : ev ρ o = x.v) (ht : TabOk P mt r) (hq : r.und = .map kt et) (hm : ∀ y, x = some y → has Γ (mapAt iN iN y.1 y.2)) :
    PV P ρ (Sat E Γ) ⟨some d, .call ⟨.builtin .len, #[o], #[mt]⟩, ty, pos, after, none⟩ (.int .i64 (x.len : Int)) := by
  cases x with
  | none => exact PV.lenMap0 ea ht hq
  | some y =>
    unfold PV
    intro w hs
    obtain ⟨_, _, m, hm', hw⟩ := hs
    obtain ⟨arr, clk, h1, h2⟩ := hm y rfl m hm'
    have h3 := run_getMap (P := P) (hw _ _ h1)
    have hlen : arr.size = y.2.length := by simpa using congrArg List.length h2
    have ea' : ev ρ o = .map (some y.1) := ea
    show _ = Result.ok _ _
    simp [execOp, resolve, invoke, builtin, ea', Builtin.len_, ht.run_und, hq, h3, hlen, goInt, Wt.len]
def Wt.ok : Wt → Prop
  | none => True
  | some x => noTwo x.2 ∧ x.2.length ≤ 1000000
theorem Wt.one (l : List Wt) : ∀ u ∈ l.map Wt.v, u.oneCell' = true := by
  intro u hu
  obtain ⟨x, _, rfl⟩ := List.mem_map.1 hu
  cases x <;> rfl
theorem wt_set {l : List Wt} {a : Nat} {x y : Wt} (h : l[a]? = some x) (hv : y.v = x.v) : (l.set a y).map Wt.v = l.map Wt.v := by
  rw [List.map_set, hv]
  have h1 : (l.map Wt.v)[a]? = some x.v := by rw [List.getElem?_map, h]; rfl
  obtain ⟨hi, he⟩ := List.getElem?_eq_some_iff.1 h1
  rw [← he]
  exact List.set_getElem_self hi
theorem all_out3 {α : Type} {f : α → HP} {l : List α} {i : Nat} {x : α} {Δ Γ : List HP} {m : Mem} (h : l[i]? = some x) (hm : all (Δ ++ alls f l :: Γ) m) : all (f x :: (Δ ++ alls f (l.eraseIdx i) :: Γ)) m :=
  all_perm (List.Perm.cons _ List.perm_middle.symm) (alls_out h (all_perm List.perm_middle hm))
theorem all_in3 {α : Type} {f : α → HP} {l : List α} {i : Nat} {x : α} (y : α) {Δ Γ : List HP} {m : Mem} (h : l[i]? = some x) (hm : all (f y :: (Δ ++ alls f (l.eraseIdx i) :: Γ)) m) : all (Δ ++ alls f (l.set i y) :: Γ) m :=
  all_perm List.perm_middle.symm (alls_in y h (all_perm (List.Perm.cons _ List.perm_middle) hm))
theorem all_set0 {α : Type} {f : α → HP} {l : List α} {i : Nat} {x : α} {Δ Γ : List HP} {m : Mem} (h : l[i]? = some x) (hm : all (Δ ++ alls f l :: Γ) m) : all (Δ ++ alls f (l.set i x) :: Γ) m := by
  rw [show l.set i x = l by
    obtain ⟨hi, he⟩ := List.getElem?_eq_some_iff.1 h
    rw [← he]; exact List.set_getElem_self hi]
  exact hm
theorem has_allsW {α : Type} {f : α → HP} {l : List α} {i k : Nat} {x : α} {Γ : List HP} {p : Mem → Prop} (hp : Up p) (k_ : Γ[k]? = some (alls f l)) (h : l[i]? = some x) (hx : ∀ m, f x m → p m) : has Γ p :=
  has_at hp k k_ fun m hm => by
    obtain ⟨a, b, hd, rfl, ha, _⟩ := alls_get h hm
    exact hp _ _ (Mem.sub_left a b) (hx a ha)
end Go.Proofs.Ytndmjpceocecdaa.E
