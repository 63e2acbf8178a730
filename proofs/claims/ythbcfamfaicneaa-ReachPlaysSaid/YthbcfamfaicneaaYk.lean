/- Reach, plainly: spots told in rounds, against all chains. -/
import Derived.Test.YthbcfamfaicneaaYb
namespace Go.Proofs.Ythbcfamfaicneaa.E.Rch
abbrev Sp := Nat × Nat
abbrev Stp := Sp × List Nat
/-! ### what is fresh -/
def fresh (S : List Sp) : List Stp → List Stp
  | [] => []
  | s :: L => if s.1 ∈ S then fresh S L else s :: fresh (S ++ [s.1]) L
theorem fresh_congr : ∀ (L : List Stp) {S S' : List Sp}, (∀ x, x ∈ S ↔ x ∈ S') → fresh S L = fresh S' L
  | [], _, _, _ => rfl
  | s :: L, S, S', h => by
    simp only [fresh, h s.1]
    split
    · exact fresh_congr L h
    · rw [fresh_congr L (S := S ++ [s.1]) (S' := S' ++ [s.1]) fun x => by simp [h x]]
theorem fresh_append : ∀ (A : List Stp) (S : List Sp) (B : List Stp), fresh S (A ++ B) = fresh S A ++ fresh (S ++ (fresh S A).map (·.1)) B
  | [], S, B => by simp [fresh]
  | s :: A, S, B => by
    simp only [List.cons_append, fresh]
    split
    · exact fresh_append A S B
    · rw [List.cons_append, fresh_append A (S ++ [s.1]) B]
      simp
theorem fresh_mem : ∀ (A : List Stp) (S : List Sp) (x : Sp), x ∈ S ++ (fresh S A).map (·.1) ↔ x ∈ S ∨ x ∈ A.map (·.1)
  | [], S, x => by simp [fresh]
  | s :: A, S, x => by
    simp only [fresh]
    split
    · rename_i h
      rw [fresh_mem A S x, List.map_cons, List.mem_cons]
      constructor
      · rintro (h1 | h1)
        · exact .inl h1
        · exact .inr (.inr h1)
      · rintro (h1 | rfl | h1)
        · exact .inl h1
        · exact .inl h
        · exact .inr h1
    · have := fresh_mem A (S ++ [s.1]) x
      rw [List.map_cons, List.map_cons, show S ++ s.1 :: (fresh (S ++ [s.1]) A).map (·.1) = S ++ [s.1] ++ (fresh (S ++ [s.1]) A).map (·.1) by simp, this]
      simp only [List.mem_append, List.mem_cons, List.not_mem_nil, or_false, or_assoc]
theorem fresh_none : ∀ (A : List Stp) (S : List Sp), (∀ s ∈ A, s.1 ∈ S) → fresh S A = []
  | [], _, _ => rfl
  | s :: A, S, h => by
    rw [fresh, if_pos (h s (List.mem_cons_self ..))]
    exact fresh_none A S fun x hx => h x (List.mem_cons_of_mem _ hx)
theorem fresh_find (f : Sp → Bool) : ∀ (A : List Stp) (S : List Sp), (∀ x ∈ S, f x = false) → (fresh S A).find? (fun s => f s.1) = A.find? (fun s => f s.1)
  | [], _, _ => rfl
  | s :: A, S, h => by
    rw [fresh]
    split
    · rename_i hs
      rw [List.find?_cons_of_neg (by simp [h _ hs]), fresh_find f A S h]
    · cases hf : f s.1 with
      | true => simp [List.find?_cons, hf]
      | false =>
        rw [List.find?_cons_of_neg (by simp [hf]), List.find?_cons_of_neg (by simp [hf])]
        exact fresh_find f A _ fun x hx => by
          rcases List.mem_append.1 hx with hx | hx
          · exact h x hx
          · rw [List.mem_singleton.1 hx]; exact hf
/-! ### chains -/
section
variable (K : List Nat) (nx : Sp → Nat → Option Sp)
def step1 (s : Stp) (i : Nat) : Option Stp := (nx s.1 i).map fun t => (t, s.2 ++ [i])
def exts (s : Stp) : List Stp := K.filterMap (step1 nx s)
theorem exts_sp (s : Stp) : (exts K nx s).map (·.1) = K.filterMap (nx s.1) := by
  unfold exts step1
  rw [List.map_filterMap]
  congr 1
  funext i
  cases nx s.1 i <;> rfl
def chs (s0 : Sp) : Nat → List Stp
  | 0 => [(s0, [])]
  | n + 1 => (chs s0 n).flatMap (exts K nx)
def allC (s0 : Sp) (n : Nat) : List Stp := (List.range n).flatMap (chs K nx s0)
theorem allC_succ (s0 : Sp) (n : Nat) : allC K nx s0 (n + 1) = allC K nx s0 n ++ chs K nx s0 n := by
  unfold allC
  rw [List.range_succ, List.flatMap_append]
  simp
def lvl (s0 : Sp) : Nat → List Stp × List Sp
  | 0 => ([(s0, [])], [s0])
  | n + 1 => (fresh (lvl s0 n).2 ((lvl s0 n).1.flatMap (exts K nx)), (lvl s0 n).2 ++ (fresh (lvl s0 n).2 ((lvl s0 n).1.flatMap (exts K nx))).map (·.1))
def told (s0 : Sp) (n : Nat) : List Stp := (List.range n).flatMap fun k => (lvl K nx s0 k).1
theorem told_succ (s0 : Sp) (n : Nat) : told K nx s0 (n + 1) = told K nx s0 n ++ (lvl K nx s0 n).1 := by
  unfold told
  rw [List.range_succ, List.flatMap_append]
  simp
theorem fresh_flat : ∀ (A : List Stp) (S S' : List Sp), (∀ t ∈ S, ∀ u ∈ K.filterMap (nx t), u ∈ S') → fresh S' (A.flatMap (exts K nx)) = fresh S' ((fresh S A).flatMap (exts K nx))
  | [], _, _, _ => rfl
  | s :: A, S, S', h => by
    rw [fresh]
    split
    · rename_i hs
      rw [List.flatMap_cons, fresh_append, fresh_none (exts K nx s) S' fun x hx => by
        refine h s.1 hs x.1 ?_
        rw [← exts_sp]
        exact List.mem_map.2 ⟨x, hx, rfl⟩]
      simp only [List.map_nil, List.append_nil, List.nil_append]
      exact fresh_flat A S S' h
    · rw [List.flatMap_cons, List.flatMap_cons, fresh_append, fresh_append]
      congr 1
      refine fresh_flat A (S ++ [s.1]) _ fun t ht u hu => ?_
      rw [fresh_mem]
      rcases List.mem_append.1 ht with ht | ht
      · exact .inl (h t ht u hu)
      · rw [List.mem_singleton.1 ht, ← exts_sp] at hu
        exact .inr hu
theorem mem_allC {s0 : Sp} {n : Nat} {s : Stp} : s ∈ allC K nx s0 n ↔ ∃ k, k < n ∧ s ∈ chs K nx s0 k := by
  unfold allC
  simp [List.mem_flatMap]
theorem lvl_spec (s0 : Sp) : ∀ n, (lvl K nx s0 n).1 = fresh ((allC K nx s0 n).map (·.1)) (chs K nx s0 n) ∧ ∀ x, x ∈ (lvl K nx s0 n).2 ↔ x ∈ (allC K nx s0 (n + 1)).map (·.1)
  | 0 => by
    refine ⟨rfl, fun x => ?_⟩
    rw [allC_succ]
    simp [lvl, allC, chs]
  | n + 1 => by
    obtain ⟨h1, h2⟩ := lvl_spec s0 n
    have h3 : (lvl K nx s0 (n + 1)).1 = fresh ((allC K nx s0 (n + 1)).map (·.1)) (chs K nx s0 (n + 1)) := by
      show fresh (lvl K nx s0 n).2 ((lvl K nx s0 n).1.flatMap (exts K nx)) = _
      rw [fresh_congr _ h2, h1, ← fresh_flat]
      · rfl
      · intro t ht u hu
        obtain ⟨s, hs, rfl⟩ := List.mem_map.1 ht
        obtain ⟨k, hk, hs⟩ := (mem_allC K nx).1 hs
        rw [← exts_sp] at hu
        obtain ⟨v, hv, rfl⟩ := List.mem_map.1 hu
        exact List.mem_map.2 ⟨v, (mem_allC K nx).2 ⟨k + 1, by omega, List.mem_flatMap.2 ⟨s, hs, hv⟩⟩, rfl⟩
    refine ⟨h3, fun x => ?_⟩
    have h4 : (lvl K nx s0 (n + 1)).2 = (lvl K nx s0 n).2 ++ (lvl K nx s0 (n + 1)).1.map (·.1) := rfl
    rw [h4, h3, List.mem_append, h2, ← List.mem_append, fresh_mem, allC_succ (n := n + 1), List.map_append, List.mem_append]
theorem told_spec (s0 : Sp) : ∀ n, told K nx s0 n = fresh [] (allC K nx s0 n)
  | 0 => rfl
  | n + 1 => by
    rw [told_succ, allC_succ, told_spec s0 n, (lvl_spec K nx s0 n).1, fresh_append]
    congr 1
    exact fresh_congr _ fun x => by
      rw [fresh_mem]
      simp
theorem lvl_nil (s0 : Sp) {n : Nat} (h : (lvl K nx s0 n).1 = []) : (lvl K nx s0 (n + 1)).1 = [] := by
  show fresh _ ((lvl K nx s0 n).1.flatMap (exts K nx)) = []
  rw [h]
  rfl
theorem told_stop (s0 : Sp) {n : Nat} (h : (lvl K nx s0 n).1 = []) : ∀ m, (lvl K nx s0 (n + m)).1 = [] ∧ told K nx s0 (n + m) = told K nx s0 n
  | 0 => ⟨h, rfl⟩
  | m + 1 => by
    obtain ⟨h1, h2⟩ := told_stop s0 h m
    refine ⟨lvl_nil K nx s0 h1, ?_⟩
    rw [← Nat.add_assoc, told_succ, h1, h2, List.append_nil]
theorem chs_left (hD : ∀ s i t, nx s i = some t → t.2 < s.2) (s0 : Sp) : ∀ n s, s ∈ chs K nx s0 n → s.1.2 + n ≤ s0.2
  | 0, s, h => by
    rw [List.mem_singleton.1 h]
    exact Nat.le_refl _
  | n + 1, s, h => by
    obtain ⟨u, hu, hs⟩ := List.mem_flatMap.1 h
    have h1 := chs_left hD s0 n u hu
    obtain ⟨i, _, hi⟩ := List.mem_filterMap.1 hs
    unfold step1 at hi
    cases hn : nx u.1 i with
    | none => rw [hn] at hi; cases hi
    | some t =>
      rw [hn] at hi
      injection hi with hi
      have := hD _ _ _ hn
      rw [← hi]
      show t.2 + (n + 1) ≤ _
      omega
theorem told_end (hD : ∀ s i t, nx s i = some t → t.2 < s.2) (s0 : Sp) {n : Nat} (h : (lvl K nx s0 n).1 = []) (m : Nat) (hm : s0.2 < m) : told K nx s0 n = fresh [] (allC K nx s0 m) := by
  rw [← told_spec]
  have hz : (lvl K nx s0 m).1 = [] := by
    rw [(lvl_spec K nx s0 m).1]
    cases hc : chs K nx s0 m with
    | nil => rfl
    | cons s L =>
      have := chs_left K nx hD s0 m s (by rw [hc]; exact List.mem_cons_self ..)
      omega
  rcases Nat.le_total n m with hnm | hnm
  · obtain ⟨k, rfl⟩ := Nat.exists_eq_add_of_le hnm
    exact ((told_stop K nx s0 h k).2).symm
  · obtain ⟨k, rfl⟩ := Nat.exists_eq_add_of_le hnm
    exact (told_stop K nx s0 hz k).2
/-- The document's way: from a chain all that go on with so many links. -/
def goes : Nat → Stp → List Stp
  | 0, s => [s]
  | n + 1, s => (exts K nx s).flatMap (goes n)
theorem goes_flat (s0 : Sp) (n : Nat) : goes K nx n (s0, []) = chs K nx s0 n := by
  have it : ∀ n (L : List Stp), L.flatMap (goes K nx (n + 1)) = (L.flatMap (goes K nx n)).flatMap (exts K nx) := by
    intro n
    induction n with
    | zero =>
      intro L
      have h1 : goes K nx 0 = fun s => [s] := rfl
      have h2 : goes K nx 1 = exts K nx := by
        funext s
        show (exts K nx s).flatMap (goes K nx 0) = _
        rw [h1]
        simp
      rw [h1, h2]
      simp
    | succ n ih =>
      intro L
      have a1 : L.flatMap (goes K nx (n + 2)) = (L.flatMap (exts K nx)).flatMap (goes K nx (n + 1)) := by rw [List.flatMap_assoc]; rfl
      have a2 : L.flatMap (goes K nx (n + 1)) = (L.flatMap (exts K nx)).flatMap (goes K nx n) := by rw [List.flatMap_assoc]; rfl
      rw [a1, ih, a2]
  induction n with
  | zero => rfl
  | succ n ih =>
    have := it n [(s0, [])]
    simp only [List.flatMap_cons, List.flatMap_nil, List.append_nil] at this
    rw [this, ih]
    rfl
/-! ### ways -/
def runW (t : Sp) : List Nat → Option Sp
  | [] => some t
  | i :: w => if i ∈ K then (nx t i).bind fun u => runW u w else none
theorem runW_append (w : List Nat) : ∀ (v : List Nat) (t : Sp), runW K nx t (v ++ w) = (runW K nx t v).bind fun u => runW K nx u w
  | [], t => rfl
  | i :: v, t => by
    simp only [List.cons_append, runW]
    split
    · cases nx t i with
      | none => rfl
      | some u => exact runW_append w v u
    · rfl
theorem mem_chs (s0 : Sp) : ∀ (n : Nat) (t : Sp) (w : List Nat), (t, w) ∈ chs K nx s0 n ↔ w.length = n ∧ runW K nx s0 w = some t
  | 0, t, w => by
    constructor
    · intro h
      have := List.mem_singleton.1 h
      injection this with h1 h2
      subst h1; subst h2
      exact ⟨rfl, rfl⟩
    · rintro ⟨h1, h2⟩
      obtain rfl := List.length_eq_zero_iff.1 h1
      injection h2 with h2
      subst h2
      exact List.mem_singleton.2 rfl
  | n + 1, t, w => by
    constructor
    · intro h
      obtain ⟨⟨u, v⟩, hu, hs⟩ := List.mem_flatMap.1 h
      obtain ⟨h1, h2⟩ := (mem_chs s0 n u v).1 hu
      obtain ⟨i, hi, hs⟩ := List.mem_filterMap.1 hs
      unfold step1 at hs
      cases hn : nx u i with
      | none => simp [hn] at hs
      | some x =>
        simp only [hn, Option.map_some, Option.some.injEq, Prod.mk.injEq] at hs
        obtain ⟨rfl, rfl⟩ := hs
        refine ⟨by simp [h1], ?_⟩
        rw [runW_append, h2]
        simp [runW, hi, hn]
    · rintro ⟨h1, h2⟩
      obtain ⟨v, i, rfl⟩ : ∃ v i, w = v ++ [i] := by
        rcases List.eq_nil_or_concat w with rfl | ⟨v, i, rfl⟩
        · simp at h1
        · exact ⟨v, i, List.concat_eq_append⟩
      rw [runW_append] at h2
      cases hr : runW K nx s0 v with
      | none => simp [hr] at h2
      | some u =>
        rw [hr] at h2
        simp only [Option.bind_some, runW] at h2
        split at h2
        · rename_i hi
          refine List.mem_flatMap.2 ⟨(u, v), (mem_chs s0 n u v).2 ⟨by simp at h1; omega, hr⟩, List.mem_filterMap.2 ⟨i, hi, ?_⟩⟩
          unfold step1
          cases hn : nx u i with
          | none => simp [hn] at h2
          | some x => simp [hn] at h2 ⊢; exact h2
        · cases h2
theorem find_first {f : Stp → Bool} (s0 : Sp) : ∀ {N : Nat} {t : Sp} {w : List Nat}, (allC K nx s0 N).find? f = some (t, w) → runW K nx s0 w = some t ∧ ∀ t' w', w'.length < w.length → runW K nx s0 w' = some t' → f (t', w') = false
  | 0, t, w, h => by cases h
  | N + 1, t, w, h => by
    rw [allC_succ, List.find?_append] at h
    cases h1 : (allC K nx s0 N).find? f with
    | some s =>
      rw [h1] at h
      injection h with h
      subst h
      exact find_first s0 h1
    | none =>
      rw [h1] at h
      have h2 := List.mem_of_find?_eq_some (show (chs K nx s0 N).find? f = some (t, w) from h)
      obtain ⟨h3, h4⟩ := (mem_chs K nx s0 N t w).1 h2
      refine ⟨h4, fun t' w' hl hr => ?_⟩
      have := List.find?_eq_none.1 h1 (t', w') ((mem_allC K nx).2 ⟨w'.length, by omega, (mem_chs K nx s0 _ t' w').2 ⟨rfl, hr⟩⟩)
      simpa using this
theorem twice_of : ∀ {w : List Nat}, ¬ w.Nodup → ∃ p q r i, w = p ++ i :: (q ++ i :: r)
  | [], h => absurd List.nodup_nil h
  | y :: w, h => by
    by_cases hy : y ∈ w
    · obtain ⟨q, r, rfl⟩ := List.append_of_mem hy
      exact ⟨[], q, r, y, rfl⟩
    · have hw : ¬ w.Nodup := fun hw => h (List.nodup_cons.2 ⟨hy, hw⟩)
      obtain ⟨p, q, r, i, rfl⟩ := twice_of hw
      exact ⟨y :: p, q, r, i, rfl⟩
structure Law : Prop where
  down : ∀ s i t, nx s i = some t → t.2 < s.2
  one : ∀ s i t s' t', nx s i = some t → nx s' i = some t' → s.1 = s'.1 ∧ t.1 = t'.1
  more : ∀ a k m i t, nx (a, k) i = some t → k ≤ m → ∃ m', nx (a, m) i = some (t.1, m') ∧ t.2 ≤ m'
variable {K nx}
theorem runW_down (hL : Law nx) : ∀ {w : List Nat} {s t : Sp}, runW K nx s w = some t → t.2 ≤ s.2
  | [], s, t, h => by injection h with h; rw [h]; exact Nat.le_refl _
  | i :: w, s, t, h => by
    simp only [runW] at h
    split at h
    · cases hn : nx s i with
      | none => simp [hn] at h
      | some u =>
        rw [hn] at h
        have h1 := runW_down hL h
        have h2 := hL.down _ _ _ hn
        omega
    · cases h
theorem runW_more (hL : Law nx) : ∀ {w : List Nat} {a k m : Nat} {t : Sp}, runW K nx (a, k) w = some t → k ≤ m → ∃ m', runW K nx (a, m) w = some (t.1, m') ∧ t.2 ≤ m'
  | [], a, k, m, t, h, hk => by injection h with h; subst h; exact ⟨m, rfl, hk⟩
  | i :: w, a, k, m, t, h, hk => by
    simp only [runW] at h ⊢
    split at h
    · rename_i hi
      cases hn : nx (a, k) i with
      | none => simp [hn] at h
      | some u =>
        rw [hn] at h
        obtain ⟨m1, h1, h2⟩ := hL.more a k m i u hn hk
        obtain ⟨m2, h3, h4⟩ := runW_more hL (a := u.1) (k := u.2) (m := m1) h h2
        refine ⟨m2, ?_, h4⟩
        rw [if_pos hi, h1]
        exact h3
    · cases h
theorem least_nodup (hL : Law nx) {s0 : Sp} {N x : Nat} {t : Sp} {w : List Nat} (h : (allC K nx s0 N).find? (fun s => decide (s.1.1 = x)) = some (t, w)) : w.Nodup := by
  have hx : t.1 = x := by simpa using List.find?_some h
  obtain ⟨h1, h2⟩ := find_first K nx s0 h
  refine Classical.byContradiction fun hno => ?_
  obtain ⟨p, q, r, i, rfl⟩ := twice_of hno
  rw [runW_append] at h1
  cases hp : runW K nx s0 p with
  | none => simp [hp] at h1
  | some u =>
  rw [hp] at h1
  simp only [Option.bind_some, runW] at h1
  split at h1
  · rename_i hi
    cases hn : nx u i with
    | none => simp [hn] at h1
    | some v =>
    rw [hn] at h1
    simp only [Option.bind_some] at h1
    rw [runW_append] at h1
    cases hq : runW K nx v q with
    | none => simp [hq] at h1
    | some u2 =>
    rw [hq] at h1
    simp only [Option.bind_some, runW] at h1
    rw [if_pos hi] at h1
    cases hn2 : nx u2 i with
    | none => simp [hn2] at h1
    | some v2 =>
    rw [hn2] at h1
    simp only [Option.bind_some] at h1
    have hd1 := hL.down _ _ _ hn
    have hd2 := runW_down hL hq
    obtain ⟨ha, hb⟩ := hL.one _ _ _ _ _ hn hn2
    obtain ⟨m', h3, h4⟩ := hL.more u2.1 u2.2 u.2 i v2 hn2 (by omega)
    rw [← ha, show ((u.1, u.2) : Sp) = u from rfl, hn] at h3
    injection h3 with h3
    have hv : v = (v2.1, v.2) := by rw [h3]
    have hm : v2.2 ≤ v.2 := by rw [h3]; exact h4
    obtain ⟨m2, h5, _⟩ := runW_more hL (a := v2.1) (k := v2.2) (m := v.2) h1 hm
    rw [← hv] at h5
    have h6 := h2 (t.1, m2) (p ++ i :: r) (by simp; omega) (by
      rw [runW_append, hp]
      simp only [Option.bind_some, runW]
      rw [if_pos hi, hn]
      exact h5)
    simp [hx] at h6
  · cases h1
/-- Without a link that is not on the way it is reached too. -/
theorem reach_less {s0 : Sp} {N x k : Nat} {t : Sp} {w : List Nat} (h : (allC K nx s0 N).find? (fun s => decide (s.1.1 = x)) = some (t, w)) (hk : k ∉ w) : ((allC (K.filter (· ≠ k)) nx s0 N).find? (fun s => decide (s.1.1 = x))).isSome = true := by
  have hx : t.1 = x := by simpa using List.find?_some h
  obtain ⟨n, hn, hm⟩ := (mem_allC K nx).1 (List.mem_of_find?_eq_some h)
  obtain ⟨h1, h2⟩ := (mem_chs K nx s0 n t w).1 hm
  rw [List.find?_isSome]
  have hr : ∀ (w : List Nat) (s : Sp), k ∉ w → runW K nx s w = some t → runW (K.filter (· ≠ k)) nx s w = some t := by
    intro w
    induction w with
    | nil => exact fun _ _ h => h
    | cons i w ih =>
      intro s hk h
      simp only [List.mem_cons, not_or] at hk
      simp only [runW] at h ⊢
      split at h
      · rename_i hi
        rw [if_pos (List.mem_filter.2 ⟨hi, by simpa using fun e => hk.1 e.symm⟩)]
        cases hn : nx s i with
        | none => simp [hn] at h
        | some u =>
          rw [hn] at h
          exact ih u hk.2 h
      · cases h
  exact ⟨(t, w), (mem_allC _ nx).2 ⟨n, hn, (mem_chs _ nx s0 n t w).2 ⟨h1, hr w s0 hk h2⟩⟩, by simp [hx]⟩
theorem way_mem {s0 : Sp} : ∀ {w : List Nat} {t : Sp}, runW K nx s0 w = some t → ∀ i ∈ w, i ∈ K := by
  intro w
  induction w generalizing s0 with
  | nil => simp
  | cons i w ih =>
    intro t h j hj
    simp only [runW] at h
    split at h
    · rename_i hi
      rcases List.mem_cons.1 hj with rfl | hj
      · exact hi
      · cases hn : nx s0 i with
        | none => simp [hn] at h
        | some u =>
          rw [hn] at h
          exact ih h j hj
    · cases h
/-- The same chains by other numbers. -/
theorem renum {K' : List Nat} {nx' : Sp → Nat → Option Sp} (ρ : Nat → Nat) (hK : K'.map ρ = K) (hn : ∀ s i, nx' s i = nx s (ρ i)) (s0 : Sp) : ∀ n, (chs K' nx' s0 n).map (·.1) = (chs K nx s0 n).map (·.1)
  | 0 => rfl
  | n + 1 => by
    have h : ∀ (K : List Nat) (nx : Sp → Nat → Option Sp), (chs K nx s0 (n + 1)).map (·.1) = ((chs K nx s0 n).map (·.1)).flatMap fun t => K.filterMap (nx t) := by
      intro K nx
      show ((chs K nx s0 n).flatMap (exts K nx)).map (·.1) = _
      rw [List.map_flatMap, List.flatMap_map]
      congr 1
      funext s
      exact exts_sp K nx s
    rw [h, h, renum ρ hK hn s0 n]
    congr 1
    funext t
    rw [← hK, List.filterMap_map]
    congr 1
    funext i
    exact hn t i
theorem find_sp (f : Sp → Bool) {A B : List Stp} (h : A.map (·.1) = B.map (·.1)) : (A.find? fun s => f s.1).isSome = (B.find? fun s => f s.1).isSome := by
  have : ∀ A : List Stp, (A.find? fun s => f s.1).isSome = (A.map (·.1)).any f := fun A => by
    rw [Bool.eq_iff_iff, List.find?_isSome, List.any_map, List.any_eq_true]
    rfl
  rw [this, this, h]
theorem renum_all {K' : List Nat} {nx' : Sp → Nat → Option Sp} (ρ : Nat → Nat) (hK : K'.map ρ = K) (hn : ∀ s i, nx' s i = nx s (ρ i)) (s0 : Sp) (n : Nat) : (allC K' nx' s0 n).map (·.1) = (allC K nx s0 n).map (·.1) := by
  unfold allC
  rw [List.map_flatMap, List.map_flatMap]
  congr 1
  funext k
  exact renum ρ hK hn s0 k
end
theorem sorted_eq : ∀ {l m : List Nat}, l.Pairwise (· < ·) → m.Pairwise (· < ·) → (∀ x, x ∈ l ↔ x ∈ m) → l = m
  | [], [], _, _, _ => rfl
  | [], y :: m, _, _, h => absurd ((h y).2 (List.mem_cons_self ..)) (by simp)
  | x :: l, [], _, _, h => absurd ((h x).1 (List.mem_cons_self ..)) (by simp)
  | x :: l, y :: m, hl, hm, h => by
    have h1 := List.pairwise_cons.1 hl
    have h2 := List.pairwise_cons.1 hm
    have hxy : x = y := by
      have hx := (h x).1 (List.mem_cons_self ..)
      have hy := (h y).2 (List.mem_cons_self ..)
      rcases List.mem_cons.1 hx with hx | hx
      · exact hx
      · rcases List.mem_cons.1 hy with hy | hy
        · exact hy.symm
        · have := h1.1 y hy
          have := h2.1 x hx
          omega
    subst hxy
    congr 1
    refine sorted_eq h1.2 h2.2 fun z => ?_
    have hz := h z
    simp only [List.mem_cons] at hz
    constructor
    · intro hzl
      rcases hz.1 (.inr hzl) with e | e
      · exact absurd (h1.1 z hzl) (by omega)
      · exact e
    · intro hzm
      rcases hz.2 (.inr hzm) with e | e
      · exact absurd (h2.1 z hzm) (by omega)
      · exact e
end Go.Proofs.Ythbcfamfaicneaa.E.Rch
