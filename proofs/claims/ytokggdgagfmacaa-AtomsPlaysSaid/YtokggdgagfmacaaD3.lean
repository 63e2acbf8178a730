/- The plain laws of AtomsPut. -/
import Derived.Test.YtokggdgagfmacaaD2
namespace Go.Proofs.Ytokggdgagfmacaa.E
theorem matL_iff {l : List Tm} {m : List Nat} (hlm : l.length = m.length) : matL l m = true ↔ ∀ (i : Nat) (x : Tm) (v : Nat), l[i]? = some x → m[i]? = some v → (x.v = false → x.n = v) ∧ (x.v = true → ∀ (k w : Nat), l[k]? = some x → m[k]? = some w → w = v) := by
  constructor
  · intro h i x v hx hv
    have hall : ∀ k, k < l.length → matOk l m k = true := fun k hk => List.all_eq_true.1 h k (List.mem_range.2 hk)
    have hi := (List.getElem?_eq_some_iff.1 hx).1
    have h1 := hall i hi
    refine ⟨fun hc => ?_, fun hc k w hk hw => ?_⟩
    · unfold matOk at h1
      rw [hx, hv] at h1
      simpa [hc] using h1
    · obtain ⟨xv, N⟩ := x
      replace hc : xv = true := hc
      subst hc
      have hkl := (List.getElem?_eq_some_iff.1 hk).1
      rcases Nat.le_total k i with h2 | h2
      · have := mat_same (i := i + 1) hlm (fun p hp => hall p (by omega)) k i (by omega) (by omega) h2 hk hx
        rw [hw, hv] at this
        exact Option.some.inj this
      · have := mat_same (i := k + 1) hlm (fun p hp => hall p (by omega)) i k (by omega) (by omega) h2 hx hk
        rw [hw, hv] at this
        exact (Option.some.inj this).symm
  · intro h
    refine List.all_eq_true.2 fun i hi => ?_
    have hi := List.mem_range.1 hi
    have hx : l[i]? = some l[i] := List.getElem?_eq_getElem hi
    have hv : m[i]? = some (m[i]'(by omega)) := List.getElem?_eq_getElem (by omega)
    obtain ⟨h1, h2⟩ := h i _ _ hx hv
    unfold matOk
    rw [hx, hv]
    cases hc : l[i].v with
    | false => simp [hc, h1 hc]
    | true =>
      simp only [hc, if_pos]
      refine List.all_eq_true.2 fun k hk => ?_
      have hk := List.mem_range.1 hk
      by_cases he : l[k]? = some l[i]
      · have hw : m[k]? = some (m[k]'(by omega)) := List.getElem?_eq_getElem (by omega)
        have := h2 hc k _ he hw
        rw [hw, this]; simp
      · simp [he]
def varsTo (n : Nat) : List Tm := (List.range n).map fun i => ⟨true, i⟩
theorem varsTo_len (n : Nat) : (varsTo n).length = n := by simp [varsTo]
theorem varsTo_get {n i : Nat} (h : i < n) : (varsTo n)[i]? = some ⟨true, i⟩ := by simp [varsTo, h]
theorem varsTo_snoc (n : Nat) : varsTo n ++ [⟨true, n⟩] = varsTo (n + 1) := by simp [varsTo, List.range_succ]
theorem match_vars {m : List Nat} : matL (varsTo m.length) m = true := by
  refine (matL_iff (varsTo_len _)).2 fun i x v hx hv => ?_
  have hi := (List.getElem?_eq_some_iff.1 hv).1
  rw [varsTo_get hi] at hx
  injection hx with hx
  subst hx
  refine ⟨fun h => (by cases h), fun _ k w hk hw => ?_⟩
  have hk' := (List.getElem?_eq_some_iff.1 hw).1
  rw [varsTo_get hk'] at hk
  injection hk with hk
  injection hk with _ hk
  subst hk
  rw [hw] at hv
  exact Option.some.inj hv
theorem match_vars2 {m : List Nat} {p q u w : Nat} (hp : m[p]? = some u) (hq : m[q]? = some w) : matL ((varsTo m.length).set p ⟨true, q⟩) m = decide (u = w) := by
  have hpl := (List.getElem?_eq_some_iff.1 hp).1
  have hql := (List.getElem?_eq_some_iff.1 hq).1
  have hlen : ((varsTo m.length).set p ⟨true, q⟩).length = m.length := by rw [List.length_set, varsTo_len]
  have hself : ((varsTo m.length).set p ⟨true, q⟩)[p]? = some ⟨true, q⟩ := List.getElem?_set_self (by rw [varsTo_len]; exact hpl)
  have hother : ∀ i, i ≠ p → i < m.length → ((varsTo m.length).set p ⟨true, q⟩)[i]? = some ⟨true, i⟩ := fun i hi hil => by rw [List.getElem?_set_ne (Ne.symm hi), varsTo_get hil]
  by_cases hpq : p = q
  · subst hpq
    rw [hp] at hq
    have : u = w := Option.some.inj hq
    rw [decide_eq_true this]
    have : (varsTo m.length).set p ⟨true, p⟩ = varsTo m.length := by
      apply List.ext_getElem?
      intro i
      by_cases hi : p = i
      · subst hi; rw [hself, varsTo_get hpl]
      · rw [List.getElem?_set_ne hi]
    rw [this]
    exact match_vars
  by_cases huw : u = w
  · rw [decide_eq_true huw]
    refine (matL_iff hlen).2 fun i x v hx hv => ?_
    have hi := (List.getElem?_eq_some_iff.1 hv).1
    have val : ∀ (i : Nat) (x : Tm) (v : Nat), ((varsTo m.length).set p ⟨true, q⟩)[i]? = some x → m[i]? = some v → x.v = true ∧ m[x.n]? = some v := fun i x v hx hv => by
      have hi := (List.getElem?_eq_some_iff.1 hv).1
      by_cases hip : i = p
      · subst hip
        rw [hself] at hx
        injection hx with hx
        subst hx
        rw [hp] at hv
        exact ⟨rfl, by show m[q]? = _; rw [hq, ← huw]; exact hv⟩
      · rw [hother i hip hi] at hx
        injection hx with hx
        subst hx
        exact ⟨rfl, hv⟩
    obtain ⟨h1, h2⟩ := val i x v hx hv
    refine ⟨fun h => (by rw [h1] at h; cases h), fun _ k w' hk hw' => ?_⟩
    obtain ⟨_, h3⟩ := val k x w' hk hw'
    rw [h2] at h3
    exact (Option.some.inj h3).symm
  · rw [decide_eq_false huw]
    cases hm : matL ((varsTo m.length).set p ⟨true, q⟩) m with
    | false => rfl
    | true =>
      have h := (matL_iff hlen).1 hm p _ u hself hp
      exact absurd (h.2 rfl q w (hother q (Ne.symm hpq) hql) hq).symm huw
/-- A variable's symbol in its place. -/
def putT (y : Tm) (v : Nat) (x : Tm) : Tm := if x = y ∧ y.v = true then ⟨false, v⟩ else x
theorem match_put {l : List Tm} {m : List Nat} {p u : Nat} {y : Tm} (hlm : l.length = m.length) (hy : l[p]? = some y) (hu : m[p]? = some u) : matL (l.map (putT y u)) m = matL l m := by
  have hlm' : (l.map (putT y u)).length = m.length := by rw [List.length_map, hlm]
  rw [Bool.eq_iff_iff, matL_iff hlm', matL_iff hlm]
  constructor
  · intro h i x v hx hv
    have hg : (l.map (putT y u))[i]? = some (putT y u x) := by rw [List.getElem?_map, hx]; rfl
    obtain ⟨h1, h2⟩ := h i _ v hg hv
    by_cases hxy : x = y ∧ y.v = true
    · obtain ⟨rfl, hyv⟩ := hxy
      have hall : ∀ (k w : Nat), l[k]? = some x → m[k]? = some w → u = w := fun k w hk hw => by
        have hgk : (l.map (putT x u))[k]? = some (putT x u x) := by rw [List.getElem?_map, hk]; rfl
        have := (h k _ w hgk hw).1
        unfold putT at this
        rw [if_pos ⟨rfl, hyv⟩] at this
        exact this rfl
      refine ⟨fun hc => (by rw [hyv] at hc; cases hc), fun _ k w hk hw => ?_⟩
      rw [← hall k w hk hw, ← hall i v hx hv]
    · have e : putT y u x = x := if_neg hxy
      rw [e] at h1 h2
      refine ⟨h1, fun hc k w hk hw => ?_⟩
      refine h2 hc k w ?_ hw
      rw [List.getElem?_map, hk]
      exact congrArg some e
  · intro h i x' v hx' hv
    rw [List.getElem?_map, Option.map_eq_some_iff] at hx'
    obtain ⟨x, hx, rfl⟩ := hx'
    obtain ⟨h1, h2⟩ := h i x v hx hv
    by_cases hxy : x = y ∧ y.v = true
    · obtain ⟨rfl, hyv⟩ := hxy
      have e : putT x u x = ⟨false, u⟩ := if_pos ⟨rfl, hyv⟩
      rw [e]
      exact ⟨fun _ => h2 hyv p u hy hu, fun hc => (by cases hc)⟩
    · have e : putT y u x = x := if_neg hxy
      rw [e]
      refine ⟨h1, fun hc k w hk hw => ?_⟩
      rw [List.getElem?_map, Option.map_eq_some_iff] at hk
      obtain ⟨z, hz, hzx⟩ := hk
      by_cases hzy : z = y ∧ y.v = true
      · have : putT y u z = ⟨false, u⟩ := if_pos hzy
        rw [this] at hzx
        rw [← hzx] at hc
        cases hc
      · have : putT y u z = z := if_neg hzy
        rw [this] at hzx
        exact h2 hc k w (by rw [hz, hzx]) hw
end Go.Proofs.Ytokggdgagfmacaa.E
