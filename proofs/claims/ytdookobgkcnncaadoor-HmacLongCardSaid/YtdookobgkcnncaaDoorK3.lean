/- How long the rows inside a slice of slices may be (as the worked row DeepLife has it); numbers read. -/
import Derived.Test.YtdookobgkcnncaaDoorH9
import Derived.Test.YtdookobgkcnncaaDoorK2
namespace Go.Proofs.YtdookobgkcnncaaDoor.E
open Go Go.RowKit Go.Proofs
theorem weightsAll_mem {H : Type} {P : Program} {e : TypeId} : ∀ {l : List (DataW H)} {d : DataW H}, d ∈ l → ∀ n ∈ d.weights P e, n ∈ DataW.weightsAll P e l
  | d' :: r, d, hd, n, hn => by
    simp only [DataW.weightsAll, List.mem_append]
    rcases List.mem_cons.1 hd with rfl | h
    · exact Or.inl hn
    · exact Or.inr (weightsAll_mem h n hn)
theorem sized_inner {H : Type} {P : Program} {ts : List TypeId} {ds : List (DataW H)} (h : (DataW.weightsEach P ts ds).all (· ≤ reachBytes) = true) {j : Nat} {t e q : TypeId} {elems spare e' sp' : List (DataW H)}
    (ht : ts[j]? = some t) (hd : ds[j]? = some (.slice elems spare)) (hu : P.underlying t = some (.slice e)) (hu2 : P.underlying e = some (.slice q)) (hx : DataW.slice e' sp' ∈ elems) : (e'.length + sp'.length) * P.bytesOf q ≤ reachBytes := by
  refine of_decide_eq_true (List.all_eq_true.1 h _ (DataW.weights_mem_each ht hd _ ?_))
  simp only [DataW.weights, hu, List.mem_cons, List.mem_append]
  exact Or.inr (Or.inl (weightsAll_mem hx _ (by simp [DataW.weights, hu2])))
theorem cellAt_one {m : Mem} {b o : Nat} {u v : Value} (h : cellAt m b o u) (h' : cellAt m b o v) : u = v := by
  obtain ⟨c, e, fr, h1, h2⟩ := h
  obtain ⟨c', e', fr', h3, h4⟩ := h'
  rw [h1] at h3
  injection h3 with h3
  injection h3 with h3
  subst h3
  rw [h2] at h4
  injection h4
theorem slss_flat (l : List (Sl UInt8)) : l.flatMap (rSl rByte).cells = l.map Sl.v := by
  induction l with
  | nil => rfl
  | cons x xs ih => rw [List.flatMap_cons, ih]; rfl
theorem slss_src {s : Sl (Sl UInt8)} {W : World} (h : (rSl (rSl rByte)).ok s (memOf W)) : has [exact_ W] (srcAt 1 s.A s.l.length (s.l.map Sl.v)) := by
  have h1 : srcAt (rSl rByte).sz s.A s.l.length (s.l.flatMap (rSl rByte).cells) (memOf W) := h.2.2.1
  rw [slss_flat] at h1
  exact has_exact h1
theorem nats_src {m : Nat} {q : IntKind} {s : Sl Nat} {W : World} (h : (rSl (rNat q m)).ok s (memOf W)) : has [exact_ W] (srcAt 1 s.A s.l.length (natsV q s.l)) := by
  have h1 : srcAt (rNat q m).sz s.A s.l.length (s.l.flatMap (rNat q m).cells) (memOf W) := h.2.2.1
  have h2 : ∀ l : List Nat, l.flatMap (rNat q m).cells = natsV q l := fun l => by
    induction l with
    | nil => rfl
    | cons x xs ih => rw [List.flatMap_cons, ih]; rfl
  rw [h2] at h1
  exact has_exact h1
theorem inner_len {H : Type} {enc : TypeId × Value → H} {P : Program} {w : World} {t e e' : Nat} {r r' : TR} {a : Sl (Sl UInt8)} {d : DataW H} {ps : List MemPlace} {ts : List TypeId} {ds : List (DataW H)} {j : Nat} (ht : TabOk P t r) (hq : r.und = .slice e) (he : TabOk P e r') (hq' : r'.und = .slice e') (hs1 : r'.size = 1) (hb : Nat.blt 0 (P.bytesOf e') = true)
    (hok : (rSl (rSl rByte)).ok a (memOf w)) (hd : DataW.Trod enc P w 0 (fun _ => true) true t a.v d ps) (hz : (DataW.weightsEach P ts ds).all (· ≤ reachBytes) = true) (h1 : ts[j]? = some t) (h2 : ds[j]? = some d) : ∀ s ∈ a.l, s.l.length ≤ 140737488351232 := by
  obtain ⟨fuel, hf⟩ := hd
  have hcs : a.v.cells.toList = [.slice a.A a.l.length a.c] := rfl
  rw [hcs] at hf
  have hsrc : srcAt 1 a.A a.l.length (a.l.map Sl.v) (memOf w) := by
    have h1 : srcAt (rSl rByte).sz a.A a.l.length (a.l.flatMap (rSl rByte).cells) (memOf w) := hok.2.2.1
    rw [slss_flat] at h1
    exact h1
  intro s hs
  obtain ⟨i, hi, hsi⟩ := List.getElem_of_mem hs
  have hsi' : a.l[i]? = some s := by simp [hi, hsi]
  have hce : P.cellsOf e = 1 := by rw [he.cellsOf, hs1]
  rcases DataW.trod_slice (by rw [ht.1, hq]) hf with ⟨h3, _⟩ | ⟨a', len, cap, elems, rest, n, _, h3, hx, _, _, _, hel, hei, _⟩
  · have : a.l.length = 0 := by
      injection h3 with h3 _
      injection h3
    omega
  · injection h3 with h3 _
    injection h3 with h3 h4 _
    injection hx with hx _
    subst hx
    obtain ⟨y, hy⟩ : ∃ y, elems[i]? = some y := ⟨elems[i]'(by omega), by simp [show i < elems.length by omega]⟩
    have h5 := hei i (by omega)
    rw [hy, Option.bind_eq_some_iff, hce, Nat.mul_one] at h5
    obtain ⟨cs, hcs2, htr⟩ := h5
    obtain ⟨hcl, _, hcm⟩ := cells_mem hcs2
    obtain ⟨u, rfl⟩ : ∃ u, cs = [u] := by
      match cs, hcl with
      | [u], _ => exact ⟨u, rfl⟩
    have h6 := hcm 0 u rfl
    rcases hsrc.2 with h7 | ⟨b, o, h7, h8⟩
    · have := congrArg List.length h7
      rw [List.length_map, List.length_nil] at this
      omega
    · rw [h3] at h7
      injection h7 with h7
      subst h7
      have h9 := h8 i s.v (by rw [List.getElem?_map, hsi']; rfl)
      have h10 : u = s.v := cellAt_one (by simpa [add_at] using h6) h9
      subst h10
      rcases DataW.trod_slice (by rw [he.1, hq']) htr with ⟨h11, _⟩ | ⟨a2, len2, cap2, elems2, rest2, n2, _, h11, hx2, _, _, _, hel2, _⟩
      · have : s.l.length = 0 := by
          injection h11 with h11 _
          injection h11
        omega
      · have h12 : s.l.length = len2 := by
          injection h11 with h11 _
          injection h11
        have hmem : DataW.slice (elems2.map (·.1)) (rest2.map (·.1)) ∈ elems.map (·.1) := by
          refine List.mem_map.2 ⟨y, List.mem_of_getElem? hy, ?_⟩
          rw [hx2]
        have h13 := sized_inner hz h1 h2 (by rw [ht.1, hq]) (by rw [he.1, hq']) hmem
        rw [List.length_map, List.length_map, hel2] at h13
        have h14 : (len2 + rest2.length) * 1 ≤ (len2 + rest2.length) * P.bytesOf e' := Nat.mul_le_mul_left _ (Nat.le_of_ble_eq_true hb)
        have h15 : reachBytes = 140737488351232 := rfl
        omega
end Go.Proofs.YtdookobgkcnncaaDoor.E
