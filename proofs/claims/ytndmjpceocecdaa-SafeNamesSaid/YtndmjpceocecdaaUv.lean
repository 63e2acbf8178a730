/- What predicates and variables are called says nothing: the plain law of SafeNames. -/
import Derived.Test.YtndmjpceocecdaaUr
namespace Go.Proofs.Ytndmjpceocecdaa.E
open Go Go.RowKit
/-! ### clauses without their places in memory -/
abbrev PL := Bool × Nat × List Tm
abbrev PC := Nat × List Tm × List PL
def pureL (x : Lt) : PL := (x.no, x.a.p, x.a.l)
def pureC (c : Cl) : PC := (c.h.p, c.h.l, c.l.map pureL)
def mayP (d : PC) : Bool := decide (d.2.2.length ≤ 8) && mayA d.2.1 && !(d.2.2.any fun x => !mayA x.2.2)
def posP (L : List PL) : List Nat := (L.filter fun x => x.1 == false).flatMap fun x => varsOf x.2.2
def heldP (d : PC) : Bool := heldA (posP d.2.2) d.2.1 && (d.2.2.filter fun x => x.1 == true).all fun x => heldA (posP d.2.2) x.2.2
def atsP (d : PC) : List (Nat × Nat) := (d.1, d.2.1.length) :: d.2.2.map fun x => (x.2.1, x.2.2.length)
theorem mayC_pure (c : Cl) : mayC c = mayP (pureC c) := by
  unfold mayC mayP pureC
  simp only [List.length_map, List.any_map]
  rfl
theorem posV_pure (l : List Lt) : posV l = posP (l.map pureL) := by
  unfold posV posP litsOf
  rw [List.filter_map, List.flatMap_map]
  rfl
theorem heldC_pure (c : Cl) : heldC c = heldP (pureC c) := by
  unfold heldC heldP pureC
  rw [posV_pure]
  simp only
  rw [List.filter_map, List.all_map]
  rfl
theorem atsOf_pure (c : Cl) : atsOf c = atsP (pureC c) := by
  unfold atsOf atsP pureC
  simp only [List.map_map]
  rfl
theorem atsL_pure (l : List Cl) : atsL l = (l.map pureC).flatMap atsP := by
  unfold atsL
  rw [List.flatMap_map]
  exact congrArg (fun f => l.flatMap f) (funext atsOf_pure)
/-! ### other numbers -/
def varN (y n : Nat) : Nat := if n < 16 then (n + y) % 16 else n
def renT (y : Nat) (t : Tm) : Tm := if t.v = true ∧ t.n < 16 then ⟨true, (t.n + y) % 16⟩ else t
def preN (mv p : Nat) : Nat := (p + mv) % 4294967296
def renL (mv y : Nat) (x : PL) : PL := (x.1, preN mv x.2.1, x.2.2.map (renT y))
def renD (mv y : Nat) (d : PC) : PC := (preN mv d.1, d.2.1.map (renT y), d.2.2.map (renL mv y))
def renP (mv : Nat) (a : Nat × Nat) : Nat × Nat := (preN mv a.1, a.2)
theorem varN_inj {y a b : Nat} (h : varN y a = varN y b) : a = b := by
  unfold varN at h
  split at h <;> split at h <;> omega
theorem preN_inj {mv a b : Nat} (ha : a < 4294967296) (hb : b < 4294967296) (h : preN mv a = preN mv b) : a = b := by
  unfold preN at h
  omega
theorem badT_ren (y : Nat) (t : Tm) : badT (renT y t) = badT t := by
  unfold renT
  split
  · rename_i h
    unfold badT
    rw [h.1]
    simp only [Bool.true_and]
    exact decide_eq_decide.2 (by omega)
  · rfl
theorem mayA_ren (y : Nat) (l : List Tm) : mayA (l.map (renT y)) = mayA l := by
  unfold mayA
  rw [List.length_map, List.any_map]
  congr 2
  exact congrArg (fun f => l.any f) (funext (badT_ren y))
theorem mayP_ren (mv y : Nat) (d : PC) : mayP (renD mv y d) = mayP d := by
  unfold mayP renD
  simp only [List.length_map, List.any_map, mayA_ren]
  congr 2
  refine congrArg (fun f => d.2.2.any f) (funext fun x => ?_)
  simp only [Function.comp, renL, mayA_ren]
theorem renT_v (y : Nat) (t : Tm) : (renT y t).v = t.v := by
  unfold renT
  split
  · rename_i h; exact h.1.symm
  · rfl
theorem varsOf_ren (y : Nat) (l : List Tm) : varsOf (l.map (renT y)) = (varsOf l).map (varN y) := by
  unfold varsOf
  rw [List.filter_map, List.map_map, List.map_map]
  have : (fun t : Tm => t.v) ∘ renT y = fun t => t.v := funext (renT_v y)
  rw [this]
  refine List.map_congr_left fun t ht => ?_
  have hv := (List.mem_filter.1 ht).2
  simp only [Function.comp, renT, varN]
  by_cases h : t.n < 16
  · rw [if_pos ⟨hv, h⟩, if_pos h]
  · rw [if_neg (fun e => h e.2), if_neg h]
theorem heldA_ren (y : Nat) (V : List Nat) (l : List Tm) : heldA (V.map (varN y)) (l.map (renT y)) = heldA V l := by
  unfold heldA
  rw [varsOf_ren, List.all_map]
  refine congrArg (fun f => (varsOf l).all f) (funext fun v => ?_)
  simp only [Function.comp]
  refine decide_eq_decide.2 ⟨fun h => ?_, fun h => List.mem_map.2 ⟨v, h, rfl⟩⟩
  obtain ⟨w, hw, he⟩ := List.mem_map.1 h
  rw [← varN_inj he]; exact hw
theorem posP_ren (mv y : Nat) (L : List PL) : posP (L.map (renL mv y)) = (posP L).map (varN y) := by
  unfold posP
  rw [List.filter_map, List.flatMap_map, List.map_flatMap]
  refine congrArg (fun f => List.flatMap f _) (funext fun x => ?_)
  exact varsOf_ren y x.2.2
theorem heldP_ren (mv y : Nat) (d : PC) : heldP (renD mv y d) = heldP d := by
  unfold heldP renD
  simp only
  rw [posP_ren, heldA_ren, List.filter_map, List.all_map]
  congr 1
  refine congrArg (fun f => List.all _ f) (funext fun x => ?_)
  exact heldA_ren y _ x.2.2
theorem atsP_ren (mv y : Nat) (d : PC) : atsP (renD mv y d) = (atsP d).map (renP mv) := by
  unfold atsP renD
  simp only [List.map_cons, List.map_map, List.length_map]
  congr 1
  refine List.map_congr_left fun x _ => ?_
  simp [renL, renP]
theorem cons_ren {mv : Nat} {L : List (Nat × Nat)} (hb : ∀ a ∈ L, a.1 < 4294967296) : Cons (L.map (renP mv)) ↔ Cons L := by
  constructor
  · intro h a ha c hc e
    exact h (renP mv a) (List.mem_map.2 ⟨a, ha, rfl⟩) (renP mv c) (List.mem_map.2 ⟨c, hc, rfl⟩) (by simp only [renP]; rw [e])
  · intro h a ha c hc e
    obtain ⟨x, hx, rfl⟩ := List.mem_map.1 ha
    obtain ⟨z, hz, rfl⟩ := List.mem_map.1 hc
    exact h x hx z hz (preN_inj (hb x hx) (hb z hz) e)
theorem consB_ren {mv : Nat} {L : List (Nat × Nat)} (hb : ∀ a ∈ L, a.1 < 4294967296) : consB (L.map (renP mv)) = consB L := by
  rw [Bool.eq_iff_iff, consB_iff, consB_iff, cons_ren hb]
/-- The same program, with other numbers. -/
def Renamed (mv y : Nat) (l l' : List Cl) : Prop := l'.map pureC = l.map fun c => renD mv y (pureC c)
theorem ren_get {mv y : Nat} {l l' : List Cl} (h : Renamed mv y l l') {k : Nat} {c c' : Cl} (hc : l[k]? = some c) (hc' : l'[k]? = some c') : pureC c' = renD mv y (pureC c) := by
  have := congrArg (fun m => m[k]?) h
  simp only [List.getElem?_map, hc, hc', Option.map_some] at this
  injection this
theorem ren_len {mv y : Nat} {l l' : List Cl} (h : Renamed mv y l l') : l'.length = l.length := by simpa using congrArg List.length h
theorem ren_ats {mv y : Nat} {l l' : List Cl} (h : Renamed mv y l l') : atsL l' = (atsL l).map (renP mv) := by
  rw [atsL_pure, atsL_pure, h, List.flatMap_map, List.map_flatMap, List.flatMap_map]
  exact congrArg (fun f => l.flatMap f) (funext fun c => atsP_ren mv y (pureC c))
theorem ren_take {mv y : Nat} {l l' : List Cl} (h : Renamed mv y l l') (k : Nat) : Renamed mv y (l.take k) (l'.take k) := by
  unfold Renamed at h ⊢
  rw [List.map_take, List.map_take, h]
theorem ren_wrong {mv y : Nat} {l l' : List Cl} (h : Renamed mv y l l') (hb : ∀ a ∈ atsL l, a.1 < 4294967296) {k : Nat} {c c' : Cl} (hc : l[k]? = some c) (hc' : l'[k]? = some c') : wrong1 (atsL (l'.take k)) c' = wrong1 (atsL (l.take k)) c := by
  have hp := ren_get h hc hc'
  unfold wrong1
  rw [mayC_pure c', mayC_pure c, heldC_pure c', heldC_pure c, atsOf_pure c', hp, mayP_ren, heldP_ren, atsP_ren, ren_ats (ren_take h k), ← List.map_append, consB_ren, ← atsOf_pure]
  intro a ha
  refine hb a ?_
  rcases List.mem_append.1 ha with ha | ha
  · obtain ⟨d, hd, had⟩ := atsL_mem.1 ha
    exact atsL_mem.2 ⟨d, List.mem_of_mem_take hd, had⟩
  · exact atsL_mem.2 ⟨c, List.mem_of_getElem? hc, by rw [atsOf_pure]; exact ha⟩
theorem ren_res {mv y : Nat} {l l' : List Cl} (h : Renamed mv y l l') (hb : ∀ a ∈ atsL l, a.1 < 4294967296) {n : Nat} {e : Int} (hr : Res l n e) : Res l' n e := by
  have hl := ren_len h
  have hok : ∀ i, okTo l i → okTo l' i := fun i hi k c' hk hc' => by
    have hkl : k < l.length := by rw [← hl]; exact (List.getElem?_eq_some_iff.1 hc').1
    have hc : l[k]? = some l[k] := List.getElem?_eq_getElem hkl
    rw [ren_wrong h hb hc hc']
    exact hi k _ hk hc
  unfold Res
  rw [hl]
  rcases hr with hr | ⟨h4, ⟨c, hc, h1, h2, h3⟩ | ⟨h1, h2, h3⟩⟩
  · exact .inl hr
  · have hkl : n < l'.length := by rw [hl]; exact (List.getElem?_eq_some_iff.1 hc).1
    have hc' : l'[n]? = some l'[n] := List.getElem?_eq_getElem hkl
    exact .inr ⟨h4, .inl ⟨_, hc', hok n h1, by rw [ren_wrong h hb hc hc']; exact h2, h3⟩⟩
  · exact .inr ⟨h4, .inr ⟨hok _ h1, h2, h3⟩⟩
/-! ### facts -/
def RenF (mv : Nat) (fs fs' : List Fct) : Prop := fa fs' = (fa fs).map (renP mv)
theorem renF_get {mv : Nat} {fs fs' : List Fct} (h : RenF mv fs fs') {k : Nat} {f f' : Fct} (hf : fs[k]? = some f) (hf' : fs'[k]? = some f') : f'.p = preN mv f.p ∧ f'.l.length = f.l.length := by
  have := congrArg (fun m => m[k]?) h
  simp only [fa, List.getElem?_map, hf, hf', Option.map_some, renP] at this
  injection this with this
  injection this with h1 h2
  exact ⟨h1, h2⟩
theorem renF_bad {mv : Nat} {L : List (Nat × Nat)} {fs fs' : List Fct} (h : RenF mv fs fs') (hb : ∀ a ∈ L, a.1 < 4294967296) (hfb : ∀ f ∈ fs, f.p < 4294967296) {k : Nat} {f f' : Fct} (hf : fs[k]? = some f) (hf' : fs'[k]? = some f') : badF (L.map (renP mv)) fs' k f' ↔ badF L fs k f := by
  obtain ⟨h1, h2⟩ := renF_get h hf hf'
  have hfa : fa (fs'.take k) = (fa (fs.take k)).map (renP mv) := by
    unfold RenF fa at h
    unfold fa
    rw [List.map_take, List.map_take, h, List.map_take]
  have hbf := hfb f (List.mem_of_getElem? hf)
  unfold badF
  rw [hfa, ← List.map_append, h1, h2]
  constructor
  · rintro (h | ⟨a, ha, hap, hne⟩)
    · exact .inl h
    · obtain ⟨x, hx, rfl⟩ := List.mem_map.1 ha
      refine .inr ⟨x, hx, preN_inj ?_ hbf hap, hne⟩
      rcases List.mem_append.1 hx with hx | hx
      · exact hb x hx
      · obtain ⟨g, hg, rfl⟩ := List.mem_map.1 hx
        exact hfb g (List.mem_of_mem_take hg)
  · rintro (h | ⟨a, ha, hap, hne⟩)
    · exact .inl h
    · exact .inr ⟨renP mv a, List.mem_map.2 ⟨a, ha, rfl⟩, by simp only [renP]; rw [hap], hne⟩
theorem renF_res {mv : Nat} {L : List (Nat × Nat)} {fs fs' : List Fct} (h : RenF mv fs fs') (hb : ∀ a ∈ L, a.1 < 4294967296) (hfb : ∀ f ∈ fs, f.p < 4294967296) {n : Nat} {e : Int} (hr : ResA L fs n e) : ResA (L.map (renP mv)) fs' n e := by
  have hl : fs'.length = fs.length := by simpa [fa, RenF] using congrArg List.length h
  have hok : ∀ i, okF L fs i → okF (L.map (renP mv)) fs' i := fun i hi k f' hk hf' => by
    have hkl : k < fs.length := by rw [← hl]; exact (List.getElem?_eq_some_iff.1 hf').1
    have hf : fs[k]? = some fs[k] := List.getElem?_eq_getElem hkl
    rw [renF_bad h hb hfb hf hf']
    exact hi k _ hk hf
  rcases hr with ⟨f, hf, h1, h2, h3⟩ | ⟨h1, h2, h3⟩
  · have hkl : n < fs'.length := by rw [hl]; exact (List.getElem?_eq_some_iff.1 hf).1
    have hf' : fs'[n]? = some fs'[n] := List.getElem?_eq_getElem hkl
    exact .inl ⟨_, hf', hok n h1, (renF_bad h hb hfb hf hf').2 h2, h3⟩
  · exact .inr ⟨by rw [hl]; exact hok _ h1, h2, h3⟩
end Go.Proofs.Ytndmjpceocecdaa.E
