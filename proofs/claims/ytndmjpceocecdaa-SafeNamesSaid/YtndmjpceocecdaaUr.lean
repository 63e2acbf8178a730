/- Parts of right programs are right: the plain law of SafeParts. -/
import Derived.Test.YtndmjpceocecdaaUo
namespace Go.Proofs.Ytndmjpceocecdaa.E
open Go Go.RowKit
theorem atsL_mem {l : List Cl} {a : Nat × Nat} : a ∈ atsL l ↔ ∃ c ∈ l, a ∈ atsOf c := by unfold atsL; exact List.mem_flatMap
theorem ok_all {l : List Cl} : okTo l l.length ↔ (∀ c ∈ l, mayC c = true ∧ heldC c = true) ∧ Cons (atsL l) := by
  constructor
  · intro h
    refine ⟨fun c hc => ?_, ?_⟩
    · obtain ⟨k, hk, hkc⟩ := List.mem_iff_getElem.1 hc
      have := wrong1_zero.1 (h k c hk (by rw [List.getElem?_eq_getElem hk, hkc]))
      exact ⟨this.1, this.2.1⟩
    · have := okTo_cons h (Nat.le_refl _)
      rwa [List.take_length] at this
  · rintro ⟨h1, h2⟩ k c hk hc
    have hcm := List.mem_of_getElem? hc
    refine wrong1_zero.2 ⟨(h1 c hcm).1, (h1 c hcm).2, h2.mono fun a ha => ?_⟩
    rcases List.mem_append.1 ha with ha | ha
    · obtain ⟨d, hd, had⟩ := atsL_mem.1 ha
      exact atsL_mem.2 ⟨d, List.mem_of_mem_take hd, had⟩
    · exact atsL_mem.2 ⟨c, hcm, ha⟩
theorem res_right {l : List Cl} (h4 : l.length ≤ 400) (h1 : ∀ c ∈ l, mayC c = true ∧ heldC c = true) (h2 : Cons (atsL l)) : Res l 0 0 := .inr ⟨h4, .inr ⟨ok_all.2 ⟨h1, h2⟩, rfl, rfl⟩⟩
/-- What is wrong stays wrong. -/
theorem res_more {l more : List Cl} {n : Nat} {e : Int} (h : Res l n e) (he : e ≠ 0) (hl : l.length + more.length ≤ 120) : Res (l ++ more) n e := by
  rcases h with ⟨h, _⟩ | ⟨_, ⟨c, hc, hok, hw, h0⟩ | ⟨_, _, h0⟩⟩
  · omega
  · have hn := (List.getElem?_eq_some_iff.1 hc).1
    have htk : ∀ k, k ≤ n → (l ++ more).take k = l.take k := fun k hk => List.take_append_of_le_length (by omega)
    refine .inr ⟨by rw [List.length_append]; omega, .inl ⟨c, by rw [List.getElem?_append_left hn]; exact hc, fun k d hk hd => ?_, by rw [htk n (Nat.le_refl _)]; exact hw, h0⟩⟩
    rw [htk k (by omega)]
    rw [List.getElem?_append_left (by omega)] at hd
    exact hok k d hk hd
  · exact absurd h0 he
theorem res_small {l : List Cl} {n : Nat} {e : Int} (h : Res l n e) : n < max l.length 1 := by
  rcases h with ⟨_, h, _⟩ | ⟨_, ⟨c, hc, _⟩ | ⟨_, h, _⟩⟩
  · omega
  · have := (List.getElem?_eq_some_iff.1 hc).1; omega
  · omega
/-- A right program without some of its clauses. -/
theorem res_less {l m : List Cl} (h : Res l 0 0) (hs : ∀ c ∈ m, c ∈ l) (hm : m.length ≤ l.length) : Res m 0 0 := by
  obtain ⟨h1, _, h4⟩ := res_ok h
  obtain ⟨h2, h3⟩ := ok_all.1 h1
  refine res_right (by omega) (fun c hc => h2 c (hs c hc)) (h3.mono fun a ha => ?_)
  obtain ⟨d, hd, had⟩ := atsL_mem.1 ha
  exact atsL_mem.2 ⟨d, hs d hd, had⟩
/-- A clause without its last literal, which is not. -/
theorem may_cut {c d : Cl} (h : mayC c = true) (hh : d.h.l = c.h.l) (hs : ∀ x ∈ d.l, x ∈ c.l) (hl : d.l.length ≤ c.l.length) : mayC d = true := by
  unfold mayC at h ⊢
  simp only [Bool.and_eq_true, decide_eq_true_eq, Bool.not_eq_true', List.any_eq_false] at h ⊢
  exact ⟨⟨by omega, by rw [hh]; exact h.1.2⟩, fun x hx => h.2 x (hs x hx)⟩
theorem held_cut {c d : Cl} (h : heldC c = true) (hh : d.h.l = c.h.l) (hs : ∀ x ∈ d.l, x ∈ c.l) (hp : litsOf false d.l = litsOf false c.l) : heldC d = true := by
  have hV : posV d.l = posV c.l := by unfold posV; rw [hp]
  unfold heldC at h ⊢
  rw [hV, hh]
  simp only [Bool.and_eq_true, List.all_eq_true] at h ⊢
  refine ⟨h.1, fun x hx => h.2 x ?_⟩
  have := List.mem_filter.1 hx
  exact List.mem_filter.2 ⟨hs x this.1, this.2⟩
theorem ats_cut {c d : Cl} (h1 : d.h.p = c.h.p) (hh : d.h.l = c.h.l) (hs : ∀ x ∈ d.l, x ∈ c.l) {a : Nat × Nat} (ha : a ∈ atsOf d) : a ∈ atsOf c := by
  unfold atsOf at ha ⊢
  rcases List.mem_cons.1 ha with rfl | ha
  · rw [h1, hh]; exact List.mem_cons_self ..
  · obtain ⟨x, hx, rfl⟩ := List.mem_map.1 ha
    exact List.mem_cons_of_mem _ (List.mem_map.2 ⟨x, hs x hx, rfl⟩)
theorem lits_cut {L : List Lt} {x : Lt} {n : Nat} (hn : L.length = n + 1) (hx : L[n]? = some x) (hno : x.no = true) : litsOf false (L.take n) = litsOf false L := by
  have h := litsOf_snoc (no := false) hx
  rw [hno] at h
  simp only [Bool.true_beq, if_false, Bool.false_eq_true] at h
  rw [← h, ← hn, List.take_length]
theorem res_cut {l less : List Cl} {c d : Cl} (h : Res l 0 0) (hc : c ∈ l) (hs : ∀ c ∈ less, c ∈ l) (hm : less.length + 1 ≤ l.length) (hp : d.h.p = c.h.p) (hh : d.h.l = c.h.l) (hd : ∀ x ∈ d.l, x ∈ c.l) (hdl : d.l.length ≤ c.l.length) (hpos : litsOf false d.l = litsOf false c.l) : Res (less ++ [d]) 0 0 := by
  obtain ⟨h1, _, h4⟩ := res_ok h
  obtain ⟨h2, h3⟩ := ok_all.1 h1
  refine res_right (by rw [List.length_append, List.length_singleton]; omega) (fun x hx => ?_) (h3.mono fun a ha => ?_)
  · rcases List.mem_append.1 hx with hx | hx
    · exact h2 x (hs x hx)
    · rw [List.mem_singleton.1 hx]
      exact ⟨may_cut (h2 c hc).1 hh hd hdl, held_cut (h2 c hc).2 hh hd hpos⟩
  · obtain ⟨x, hx, hax⟩ := atsL_mem.1 ha
    rcases List.mem_append.1 hx with hx | hx
    · exact atsL_mem.2 ⟨x, hs x hx, hax⟩
    · rw [List.mem_singleton.1 hx] at hax
      exact atsL_mem.2 ⟨c, hc, ats_cut hp hh hd hax⟩
end Go.Proofs.Ytndmjpceocecdaa.E
