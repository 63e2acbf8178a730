/- Rings, plainly: who has which key, as a list without repeats and as one that rises. -/
import Derived.Test.YtdookobgkcnncaaSz
namespace Go.Proofs.Ytdookobgkcnncaa.E
open Go Go.RowKit
/-- Who has which key. -/
abbrev Kys := List (Nat × List UInt8)
def noTwo {β : Type} (L : List (Nat × β)) : Prop := (L.map (·.1)).Nodup
def rises {β : Type} (L : List (Nat × β)) : Prop := (L.map (·.1)).Pairwise (· < ·)
theorem noTwo_rises {β : Type} {L : List (Nat × β)} (h : rises L) : noTwo L := h.imp fun h => Nat.ne_of_lt h
theorem lookE_mem {β : Type} {w : Nat} {v : β} : ∀ {L : List (Nat × β)}, noTwo L → (lookE L w = some v ↔ (w, v) ∈ L)
  | [], _ => by simp [lookE]
  | p :: L, h => by
    simp only [noTwo, List.map_cons, List.nodup_cons] at h
    simp only [lookE]
    by_cases hw : w = p.1
    · rw [if_pos hw]
      subst hw
      constructor
      · intro e; injection e with e; subst e; exact List.mem_cons_self ..
      · intro e
        rcases List.mem_cons.1 e with e | e
        · rw [← e]
        · exact absurd (List.mem_map.2 ⟨_, e, rfl⟩) h.1
    · rw [if_neg hw, lookE_mem h.2]
      constructor
      · exact fun e => List.mem_cons_of_mem _ e
      · intro e
        rcases List.mem_cons.1 e with e | e
        · exact absurd (by rw [← e]) hw
        · exact e
theorem lookE_none {β : Type} {w : Nat} : ∀ {L : List (Nat × β)}, lookE L w = none ↔ w ∉ L.map (·.1)
  | [] => by simp [lookE]
  | p :: L => by
    simp only [lookE, List.map_cons, List.mem_cons, not_or]
    by_cases hw : w = p.1
    · simp [hw]
    · rw [if_neg hw, lookE_none]; exact ⟨fun h => ⟨hw, h⟩, fun h => h.2⟩
theorem lookE_perm {β : Type} {w : Nat} {L M : List (Nat × β)} (h : L.Perm M) (hn : noTwo L) : lookE L w = lookE M w := by
  have hm : noTwo M := (h.map _).nodup_iff.1 hn
  cases hl : lookE L w with
  | some v => exact ((lookE_mem hm).2 (h.mem_iff.1 ((lookE_mem hn).1 hl))).symm
  | none =>
    have := lookE_none.1 hl
    exact (lookE_none.2 fun hx => this ((h.map _).mem_iff.2 hx)).symm
theorem lookE_map {β γ : Type} (f : β → γ) {w : Nat} : ∀ {L : List (Nat × β)}, lookE (L.map fun p => (p.1, f p.2)) w = (lookE L w).map f
  | [] => rfl
  | p :: L => by
    simp only [List.map_cons, lookE]
    by_cases hw : w = p.1
    · rw [if_pos hw, if_pos hw]; rfl
    · rw [if_neg hw, if_neg hw, lookE_map f]
theorem dropE_map {β γ : Type} (f : β → γ) {w : Nat} : ∀ {L : List (Nat × β)}, dropE (L.map fun p => (p.1, f p.2)) w = (dropE L w).map fun p => (p.1, f p.2)
  | [] => rfl
  | p :: L => by
    simp only [List.map_cons, dropE]
    by_cases hw : w = p.1
    · rw [if_pos hw, if_pos hw]
    · rw [if_neg hw, if_neg hw, List.map_cons, dropE_map f]
theorem dropE_sub {β : Type} {w : Nat} : ∀ (L : List (Nat × β)), (dropE L w).Sublist L
  | [] => .slnil
  | p :: L => by
    simp only [dropE]
    split
    · exact List.sublist_cons_self ..
    · exact (dropE_sub L).cons_cons _
theorem dropE_filter {β : Type} {w : Nat} : ∀ {L : List (Nat × β)}, noTwo L → dropE L w = L.filter (fun p => !decide (w = p.1))
  | [], _ => rfl
  | p :: L, h => by
    simp only [noTwo, List.map_cons, List.nodup_cons] at h
    simp only [dropE, List.filter_cons]
    by_cases hw : w = p.1
    · subst hw
      have : L.filter (fun q => !decide (p.1 = q.1)) = L := List.filter_eq_self.2 fun q hq => by
        have : p.1 ≠ q.1 := fun e => h.1 (e ▸ List.mem_map.2 ⟨q, hq, rfl⟩)
        simpa using this
      simp [this]
    · simp only [hw, if_false, decide_false, Bool.not_false, if_true]
      rw [dropE_filter h.2]
theorem dropE_perm {β : Type} {w : Nat} {L M : List (Nat × β)} (h : L.Perm M) (hn : noTwo L) : (dropE L w).Perm (dropE M w) := by
  rw [dropE_filter hn, dropE_filter ((h.map _).nodup_iff.1 hn)]
  exact h.filter _
theorem noTwo_drop {β : Type} {w : Nat} {L : List (Nat × β)} (h : noTwo L) : noTwo (dropE L w) := ((dropE_sub L).map _).nodup h
theorem rises_drop {β : Type} {w : Nat} {L : List (Nat × β)} (h : rises L) : rises (dropE L w) := h.sublist ((dropE_sub L).map _)
theorem noTwo_put {β : Type} {w : Nat} {v : β} {L : List (Nat × β)} (h : noTwo L) (hw : lookE L w = none) : noTwo (L ++ [(w, v)]) := by
  unfold noTwo
  rw [List.map_append]
  refine List.nodup_append.2 ⟨h, by simp, ?_⟩
  intro a ha b hb e
  simp at hb
  exact lookE_none.1 hw (by rw [← hb, ← e]; exact ha)
/-- Laid in at a place behind all that are less. -/
theorem rises_put {β : Type} {w : Nat} {v : β} {L : List (Nat × β)} {at_ : Nat} (h : rises L) (hw : lookE L w = none) (hat0 : at_ ≤ L.length) (h1 : ∀ p ∈ L.drop at_, w < p.1) (h2 : ∀ p, 0 < at_ → L[at_ - 1]? = some p → p.1 ≤ w) : rises (L.take at_ ++ (w, v) :: L.drop at_) := by
  have hw' := lookE_none.1 hw
  have hlt : ∀ p ∈ L.take at_, p.1 < w := by
    intro p hp
    obtain ⟨i, hi, hpi⟩ := List.mem_take_iff_getElem.1 hp
    have hi1 : i < at_ := by omega
    have hiL : i < L.length := by omega
    have hne : p.1 ≠ w := fun e => hw' (e ▸ List.mem_map.2 ⟨p, List.mem_of_mem_take hp, rfl⟩)
    have hle : p.1 ≤ w := by
      have hat : at_ - 1 < L.length := by omega
      have h3 := h2 L[at_ - 1] (by omega) (by simp [hat])
      by_cases he : i = at_ - 1
      · subst he; rw [← hpi]; exact h3
      · have h4 := List.pairwise_iff_getElem.1 h i (at_ - 1) (by simpa using hiL) (by simpa using hat) (by omega)
        simp only [List.getElem_map] at h4
        rw [← hpi]; omega
    omega
  unfold rises
  rw [List.map_append, List.map_cons]
  refine List.pairwise_append.2 ⟨h.sublist ((List.take_sublist _ _).map _), List.pairwise_cons.2 ⟨?_, h.sublist ((List.drop_sublist _ _).map _)⟩, ?_⟩
  · intro x hx
    obtain ⟨p, hp, rfl⟩ := List.mem_map.1 hx
    exact h1 p hp
  · intro x hx y hy
    obtain ⟨p, hp, rfl⟩ := List.mem_map.1 hx
    have h5 := hlt p hp
    rcases List.mem_cons.1 hy with rfl | hy
    · exact h5
    · obtain ⟨q, hq, rfl⟩ := List.mem_map.1 hy
      have := h1 q hq
      omega
theorem perm_put {β : Type} {w : Nat} {v : β} {L M : List (Nat × β)} (at_ : Nat) (h : M.Perm L) : (M ++ [(w, v)]).Perm (L.take at_ ++ (w, v) :: L.drop at_) := by
  have h1 : (L.take at_ ++ (w, v) :: L.drop at_).Perm ((w, v) :: L) := by
    have := List.perm_middle (a := (w, v)) (l₁ := L.take at_) (l₂ := L.drop at_)
    rwa [List.take_append_drop] at this
  exact ((List.perm_append_comm).trans (h.cons (w, v))).trans h1.symm
/-- What Put answers. -/
def putE (n : Nat) (has : Bool) (len : Nat) : Int := if len < 1 ∨ 64 < len then 1 else if has then 13 else if 32 ≤ n then 7 else 0
theorem sorted_same {l m : List Nat} (h : l.Perm m) (h1 : l.Pairwise (· ≤ ·)) (h2 : m.Pairwise (· < ·)) : l = m :=
  h.eq_of_pairwise (le := (· ≤ ·)) (fun a b _ _ h h' => Nat.le_antisymm h h') h1 (h2.imp fun h => Nat.le_of_lt h)
end Go.Proofs.Ytdookobgkcnncaa.E
