/- Steps, as they lie in memory; few, walked. -/
import Derived.Test.YtdookobgkcnncaaGe
namespace Go.Proofs.Ytdookobgkcnncaa.E
open Go Go.RowKit Go.Proofs
attribute [local irreducible] TK TL TQ TA Fn PV
theorem has_el {α : Type} {f : α → List Value} {sz : Nat} (hf : ∀ a, (f a).length = sz) (hz : 0 < sz) {Γ : List HP} {b o n : Nat} {l : List α} {i : Nat} {x : α} (h : has Γ (srcAt sz (some ⟨b, o, none⟩) n (l.flatMap f))) (hi : l[i]? = some x) : has Γ (fun m => cellsAt m b (o + i * sz) (f x)) := fun m hm j v hj => by
  obtain ⟨_, h2⟩ := h m hm
  have hjl : j < sz := by rw [← hf x]; exact (List.getElem?_eq_some_iff.1 hj).1
  have hd : (l.flatMap f).drop (i * sz) = f x ++ (l.drop (i + 1)).flatMap f := by
    rw [← flat_drop hf, List.drop_eq_getElem_cons (List.getElem?_eq_some_iff.1 hi).1, List.flatMap_cons]
    rw [show l[i]'(List.getElem?_eq_some_iff.1 hi).1 = x from (List.getElem?_eq_some_iff.1 hi).2]
  have hg : (l.flatMap f)[i * sz + j]? = some v := by
    rw [← List.getElem?_drop, hd, List.getElem?_append_left (by rw [hf]; exact hjl)]
    exact hj
  rcases h2 with h2 | ⟨b', o', e, h2⟩
  · rw [h2] at hg; simp at hg
  · injection e with e
    injection e with e1 e2 _
    subst e1; subst e2
    have := h2 _ _ hg
    rwa [Nat.add_assoc]
theorem has_cell {Γ : List HP} {b o : Nat} {vs : List Value} (h : has Γ (fun m => cellsAt m b o vs)) (j : Nat) {v : Value} (hv : vs[j]? = some v) : has Γ (fun m => cellAt m b (o + j) v) := has_imp h fun _ hm => hm j v hv
theorem src_some0 {sz n : Nat} {A : Option Addr} {l : List Value} {Γ : List HP} (h : has Γ (srcAt sz A n l)) (hl : 0 < l.length) : ∀ m, all Γ m → ∃ b o, A = some ⟨b, o, none⟩ := fun m hm => src_some (h m hm) hl
structure Stp where
  d : Bool
  w : Nat
  A : Option Addr
  c : Nat
  k : List UInt8
def Stp.cells (s : Stp) : List Value := [.bool s.d, .int .u32 (s.w : Int), .slice s.A s.k.length s.c]
/-- Steps that are handed in. -/
def stpsOk (A : Option Addr) (l : List Stp) (Γ : List HP) : Prop := has Γ (srcAt 3 A l.length (l.flatMap Stp.cells)) ∧ ∀ s ∈ l, has Γ (srcAt 1 s.A s.k.length (bytesV s.k))
theorem stps_tl {A : Option Addr} {l : List Stp} {Γ : List HP} {H : HP} (h : stpsOk A l Γ) : stpsOk A l (H :: Γ) := ⟨has_tls h.1, fun s hs => has_tls (h.2 s hs)⟩
theorem stps_len (l : List Stp) : (l.flatMap Stp.cells).length = l.length * 3 := flat_len (f := Stp.cells) (sz := 3) (fun _ => rfl) l
def fewB (l : List Stp) : Bool := decide (l.length ≤ 200) && l.all fun s => decide (s.k.length ≤ 300)
theorem few_all {l : List Stp} (h : fewB l = true) : l.length ≤ 200 ∧ ∀ s ∈ l, s.k.length ≤ 300 := by
  unfold fewB at h
  rw [Bool.and_eq_true, List.all_eq_true] at h
  exact ⟨of_decide_eq_true h.1, fun s hs => of_decide_eq_true (h.2 s hs)⟩
set_option maxRecDepth 100000 in
set_option maxHeartbeats 1000000 in
theorem few_t (A : Option Addr) (c : Nat) (l : List Stp) (Γ : List HP) (h : stpsOk A l Γ) : FnV Try.prog 6 [.slice A l.length c] Γ fun v Γ' => v = .bool (fewB l) ∧ Γ' = Γ := by
  refine Fn.enter Try.func6 rfl rfl rfl fun E => ?_
  by_cases hl : 200 < l.length
  · refine m_run ?_
    (apply TK.ret1; exact rfl; exact rfl; (exact m_val))
    exact ⟨_, rfl, congrArg Value.bool (by unfold fewB; rw [decide_eq_false (by omega)]; rfl), rfl⟩
  refine m_run ?_
  apply TK.iter (fun j ρ' Γ' => ∃ i : Nat, l.length = i + j ∧ (l.take i).all (fun s => decide (s.k.length ≤ 300)) = true ∧ lk ρ' 0 = .slice A l.length c ∧ lk ρ' 3 = .int .i64 (i : Int) ∧ Γ' = Γ) l.length
  · exact ⟨0, by omega, by simp, rfl, rfl, rfl⟩
  rintro j IH ρ' _ ⟨i, hj, hall, e0, e3, rfl⟩
  refine TK.know2 e0 e3 ?_
  by_cases hi : i < l.length
  · refine TK.mem fun m0 hm0 => ?_
    obtain ⟨b, o, rfl⟩ := src_some (h.1 m0 hm0) (by rw [stps_len]; omega)
    clear hm0 m0
    obtain ⟨s, hs⟩ : ∃ s, l[i]? = some s := ⟨l[i], by simp [hi]⟩
    have hc := has_cell (has_el (sz := 3) (f := Stp.cells) (fun _ => rfl) (by decide) h.1 hs) 2 rfl
    by_cases hk : 300 < s.k.length
    · refine m_run ?_
      (apply TK.ret1; exact rfl; exact rfl; (exact m_val))
      refine ⟨_, rfl, congrArg Value.bool ?_, rfl⟩
      symm
      rw [← Bool.not_eq_true]
      intro hf
      have := (few_all hf).2 s (List.mem_of_getElem? hs)
      omega
    · refine m_run ?_
      refine IH (j - 1) _ _ (by omega) ⟨i + 1, by omega, ?_, rfl, congrArg (Value.int .i64) (i64_succ i (by omega)), rfl⟩
      rw [List.take_add_one, hs, List.all_append, hall]
      simp; omega
  · refine m_run ?_
    (apply TK.ret1; exact rfl; exact rfl; (exact m_val))
    refine ⟨_, rfl, congrArg Value.bool ?_, rfl⟩
    rw [List.take_of_length_le (by omega)] at hall
    unfold fewB
    rw [hall, decide_eq_true (by omega)]; rfl
end Go.Proofs.Ytdookobgkcnncaa.E
