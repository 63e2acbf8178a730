/- The table of names: New, Put, Find, Name, Len, List, Of, as the program does. -/
import Derived.Test.YtoccilnobgoncaaY1
namespace Go.Proofs.Ytoccilnobgoncaa.E
open Go Go.RowKit Go.Proofs
attribute [local irreducible] TK TL TQ TA Fn PV
abbrev strV (l : List UInt8) : Value := .string (S l)
abbrev numV (n : Nat) : Value := .int .u32 (n : Int)
def strs (L : List (List UInt8)) : List Value := L.map strV
theorem strs_length (L : List (List UInt8)) : (strs L).length = L.length := by simp [strs]
theorem strs_one (L : List (List UInt8)) : ∀ u ∈ strs L, u.oneCell' = true := by
  intro u hu
  obtain ⟨x, _, rfl⟩ := List.mem_map.1 hu
  rfl
theorem strs_get {L : List (List UInt8)} {i : Nat} {k : List UInt8} (h : L[i]? = some k) : (strs L)[i]? = some (strV k) := by simp [strs, h]
theorem has_str {Γ : List HP} {b o n : Nat} {L : List (List UInt8)} (h : has Γ (srcAt 1 (some ⟨b, o, none⟩) n (strs L))) {i : Nat} {k : List UInt8} (hi : L[i]? = some k) : has Γ (fun m => cellAt m b (o + i) (strV k)) := fun m hm => by
  obtain ⟨_, h1 | ⟨b', o', e, h1⟩⟩ := h m hm
  · have := strs_get hi; rw [h1] at this; simp at this
  · injection e with e
    injection e with e1 e2 _
    subst e1; subst e2
    exact h1 i _ (strs_get hi)
/-- The entries of a table's map. -/
def ents (L : List (List UInt8)) : List (List UInt8 × Nat) := L.zipIdx
def findName (L : List (List UInt8)) (k : List UInt8) : Option Nat := lookE (ents L) k
theorem findName_aux (k : List UInt8) : ∀ (L : List (List UInt8)) (s : Nat), (∀ n, lookE (L.zipIdx s) k = some n → s ≤ n ∧ n < s + L.length ∧ L[n - s]? = some k ∧ ∀ m, m < n - s → L[m]? ≠ some k) ∧ (lookE (L.zipIdx s) k = none → k ∉ L)
  | [], s => by simp [lookE]
  | x :: L, s => by
    obtain ⟨h1, h2⟩ := findName_aux k L (s + 1)
    rw [List.zipIdx_cons]
    refine ⟨fun n hn => ?_, fun hn => ?_⟩
    · simp only [lookE] at hn
      split at hn
      · rename_i hk
        injection hn with hn
        subst hn
        refine ⟨Nat.le_refl _, by simp, by simp [hk], fun m hm => by omega⟩
      · rename_i hk
        obtain ⟨h3, h4, h5, h6⟩ := h1 n hn
        obtain ⟨q, rfl⟩ : ∃ q, n = s + 1 + q := ⟨n - (s + 1), by omega⟩
        refine ⟨by omega, by simp; omega, ?_, fun m hm => ?_⟩
        · rw [show s + 1 + q - s = q + 1 by omega, List.getElem?_cons_succ]
          rwa [show s + 1 + q - (s + 1) = q by omega] at h5
        · cases m with
          | zero => simp; exact fun h => hk h.symm
          | succ m => rw [List.getElem?_cons_succ]; exact h6 m (by omega)
    · simp only [lookE] at hn
      split at hn
      · cases hn
      · rename_i hk
        simp only [List.mem_cons, not_or]
        exact ⟨hk, h2 hn⟩
theorem findName_some {L : List (List UInt8)} {k : List UInt8} {n : Nat} (h : findName L k = some n) : n < L.length ∧ L[n]? = some k ∧ ∀ m, m < n → L[m]? ≠ some k := by
  obtain ⟨_, h2, h3, h4⟩ := (findName_aux k L 0).1 n h
  simp at h2 h3 h4
  exact ⟨h2, h3, h4⟩
theorem findName_none {L : List (List UInt8)} {k : List UInt8} (h : findName L k = none) : k ∉ L := (findName_aux k L 0).2 h
def putM (L : List (List UInt8)) (k : List UInt8) : Nat × Int × List (List UInt8) :=
  bif mayB k then (match findName L k with | some n => (n, 0, L) | none => if 4096 ≤ L.length then (0, 6, L) else (L.length, 0, L ++ [k])) else (0, 8, L)
abbrev tabCells (v : Value) (mb : Nat) : List Value := [v, .map (some mb)]
abbrev tabAt (bt mb : Nat) (v : Value) (L : List (List UInt8)) (Γ : List HP) : List HP := row bt (tabCells v mb) 100 :: own 9 1 v L.length (strs L) :: mapA strV numV mb (ents L) :: Γ
set_option maxRecDepth 100000 in
theorem new_tab (Γ : List HP) : FnV Try.prog 26 [] Γ fun v Γ' => ∃ bt mb, v = .pointer (some ⟨bt, 0, none⟩) ∧ Γ' = tabAt bt mb (.slice none 0 0) [] Γ := by
  refine Fn.enter Try.func26 rfl rfl rfl fun E => ?_
  refine m_run ?_
  (apply TL.makeMap strV numV; exact rfl)
  intro mb
  refine TL.free (H := own 9 1 (.slice none 0 0) 0 []) (fun m hm => own_nil _ _ hm) ?_
  (apply TL.build tabs; exact rfl; exact rfl; exact rfl; exact rfl; exact rfl; exact rfl; (exact m_lst))
  refine m_run ?_
  (apply TL.box; exact rfl; exact rfl; (exact m_lst))
  intro bt
  refine m_run ?_
  (apply TK.ret1; exact rfl; (exact m_val))
  exact ⟨_, rfl, bt, mb, rfl, rfl⟩
theorem len_tab (bt : Nat) (A : Option Addr) (n c : Nat) (Γ : List HP) (h : has Γ (fun m => cellAt m bt 0 (.slice A n c))) : FnV Try.prog 29 [.pointer (some ⟨bt, 0, none⟩)] Γ fun v Γ' => v = .int .i64 n ∧ Γ' = Γ := by
  refine Fn.enter Try.func29 rfl rfl rfl fun E => ?_
  refine m_run ?_
  (apply TK.ret1; exact rfl; (exact m_val))
  exact ⟨_, rfl, rfl, rfl⟩
theorem find_tab (bt mb : Nat) (L : List (List UInt8)) (k : List UInt8) (Γ : List HP) (h : has Γ (fun m => cellAt m bt 1 (.map (some mb)))) (hm : has Γ (mapAt strV numV mb (ents L))) : FnV Try.prog 30 [.pointer (some ⟨bt, 0, none⟩), strV k] Γ fun v Γ' => v = .tuple #[numV ((findName L k).getD 0), .bool (findName L k).isSome] ∧ Γ' = Γ := by
  refine Fn.enter Try.func30 rfl rfl rfl fun E => ?_
  cases hf : findName L k with
  | none =>
    refine m_run ?_
    (apply TL.pv; exact rfl; (apply PV.look2N (keyS (tb rfl : TabOk Try.prog 9 _).1); exact tb rfl; exact rfl; exact ⟨_, (tb rfl : TabOk Try.prog 9 _).1⟩; exact (tb rfl : TabOk Try.prog 28 _); exact rfl; exact rfl; exact hm; exact hf))
    refine m_run ?_
    (apply TK.ret2; exact rfl; (exact m_val); (exact m_val))
    exact ⟨_, rfl, rfl, rfl⟩
  | some n =>
    refine m_run ?_
    (apply TL.pv; exact rfl; (apply PV.look2S (keyS (tb rfl : TabOk Try.prog 9 _).1); exact tb rfl; exact rfl; exact ⟨_, (tb rfl : TabOk Try.prog 9 _).1⟩; exact (tb rfl : TabOk Try.prog 28 _); exact rfl; exact rfl; exact hm; exact hf))
    refine m_run ?_
    (apply TK.ret2; exact rfl; (exact m_val); (exact m_val))
    exact ⟨_, rfl, rfl, rfl⟩
end Go.Proofs.Ytoccilnobgoncaa.E
