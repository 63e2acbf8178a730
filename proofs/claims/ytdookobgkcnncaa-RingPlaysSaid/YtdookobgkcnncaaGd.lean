/- The ring of the program: List, walked. -/
import Derived.Test.YtdookobgkcnncaaGc
import Derived.Test.YtdookobgkcnncaaTvB
namespace Go.Proofs.Ytdookobgkcnncaa.E
open Go Go.RowKit Go.Proofs
attribute [local irreducible] TK TL TQ TA Fn PV
theorem perm_erase {α : Type} {l : List α} {j : Nat} {x : α} (h : l[j]? = some x) : l.Perm (x :: l.eraseIdx j) := by
  induction l generalizing j with
  | nil => simp at h
  | cons a l ih =>
    cases j with
    | zero => simp at h; subst h; exact .refl _
    | succ j =>
      simp only [List.getElem?_cons_succ] at h
      exact ((ih h).cons a).trans (.swap _ _ _)
theorem u32s_snoc (l : List Nat) (x : Nat) : u32s l ++ [.int .u32 (x : Int)] = u32s (l ++ [x]) := by simp [u32s]
set_option maxRecDepth 100000 in
set_option maxHeartbeats 1000000 in
theorem list_t (br mb : Nat) (es : List (Nat × Kv)) (Γ : List HP) (hes : es.length ≤ 1000000) :
    FnV Try.prog 15 [.pointer (some ⟨br, 0, none⟩)] (ringA br mb es Γ)
      fun v Γ' => ∃ A c l, v = .slice A l.length c ∧ l.Perm (es.map (·.1)) ∧ l.Pairwise (· ≤ ·) ∧ Γ' = ownU A c l :: ringA br mb es Γ := by
  refine Fn.enter Try.func15 rfl rfl rfl fun E => ?_
  refine TK.free (H := ownU none 0 []) (fun m hm => own_nil _ _ hm) ?_
  refine m_run ?_
  (apply TL.rangeMap 2 (kv := u32N) (vv := kvV); exact rfl; exact rfl; exact tb rfl; exact rfl; exact rfl)
  intro it
  refine m_run ?_
  apply TK.iter (fun j ρ' Γ' => ∃ (done : List Nat) (rem : List (Nat × Kv)) (last : Option (Nat × Kv)) (A : Option Addr) (c : Nat), rem.length = j ∧ (done ++ rem.map (·.1)).Perm (es.map (·.1)) ∧ done.length ≤ c ∧ lk ρ' 2 = .slice A done.length c ∧ lk ρ' 10 = .pointer (some ⟨it, 0, none⟩) ∧ Γ' = ownU A c done :: row br [.map (some mb)] 48 :: iterA u32N kvV mb it es rem last :: alls keyE es :: Γ) es.length
  · exact ⟨[], es, none, none, 0, rfl, by simp, Nat.le_refl _, rfl, rfl, rfl⟩
  rintro j IH ρ' _ ⟨done, rem, last, A, c, hj, hperm, hc, e2, e10, rfl⟩
  refine TK.know2 e2 e10 ?_
  have hlen := hperm.length_eq
  simp only [List.length_append, List.length_map] at hlen
  refine m_run ?_
  (apply TL.nextMap 2 (kv := u32N) (vv := kvV); exact rfl; exact rfl; exact rfl)
  · intro h0
    subst h0
    refine TL.iterEnd 2 rfl ?_
    refine m_run ?_
    (apply TL.callV; exact rfl; exact callB_of (by kernel_rfl); exact rfl; exact fun _ h => h)
    exact SU.sortN_t A c done _ (by omega)
    rintro _ _ ⟨rfl, D, hp, hs, rfl⟩
    have hDl : D.length = done.length := hp.length_eq
    refine m_run ?_
    (apply TK.ret1; exact rfl; exact rfl; (exact m_val))
    refine ⟨_, rfl, A, c, D, by rw [hDl], hp.trans (by simpa using hperm), hs, ?_⟩
    unfold ownU
    rw [hDl]
    rfl
  · intro q p hp
    refine m_run ?_
    (apply TL.pv; exact rfl; (apply PV.entryMap 2 (kv := u32N) (vv := kvV); exact rfl; exact rfl))
    refine m_run ?_
    (apply TL.buildSlice (l := [.int .u32 (p.1 : Int)]); exact rfl; exact tb rfl; exact rfl; exact tb rfl; exact rfl; exact rfl; exact rfl; exact rfl; exact rfl)
    intro b
    refine m_run ?_
    (apply TL.append 1; exact rfl; exact rfl; exact tb rfl; exact rfl; exact tb rfl; exact rfl; exact rfl; exact rfl)
    · exact fun _ h => h
    · exact rfl
    · exact has_src_row 0 rfl rfl
    · exact one_of rfl
    · show (done.length + 1) * 4 ≤ _; omega
    · show done.length + 1 ≤ maxLen; unfold maxLen; omega
    · exact fun _ => (rfl : _ = _ :: _ :: _)
    intro B k hk
    rw [u32s_snoc, show done.length + 1 = (done ++ [p.1]).length by simp] at *
    refine m_run ?_
    refine TK.drop ?_
    have hq := perm_erase hp
    have hql := hq.length_eq
    simp only [List.length_cons] at hql
    refine IH (rem.eraseIdx q).length _ _ (by omega) ⟨done ++ [p.1], rem.eraseIdx q, some p, B, k, rfl, ?_, hk, rfl, rfl, rfl⟩
    refine .trans ?_ hperm
    rw [List.append_assoc]
    exact .append_left _ (by simpa using (hq.map (·.1)).symm)
end Go.Proofs.Ytdookobgkcnncaa.E
