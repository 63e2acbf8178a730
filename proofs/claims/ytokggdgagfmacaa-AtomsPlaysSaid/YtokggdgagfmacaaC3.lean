/- The order of facts: the plain law; Lift, walked. -/
import Derived.Test.YtokggdgagfmacaaC1
namespace Go.Proofs.Ytokggdgagfmacaa.E
open Go Go.RowKit Go.Proofs
theorem cmpI_anti (x y : Int) : cmpI y x = - cmpI x y := by unfold cmpI; split <;> split <;> omega
theorem cmpI_zero {x y : Int} : cmpI x y = 0 ↔ x = y := by unfold cmpI; split <;> (try split) <;> omega
theorem cmpI_range (x y : Int) : -1 ≤ cmpI x y ∧ cmpI x y ≤ 1 := by unfold cmpI; split <;> (try split) <;> omega
def Goes (a b e : Int) : Prop := (a ≤ 0 → b ≤ 0 → e ≤ 0 ∧ (e = 0 → a = 0 ∧ b = 0))
theorem cmpI_goes (x y z : Int) : Goes (cmpI x y) (cmpI y z) (cmpI x z) := by
  unfold Goes cmpI
  intro h1 h2
  split at h1 <;> split at h2 <;> (try split at h1) <;> (try split at h2) <;> split <;> (try split) <;> omega
theorem cmpLs_anti : ∀ l m : List Nat, cmpLs m l = - cmpLs l m
  | [], [] => rfl
  | [], _ :: _ => rfl
  | _ :: _, [] => rfl
  | x :: l, y :: m => by
    have h := cmpI_anti (x : Int) (y : Int)
    simp only [cmpLs]
    rw [h, cmpLs_anti l m]
    by_cases h0 : cmpI (x : Int) (y : Int) = 0
    · rw [h0]; rfl
    · rw [if_pos h0, if_pos (by omega)]
theorem cmpLs_zero : ∀ {l m : List Nat}, cmpLs l m = 0 ↔ l = m
  | [], [] => by simp [cmpLs]
  | [], _ :: _ => by simp [cmpLs]
  | _ :: _, [] => by simp [cmpLs]
  | x :: l, y :: m => by
    simp only [cmpLs]
    by_cases h0 : cmpI (x : Int) (y : Int) = 0
    · rw [if_neg (by simpa using h0), cmpLs_zero]
      have := cmpI_zero.1 h0
      constructor
      · rintro rfl; rw [show x = y by omega]
      · intro e; injection e
    · rw [if_pos h0]
      have : x ≠ y := fun e => h0 (cmpI_zero.2 (by rw [e]))
      simp [h0, this]
theorem cmpLs_range : ∀ l m : List Nat, -1 ≤ cmpLs l m ∧ cmpLs l m ≤ 1
  | [], [] => by simp [cmpLs]
  | [], _ :: _ => by simp [cmpLs]
  | _ :: _, [] => by simp [cmpLs]
  | x :: l, y :: m => by
    have h1 := cmpI_range (x : Int) (y : Int)
    have h2 := cmpLs_range l m
    simp only [cmpLs]
    split <;> assumption
theorem lex_goes {a b c u v w : Int} (h1 : Goes a b c) (hz : a = 0 → b = 0 → c = 0) (h2 : Goes u v w) : Goes (if a ≠ 0 then a else u) (if b ≠ 0 then b else v) (if c ≠ 0 then c else w) := by
  unfold Goes at *
  intro g1 g2
  have k1 : a ≤ 0 := by split at g1 <;> omega
  have k2 : b ≤ 0 := by split at g2 <;> omega
  have k3 := h1 k1 k2
  by_cases hc : c = 0
  · have k4 := k3.2 hc
    rw [if_neg (by omega)] at g1 g2 ⊢
    rw [if_neg (by omega), if_neg (by omega)]
    exact h2 g1 g2
  · rw [if_pos hc]
    exact ⟨k3.1, fun e => absurd e hc⟩
theorem cmpLs_goes : ∀ l m n : List Nat, Goes (cmpLs l m) (cmpLs m n) (cmpLs l n)
  | [], [], [] => by unfold Goes; simp [cmpLs]
  | [], [], _ :: _ => by unfold Goes; simp [cmpLs]
  | [], _ :: _, [] => by unfold Goes; simp [cmpLs]
  | [], _ :: _, _ :: _ => by unfold Goes; simp [cmpLs]
  | _ :: _, [], [] => by unfold Goes; simp [cmpLs]
  | _ :: _, [], _ :: _ => by unfold Goes; simp [cmpLs]
  | _ :: _, _ :: _, [] => by unfold Goes; simp [cmpLs]
  | x :: l, y :: m, z :: n => lex_goes (cmpI_goes (x : Int) (y : Int) (z : Int)) (fun a b => cmpI_zero.2 ((cmpI_zero.1 a).trans (cmpI_zero.1 b))) (cmpLs_goes l m n)
theorem orI_anti (a b c : Int) : orI (-a) (-b) (-c) = - orI a b c := by unfold orI; split <;> split <;> (try split) <;> (try split) <;> omega
theorem cmpF_anti (f g : Fct) : cmpF g f = - cmpF f g := by
  unfold cmpF
  rw [cmpI_anti f.p, cmpI_anti f.l.length, cmpLs_anti, orI_anti]
theorem cmpF_range (f g : Fct) : -1 ≤ cmpF f g ∧ cmpF f g ≤ 1 := by
  have h1 := cmpI_range f.p g.p
  have h2 := cmpI_range f.l.length g.l.length
  have h3 := cmpLs_range f.l g.l
  unfold cmpF orI
  split
  · exact h1
  · split
    · exact h2
    · exact h3
theorem cmpF_zero {f g : Fct} : cmpF f g = 0 ↔ f.p = g.p ∧ f.l = g.l := by
  unfold cmpF orI
  constructor
  · intro h
    split at h
    · rename_i h1; exact absurd h h1
    · rename_i h1
      split at h
      · rename_i h2; exact absurd h h2
      · have := cmpI_zero.1 (by simpa using h1 : cmpI (f.p : Int) (g.p : Int) = 0)
        exact ⟨by omega, cmpLs_zero.1 h⟩
  · rintro ⟨h1, h2⟩
    rw [h1, h2, if_neg (by rw [cmpI_zero.2 rfl]; simp), if_neg (by rw [cmpI_zero.2 rfl]; simp)]
    exact cmpLs_zero.2 rfl
theorem cmpF_goes (f g h : Fct) : Goes (cmpF f g) (cmpF g h) (cmpF f h) :=
  lex_goes (cmpI_goes f.p g.p h.p) (fun a b => cmpI_zero.2 ((cmpI_zero.1 a).trans (cmpI_zero.1 b)))
    (lex_goes (cmpI_goes f.l.length g.l.length h.l.length) (fun a b => cmpI_zero.2 ((cmpI_zero.1 a).trans (cmpI_zero.1 b))) (cmpLs_goes f.l g.l h.l))
/-! ### the atom that a fact is -/
def liftT (l : List Nat) : List Tm := l.map fun n => ⟨false, n⟩
theorem lift_len (l : List Nat) : (liftT l).length = l.length := List.length_map ..
theorem lift_ground (l : List Nat) : groundA (liftT l) = true := by simp [groundA, liftT]
theorem lift_vars (l : List Nat) : varsOf (liftT l) = [] := by simp [varsOf, liftT]
theorem lift_back (l : List Nat) : (liftT l).map (·.n) = l := by simp [liftT, Function.comp_def]
theorem lift_match (l m : List Nat) (h : l.length = m.length) : matL (liftT l) m = decide (l = m) := by
  have hok : ∀ i, i < l.length → matOk (liftT l) m i = decide (l[i]? = m[i]?) := fun i hi => by
    unfold matOk liftT
    rw [List.getElem?_map, List.getElem?_eq_getElem hi, List.getElem?_eq_getElem (by omega : i < m.length)]
    simp
  by_cases he : l = m
  · rw [decide_eq_true he]
    refine List.all_eq_true.2 fun i hi => ?_
    rw [hok i (by rw [← lift_len]; exact List.mem_range.1 hi), he]
    simp
  · rw [decide_eq_false he]
    have : ∃ i, i < l.length ∧ l[i]? ≠ m[i]? := by
      apply Classical.byContradiction
      intro hn
      refine he (List.ext_getElem? fun i => ?_)
      rcases Nat.lt_or_ge i l.length with hi | hi
      · apply Classical.byContradiction
        intro h2
        exact hn ⟨i, hi, h2⟩
      · rw [List.getElem?_eq_none hi, List.getElem?_eq_none (by omega)]
    obtain ⟨i, hi, hne⟩ := this
    exact List.all_eq_false.2 ⟨i, List.mem_range.2 (by rw [lift_len]; exact hi), by rw [hok i hi]; simpa using hne⟩
attribute [local irreducible] TK TL TQ TA Fn PV
set_option maxRecDepth 100000 in
set_option maxHeartbeats 1000000 in
theorem lift_t (f : Fct) (Γ : List HP) (h : f.ok Γ) (hn : f.l.length ≤ 1000000) :
    FnV Try.prog 54 [.agg f.cells.toArray] Γ fun v Γ' => ∃ B k, f.l.length ≤ k ∧ v = .agg (Atm.cells ⟨f.p, B, k, liftT f.l⟩).toArray ∧ Γ' = own 54 2 (.slice B f.l.length k) f.l.length (tmsC (liftT f.l)) :: Γ := by
  refine Fn.enter Try.func54 rfl rfl rfl fun E => ?_
  obtain ⟨p, A, c, l⟩ := f
  have hs0 : has Γ (srcAt 1 A l.length (u32s l)) := h.1
  replace hn : l.length ≤ 1000000 := hn
  refine m_run ?_
  (apply TL.box; exact rfl; exact rfl; (exact m_lst))
  intro b1
  refine TL.imp (Δ := row b1 [.int .u32 (p : Int), .slice A l.length c] 26 :: Γ) (fun _ h => h) ?_
  refine m_run ?_
  (apply TL.alloc; exact rfl; exact tb rfl; (exact m_lst))
  intro b2
  refine m_run ?_
  (apply TL.pv; exact rfl; (apply PV.build tabs; exact rfl; exact rfl; exact rfl; exact rfl; exact rfl; exact (rfl : _ = [Value.int .u32 (p : Int), .slice none 0 0])))
  (apply TL.alloc; exact rfl; exact tb rfl; (exact m_lst))
  intro b3
  refine m_run ?_
  refine TK.sub (Δ := row b3 [.int .u32 (p : Int), .slice none 0 0] 42 :: row b2 [.int .u32 0, .slice none 0 0] 42 :: Γ) (by (repeat (first | exact List.Sublist.refl _ | apply List.Sublist.cons_cons | apply List.Sublist.cons))) ?_
  refine TK.free (H := own 54 2 (.slice none 0 0) 0 []) (fun m h => own_nil _ _ h) ?_
  refine TK.perm (List.Perm.swap _ _ _) ?_
  apply TK.iter (fun j ρ' Γ' => ∃ (i : Nat) (B : Option Addr) (k : Nat), i + j = l.length ∧ i ≤ k ∧ lk ρ' 2 = .pointer (some ⟨b2, 0, none⟩) ∧ lk ρ' 3 = .pointer (some ⟨b3, 0, none⟩) ∧ lk ρ' 10 = .slice A l.length c ∧ lk ρ' 11 = .int .i64 (l.length : Int) ∧ lk ρ' 12 = .int .i64 (i : Int) ∧ Γ' = row b3 [.int .u32 (p : Int), .slice B i k] 42 :: own 54 2 (.slice B i k) i (tmsC (liftT (l.take i))) :: row b2 [.int .u32 0, .slice none 0 0] 42 :: Γ) l.length
  · exact ⟨0, none, 0, Nat.zero_add _, Nat.le_refl _, rfl, rfl, rfl, rfl, rfl, rfl⟩
  rintro j IH ρ' _ ⟨i, B, k, hij, hk, e2, e3, e10, e11, e12, rfl⟩
  refine TK.know5 e2 e3 e10 e11 e12 ?_
  by_cases hi : i < l.length
  · obtain ⟨x, hx⟩ : ∃ x, l[i]? = some x := ⟨l[i], List.getElem?_eq_getElem hi⟩
    have hsn : tmsC (liftT (l.take i)) ++ tmC ⟨false, x⟩ = tmsC (liftT (l.take (i + 1))) := by
      rw [List.take_add_one, hx]
      simp [liftT, tmsC]
    refine TK.mem fun m0 hm0 => ?_
    obtain ⟨b, o, rfl⟩ := src_some (has_tls (has_tls (has_tls hs0)) m0 hm0) (by rw [u32s_len]; omega)
    clear hm0 m0
    have hel := has_u32 hs0 hx
    refine m_run ?_
    (apply TL.pv; exact rfl; (apply PV.build tabs; exact rfl; exact rfl; exact rfl; exact rfl; exact rfl; exact (rfl : _ = tmC ⟨false, x⟩)))
    (apply TL.buildSlice (l := tmC ⟨false, x⟩); exact rfl; exact tb rfl; exact rfl; exact tb rfl; exact rfl; exact rfl; exact rfl; exact rfl; exact rfl)
    intro b20
    refine m_run ?_
    (apply TL.append 2; exact rfl; exact rfl; exact tb rfl; exact rfl; exact tb rfl; exact rfl; exact rfl; exact rfl)
    · exact fun _ h => h
    · exact rfl
    · exact has_src_row 0 rfl rfl
    · exact one_of rfl
    · show (i + 1) * 8 ≤ _; omega
    · show i + 1 ≤ maxLen; unfold maxLen; omega
    · exact fun _ => (rfl : _ = _ :: _ :: _ :: _)
    intro B' k' hk'
    rw [hsn]
    refine m_run ?_
    refine TK.sub (Δ := row b3 [.int .u32 (p : Int), .slice B' (i + 1) k'] 42 :: own 54 2 (.slice B' (i + 1) k') (i + 1) (tmsC (liftT (l.take (i + 1)))) :: row b2 [.int .u32 0, .slice none 0 0] 42 :: Γ) (by (repeat (first | exact List.Sublist.refl _ | apply List.Sublist.cons_cons | apply List.Sublist.cons))) ?_
    exact IH (j - 1) _ _ (by omega) ⟨i + 1, B', k', by omega, hk', rfl, rfl, rfl, rfl, congrArg (Value.int .i64) (i64_succ i (by omega)), rfl⟩
  obtain rfl : i = l.length := by omega
  rw [List.take_length]
  have hml := lift_len l
  refine m_run ?_
  refine TK.imp (Δ := row b3 [.int .u32 (p : Int), .slice B l.length k] 42 :: own 54 2 (.slice B l.length k) l.length (tmsC (liftT l)) :: row b2 (Atm.cells ⟨p, B, k, liftT l⟩) 42 :: Γ) (fun _ h => by unfold Atm.cells; simp only [hml]; exact h) ?_
  (apply TK.retRow (i := 2); exact rfl; exact rfl; exact rfl; exact rfl; exact tb rfl; exact rfl; (exact m_lst); exact rfl)
  · exact ⟨_, rfl, B, k, hk, rfl, rfl⟩
  · (repeat (first | exact List.Sublist.refl _ | apply List.Sublist.cons_cons | apply List.Sublist.cons))
end Go.Proofs.Ytokggdgagfmacaa.E
