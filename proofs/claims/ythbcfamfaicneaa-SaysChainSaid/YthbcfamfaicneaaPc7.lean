/- My own texts, one behind the other: Nk Nl. -/
import Derived.Test.YthbcfamfaicneaaPc6
/- A chain of delegations: plainly. -/
namespace Go.Proofs.Ythbcfamfaicneaa.E
open Go Go.RowKit
/-- The one who says it himself. -/
def wordC (n : Nat) (A : Option Addr) : Cr := ⟨n, 1, 0, 9, 1, ⟨⟨false, ⟨false, 0⟩, ⟨7, A, 1, [⟨false, 50⟩]⟩⟩, none, 0, []⟩, 0, 0, 0, 0⟩
/-- One who hands it on. -/
def handC (i d : Nat) : Cr := ⟨i, 1, 0, 9, 2, ⟨⟨false, ⟨false, 0⟩, ⟨0, none, 0, []⟩⟩, none, 0, []⟩, 7, 1, i + 1, (d : Int)⟩
def dpth (ds : List Nat) (q : Nat) : Nat := ds.getD q 0 % 4
def chainC (ds : List Nat) (A : Option Addr) (i : Nat) : List Cr := wordC ds.length A :: (List.range i).map fun q => handC q (dpth ds q)
/-- Does a chain of so many, from the i-th on, come through with a depth? -/
def comes (ds : List Nat) : Nat → Nat → Nat → Bool
  | 0, _, _ => true
  | m + 1, i, k => decide (1 ≤ k) && comes ds m (i + 1) (min (k - 1) (dpth ds i))
theorem word_may (n : Nat) (A : Option Addr) : mayCr (wordC n A) = true := rfl
theorem word_rule (n : Nat) (A : Option Addr) : ruleB (wordC n A) = true := rfl
theorem hand_give {i d : Nat} (h : d ≤ 3) : giveB (handC i d) = true := by
  have : giveB (handC i d) = (decide ((0 : Int) ≤ (d : Int)) && decide ((d : Int) ≤ 3)) := rfl
  rw [this, Bool.and_eq_true, decide_eq_true_iff, decide_eq_true_iff]
  omega
theorem hand_may {i d : Nat} (h : d ≤ 3) : mayCr (handC i d) = true := by
  have : mayCr (handC i d) = giveB (handC i d) := rfl
  rw [this]; exact hand_give h
theorem dpth_le (ds : List Nat) (q : Nat) : dpth ds q ≤ 3 := by unfold dpth; omega
theorem word_one (n k : Nat) (A : Option Addr) (hk : k ≤ 3) : OneIs (wordC n A) k (457 + k, [⟨false, n⟩, ⟨false, 50⟩], []) :=
  .rule (x := wordC n A) (k := k) rfl (word_rule n A) (by show 7 < _; decide) (by show 1 < 6; decide) hk (fun y hy => by cases hy)
theorem hand_one (i d k : Nat) (hd : d ≤ 3) (h1 : 1 ≤ k) (hk : k ≤ 3) : OneIs (handC i d) k (457 + k, [⟨false, i⟩, ⟨true, 0⟩], [(false, 457 + min (k - 1) d, [⟨false, i + 1⟩, ⟨true, 0⟩])]) :=
  .give (x := handC i d) (k := k) 1 (min (k - 1) d) rfl (hand_give hd) rfl (by decide) (by show 7 < _; decide) h1 hk (by show _ = min ((k : Int) - 1) (d : Int); omega)
theorem comes_said {ds : List Nat} {A : Option Addr} : ∀ (m i k : Nat), i + m = ds.length → k ≤ 3 → comes ds m i k = true → Said (credsC (chainC ds A ds.length)) (457 + k, [i, 50])
  | 0, i, k, hi, hk, _ => by
    obtain rfl : i = ds.length := by omega
    exact said_step (l := chainC ds A ds.length) (List.mem_cons_self ..) (word_may _ _) (by omega) (word_one ds.length k A hk) (fun _ => 0) fun y hy => by cases hy
  | m + 1, i, k, hi, hk, h => by
    unfold comes at h
    rw [Bool.and_eq_true, decide_eq_true_iff] at h
    have ih := comes_said (A := A) m (i + 1) (min (k - 1) (dpth ds i)) (by omega) (by omega) h.2
    refine said_step (l := chainC ds A ds.length) (List.mem_cons_of_mem _ (List.mem_map.2 ⟨i, List.mem_range.2 (by omega), rfl⟩)) (hand_may (dpth_le _ _)) (by omega) (hand_one i (dpth ds i) k (dpth_le _ _) h.1 hk) (fun _ => 50) fun y hy => ?_
    rw [List.mem_singleton.1 hy]
    exact ih
theorem said_comes {ds : List Nat} {A : Option Addr} {x : PF} (h : Said (credsC (chainC ds A ds.length)) x) : ∃ m i k, i + m = ds.length ∧ k ≤ 3 ∧ x = (457 + k, [i, 50]) ∧ comes ds m i k = true := by
  induction h with
  | base h => exact h.elim
  | step σ hc hpos _ ih =>
    obtain ⟨c, hcl, hm, k, hk4, h1⟩ := creds_iff.1 hc
    rcases List.mem_cons.1 hcl with rfl | hcl
    · have h2 := (oneIs_eq hm hk4 h1).1
      have h3 := (oneIs_eq hm hk4 (word_one ds.length k A (by omega))).1
      rw [h2, ← h3]
      exact ⟨0, ds.length, k, rfl, by omega, rfl, rfl⟩
    · obtain ⟨i, hi, rfl⟩ := List.mem_map.1 hcl
      have hi' := List.mem_range.1 hi
      have hk1 : 1 ≤ k := by
        cases h1 with
        | rule hkd => cases hkd
        | give n d hkd hg hn h6 hp hk1 => exact hk1
      have h2 := (oneIs_eq hm hk4 h1).1
      have h3 := (oneIs_eq hm hk4 (hand_one i (dpth ds i) k (dpth_le _ _) hk1 (by omega))).1
      have h4 := h2.trans h3.symm
      subst h4
      obtain ⟨m, i', k', hm', hk', he, hcm⟩ := ih _ (List.mem_singleton.2 rfl) rfl
      have he1 : 457 + min (k - 1) (dpth ds i) = 457 + k' := congrArg (·.1) he
      have he2 : [i + 1, σ 0] = [i', 50] := congrArg (·.2) he
      injection he2 with e1 e2
      injection e2 with e2 _
      subst e1
      obtain rfl : k' = min (k - 1) (dpth ds i) := by omega
      refine ⟨m + 1, i, k, by omega, by omega, ?_, ?_⟩
      · show (457 + k, [i, σ 0]) = _
        rw [e2]
      · unfold comes
        rw [decide_eq_true hk1, hcm]; rfl
theorem said_iff (ds : List Nat) (A : Option Addr) : Said (credsC (chainC ds A ds.length)) (460, [0, 50]) ↔ comes ds ds.length 0 3 = true := by
  constructor
  · intro h
    obtain ⟨m, i, k, h1, h2, h3, h4⟩ := said_comes h
    have e1 : 460 = 457 + k := congrArg (·.1) h3
    have e2 : [0, 50] = [i, 50] := congrArg (·.2) h3
    injection e2 with e2 _
    subst e2
    obtain rfl : k = 3 := by omega
    obtain rfl : m = ds.length := by omega
    exact h4
  · exact comes_said ds.length 0 3 (Nat.zero_add _) (Nat.le_refl _)
/-- They are few. -/
def allF : List PF := (List.range 4).flatMap fun k => (List.range 6).map fun i => (457 + k, [i, 50])
theorem said_few {ds : List Nat} {A : Option Addr} (hn : ds.length ≤ 5) {M : List PF} (hS : Srt M) (h : ∀ x ∈ M, Said (credsC (chainC ds A ds.length)) x) : M.length ≤ 24 := by
  have h1 := len_sub (M := allF) hS.nodup fun x hx => by
    obtain ⟨m, i, k, h1, h2, rfl, _⟩ := said_comes (h x hx)
    exact List.mem_flatMap.2 ⟨k, List.mem_range.2 (by omega), List.mem_map.2 ⟨i, List.mem_range.2 (by omega), rfl⟩⟩
  exact h1
/-- Step by step, as the law tells it. -/
def stepJ (ds : List Nat) (i : Nat) (b : Bool) (left : Int) : Prop := -10 ≤ left + i ∧ left ≤ 3 ∧ (b = true → ∃ k : Nat, left = (k : Int) ∧ comes ds ds.length 0 3 = comes ds (ds.length - i) i k) ∧ (b = false → comes ds ds.length 0 3 = false)
theorem stepJ_0 (ds : List Nat) : stepJ ds 0 true 3 := ⟨by omega, by omega, fun _ => ⟨3, rfl, rfl⟩, fun h => by cases h⟩
theorem stepJ_next {ds : List Nat} {i : Nat} {b : Bool} {left : Int} (hi : i < ds.length) (h : stepJ ds i b left) : stepJ ds (i + 1) (b && decide (0 < left)) (min (left - 1) (dpth ds i : Int)) := by
  obtain ⟨h0, h1, h2, h3⟩ := h
  have hd := dpth_le ds i
  refine ⟨by omega, by omega, fun hb => ?_, fun hb => ?_⟩
  · rw [Bool.and_eq_true, decide_eq_true_iff] at hb
    obtain ⟨k, hk, he⟩ := h2 hb.1
    refine ⟨min (k - 1) (dpth ds i), by omega, ?_⟩
    rw [he, show ds.length - i = (ds.length - (i + 1)) + 1 by omega, comes, decide_eq_true (by omega : 1 ≤ k)]
    rfl
  · cases b with
    | false => exact h3 rfl
    | true =>
      obtain ⟨k, hk, he⟩ := h2 rfl
      have : ¬ 0 < left := by simpa using hb
      obtain rfl : k = 0 := by omega
      rw [he, show ds.length - i = (ds.length - (i + 1)) + 1 by omega, comes]
      rfl
theorem stepJ_end {ds : List Nat} {b : Bool} {left : Int} (h : stepJ ds ds.length b left) : comes ds ds.length 0 3 = b := by
  obtain ⟨_, _, h2, h3⟩ := h
  cases b with
  | false => exact h3 rfl
  | true =>
    obtain ⟨k, _, he⟩ := h2 rfl
    rw [he, Nat.sub_self]; rfl
end Go.Proofs.Ythbcfamfaicneaa.E

/- A chain of delegations: walked. -/
namespace Go.Proofs.Ythbcfamfaicneaa.E
open Go Go.RowKit Go.Proofs
attribute [local irreducible] TK TL TQ TA TB Fn PV
abbrev u8s (l : List Nat) : List Value := l.map fun n : Nat => Value.int .u8 (n : Int)
theorem u8s_len (l : List Nat) : (u8s l).length = l.length := List.length_map ..
theorem has_u8 {Γ : List HP} {b o n i x : Nat} {l : List Nat} (h : has Γ (srcAt 1 (some ⟨b, o, none⟩) n (u8s l))) (hi : l[i]? = some x) : has Γ (fun m => cellAt m b (o + i) (.int .u8 (x : Int))) := fun m hm => by
  rcases (h m hm).2 with h | ⟨b', o', e, h⟩
  · have : l = [] := by simpa using h
    subst this; simp at hi
  · injection e with e; injection e with e1 e2 _
    subst e1; subst e2
    exact h i _ (by simp [hi])
set_option maxRecDepth 100000 in
set_option maxHeartbeats 16000000 in
theorem saysChain_t (A : Option Addr) (cc : Nat) (ds : List Nat) (Γ0 : List HP) (hs0 : has Γ0 (srcAt 1 A ds.length (u8s ds))) (h255 : ∀ d ∈ ds, d ≤ 255) :
    FnV Try.prog 4 [.slice A ds.length cc] Γ0 fun v Γ' => v = .bool true ∧ Γ' = Γ0 := by
  refine Fn.enter Try.func4 rfl rfl rfl fun E => ?_
  refine m_run ?_
  by_cases h5 : ds.length ≤ 5
  rotate_left
  · refine m_run ?_
    (apply TL.callV; exact rfl; exact callB_of (by kernel_rfl); exact rfl; exact fun _ h => h)
    exact works21_t _
    rintro _ Γ1 ⟨rfl, hs1⟩
    refine m_run ?_
    (apply TK.retS1; exact rfl; exact rfl; (exact m_val))
    exact ⟨_, rfl, rfl, rfl⟩
    exact hs1
  refine m_run ?_
  refine TL.know (t := 20) (v := .int .u32 (ds.length : Int)) (congrArg (Value.int .u32) (u32_in (by omega) (by omega))) ?_
  (apply TL.pv; exact rfl; (apply PV.build tabs; exact rfl; exact rfl; exact rfl; exact rfl; exact rfl; exact (rfl : _ = tmC ⟨false, 50⟩)))
  (apply TL.buildSlice (l := tmsC [⟨false, 50⟩]); exact rfl; exact tb rfl; exact rfl; exact tb rfl; exact rfl; exact rfl; exact rfl; exact rfl; exact rfl)
  intro b22
  (apply TL.pv; exact rfl; (apply PV.build tabs; exact rfl; exact rfl; exact rfl; exact rfl; exact rfl; exact (rfl : _ = Atm.cells ⟨7, some ⟨b22, 0, none⟩, 1, [⟨false, 50⟩]⟩)))
  (apply TL.pv; exact rfl; (apply PV.build tabs; exact rfl; exact rfl; exact rfl; exact rfl; exact rfl; exact (rfl : _ = Sy.cells ⟨false, ⟨false, 0⟩, ⟨7, some ⟨b22, 0, none⟩, 1, [⟨false, 50⟩]⟩⟩)))
  (apply TL.pv; exact rfl; (apply PV.build tabs; exact rfl; exact rfl; exact rfl; exact rfl; exact rfl; exact (rfl : _ = Rl.cells ⟨⟨false, ⟨false, 0⟩, ⟨7, some ⟨b22, 0, none⟩, 1, [⟨false, 50⟩]⟩⟩, none, 0, []⟩)))
  (apply TL.pv; exact rfl; (apply PV.build tabs; exact rfl; exact rfl; exact rfl; exact rfl; exact rfl; exact (rfl : _ = (wordC ds.length (some ⟨b22, 0, none⟩)).cells)))
  (apply TL.buildSlice (l := crsC [wordC ds.length (some ⟨b22, 0, none⟩)]); exact rfl; exact tb rfl; exact rfl; exact tb rfl; exact rfl; exact rfl; exact rfl; exact rfl; exact rfl)
  intro b27
  refine m_run ?_
  refine TK.imp (Δ := own 48 15 (.slice (some ⟨b27, 0, none⟩) 1 1) 1 (crsC (chainC ds (some ⟨b22, 0, none⟩) 0)) :: row b22 (tmsC [⟨false, 50⟩]) 38 :: Γ0) (fun m hm => sep_mono hm (fun _ h => own_row rfl (by decide) h) (fun _ => id)) ?_
  apply TK.iter (fun j ρ' Γ' => ∃ (i : Nat) (B : Option Addr) (k : Nat) (b : Bool) (left : Int) (Γ1 : List HP), i + j = ds.length ∧ (row b22 (tmsC [⟨false, 50⟩]) 38 :: Γ0).Sublist Γ1 ∧ i + 1 ≤ k ∧ stepJ ds i b left ∧ lk ρ' 0 = .slice A ds.length cc ∧ lk ρ' 3 = .int .i64 (ds.length : Int) ∧ lk ρ' 4 = .slice B (i + 1) k ∧ lk ρ' 5 = .int .i64 left ∧ lk ρ' 6 = .bool b ∧ lk ρ' 7 = .int .i64 (i : Int) ∧ Γ' = own 48 15 (.slice B (i + 1) k) (i + 1) (crsC (chainC ds (some ⟨b22, 0, none⟩) i)) :: Γ1) ds.length
  · exact ⟨0, _, 1, true, 3, _, Nat.zero_add _, .refl _, Nat.le_refl _, stepJ_0 ds, rfl, rfl, rfl, rfl, rfl, rfl, rfl⟩
  rintro j IH ρ' _ ⟨i, B, k, b, left, Γ1, hij, hS1, hk, hJ, e0, e3, e4, e5, e6, e7, rfl⟩
  refine TK.know6 e0 e3 e4 e5 e6 e7 ?_
  obtain ⟨hJ0, hJ1, _, _⟩ := id hJ
  by_cases hi : i < ds.length
  · obtain ⟨d, hd⟩ : ∃ d, ds[i]? = some d := ⟨ds[i], List.getElem?_eq_getElem hi⟩
    have hd255 := h255 d (List.mem_of_getElem? hd)
    have hdp : dpth ds i = d % 4 := by unfold dpth; rw [List.getD_eq_getElem?_getD, hd]; rfl
    have hs1 := has_sublist (up_src _ _ _ _) hS1 (has_tls hs0)
    have hcs : crsC (chainC ds (some ⟨b22, 0, none⟩) i) ++ crsC [handC i (d % 4)] = crsC (chainC ds (some ⟨b22, 0, none⟩) (i + 1)) := by
      unfold chainC
      rw [List.range_succ, ← hdp]
      simp
    refine TK.mem fun m0 hm0 => ?_
    obtain ⟨g, u, hg⟩ := src_some ((has_tls hs1 : has (_ :: Γ1) _) m0 hm0) (by rw [u8s_len]; omega)
    clear hm0 m0
    subst hg
    have hcd := has_u8 hs1 hd
    refine m_run ?_
    refine TL.know (t := 37) (v := .int .i64 ((d : Nat) : Int)) (congrArg (Value.int .i64) (i64_in (by omega) (by omega))) ?_
    refine m_run ?_
    refine TL.know (t := 41) (v := .int .u32 (i : Int)) (congrArg (Value.int .u32) (u32_in (by omega) (by omega))) ?_
    refine m_run ?_
    refine TL.know (t := 44) (v := .int .u32 ((i + 1 : Nat) : Int)) (congrArg (Value.int .u32) (by rw [i64_succ i (by omega), u32_in (by omega) (by omega)])) ?_
    have htm : (IntKind.i64.wrap (d : Int)).tmod 4 = ((d % 4 : Nat) : Int) := by rw [i64_in (by omega) (by omega)]; rfl
    refine TL.know (t := 45) (v := .int .i64 ((d % 4 : Nat) : Int)) (congrArg (Value.int .i64) htm) ?_
    refine TL.know (t := 8) (v := .int .i64 ((d % 4 : Nat) : Int)) (congrArg (Value.int .i64) htm) ?_
    (apply TL.pv; exact rfl; (apply PV.build tabs; exact rfl; exact rfl; exact rfl; exact rfl; exact rfl; exact (rfl : _ = (handC i (d % 4)).cells)))
    (apply TL.buildSlice (l := crsC [handC i (d % 4)]); exact rfl; exact tb rfl; exact rfl; exact tb rfl; exact rfl; exact rfl; exact rfl; exact rfl; exact rfl)
    intro b47
    refine m_run ?_
    (apply TL.append 1 (n := i + 1) (m := 1) (cs := crsC (chainC ds (some ⟨b22, 0, none⟩) i)) (news := crsC [handC i (d % 4)]); exact rfl; exact rfl; exact tb rfl; exact rfl; exact tb rfl; exact rfl; exact rfl; exact rfl)
    · exact fun _ h => h
    · exact rfl
    · exact has_src_row 0 rfl rfl
    · exact crs_one _
    · show (i + 1 + 1) * 144 ≤ _; omega
    · show i + 1 + 1 ≤ maxLen; unfold maxLen; omega
    · exact fun _ => (rfl : _ = _ :: _ :: _)
    intro B2 k2 hk2
    rw [hcs]
    have hJn := stepJ_next hi hJ
    rw [hdp] at hJn
    have hmin : (if ((d % 4 : Nat) : Int) < IntKind.i64.wrap (left - 1) then ((d % 4 : Nat) : Int) else IntKind.i64.wrap (left - 1)) = min (left - 1) ((d % 4 : Nat) : Int) := by
      rw [i64_in (by omega) (by omega)]
      split <;> omega
    refine m_run ?_
    refine TL.cut (I := fun ρ' Γ' => lk ρ' 0 = .slice (some ⟨g, u, none⟩) ds.length cc ∧ lk ρ' 3 = .int .i64 (ds.length : Int) ∧ lk ρ' 4 = .slice B2 (i + 1 + 1) k2 ∧ lk ρ' 5 = .int .i64 left ∧ lk ρ' 6 = .bool (b && decide (0 < left)) ∧ lk ρ' 7 = .int .i64 (i : Int) ∧ lk ρ' 8 = .int .i64 ((d % 4 : Nat) : Int) ∧ Γ' = row b47 (crsC [handC i (d % 4)]) 48 :: own 48 15 (.slice B2 (i + 1 + 1) k2) (i + 1 + 1) (crsC (chainC ds (some ⟨b22, 0, none⟩) (i + 1))) :: Γ1) ?_ ?_
    · intro k' hk'
      cases b with
      | false =>
        refine m_run ?_
        exact hk' _ _ ⟨rfl, rfl, rfl, rfl, rfl, rfl, rfl, rfl⟩
      | true =>
        refine m_run ?_
        exact hk' _ _ ⟨rfl, rfl, rfl, rfl, rfl, rfl, rfl, rfl⟩
    rintro ρ2 _ ⟨e0, e3, e4, e5, e6, e7, e8, rfl⟩
    refine TK.know7 e0 e3 e4 e5 e6 e7 e8 ?_
    refine m_run ?_
    refine TK.perm (Δ := own 48 15 (.slice B2 (i + 1 + 1) k2) (i + 1 + 1) (crsC (chainC ds (some ⟨b22, 0, none⟩) (i + 1))) :: row b47 (crsC [handC i (d % 4)]) 48 :: Γ1) (.swap _ _ _) ?_
    exact IH (j - 1) _ _ (by omega) ⟨i + 1, B2, k2, b && decide (0 < left), _, _, by omega, .cons _ hS1, hk2, hJn, rfl, rfl, rfl, congrArg (Value.int .i64) hmin, rfl, congrArg (Value.int .i64) (i64_succ i (by omega)), rfl⟩
  obtain rfl : i = ds.length := by omega
  clear IH
  have hb := stepJ_end hJ
  have hll : (chainC ds (some ⟨b22, 0, none⟩) ds.length).length = ds.length + 1 := by simp [chainC]
  have h22 : has Γ1 (srcAt 2 (some ⟨b22, 0, none⟩) 1 (tmsC [⟨false, 50⟩])) := has_sublist (up_src _ _ _ _) hS1 (has_src_row 0 rfl rfl)
  have hmem : ∀ x ∈ chainC ds (some ⟨b22, 0, none⟩) ds.length, x.ok (own 48 15 (.slice B (ds.length + 1) k) (ds.length + 1) (crsC (chainC ds (some ⟨b22, 0, none⟩) ds.length)) :: Γ1) ∧ x.few ∧ x.r.l.length ≤ 2 := fun x hx => by
    rcases List.mem_cons.1 hx with rfl | hx
    · exact ⟨⟨⟨has_tls h22, Nat.le_refl _⟩, has_srcnil _ _, Nat.le_refl _, fun y hy => by cases hy⟩, ⟨by show 0 ≤ 30; decide, by show 1 ≤ 30; decide, fun y hy => by cases hy⟩, by show 0 ≤ 2; decide⟩
    · obtain ⟨q, _, rfl⟩ := List.mem_map.1 hx
      exact ⟨⟨⟨has_srcnil _ _, Nat.le_refl _⟩, has_srcnil _ _, Nat.le_refl _, fun y hy => by cases hy⟩, ⟨by show 0 ≤ 30; decide, by show 0 ≤ 30; decide, fun y hy => by cases hy⟩, by show 0 ≤ 2; decide⟩
  have hC : Crs B (chainC ds (some ⟨b22, 0, none⟩) ds.length) (own 48 15 (.slice B (ds.length + 1) k) (ds.length + 1) (crsC (chainC ds (some ⟨b22, 0, none⟩) ds.length)) :: Γ1) := ⟨by rw [hll]; exact has_at (up_src _ _ _ _) 0 rfl fun _ h => own_src h, fun x hx => (hmem x hx).1, fun x hx => (hmem x hx).2.1, by omega⟩
  have hsm := fun x hx => (hmem x hx).2.2
  have hiff := said_iff ds (some ⟨b22, 0, none⟩)
  have hfew := @said_few ds (some ⟨b22, 0, none⟩) h5
  have hS2 : Γ0.Sublist (own 48 15 (.slice B (ds.length + 1) k) (ds.length + 1) (crsC (chainC ds (some ⟨b22, 0, none⟩) ds.length)) :: Γ1) := .cons _ ((List.Sublist.cons _ (.refl _)).trans hS1)
  generalize chainC ds (some ⟨b22, 0, none⟩) ds.length = l at *
  generalize own 48 15 (.slice B (ds.length + 1) k) (ds.length + 1) (crsC l) :: Γ1 = Γ2 at *
  refine m_run ?_
  (apply TL.callV; exact rfl; exact callB_of (by kernel_rfl); exact rfl; exact fun _ h => h)
  have hcr := creds_t B k l _ hC (by omega)
  rw [hll] at hcr
  exact hcr
  rintro _ Γ3 ⟨L, LB, Lk, rfl, hLk, hL, hok, _, hS3⟩
  refine m_run ?_
  (apply TL.callV; exact rfl; exact callB_of (by kernel_rfl); exact rfl; exact fun _ h => h)
  exact model_t l L LB Lk 200 _ hok hLk hL (by omega) hsm (by decide)
  rintro _ Γ4 ⟨hS4, ⟨R, RA, Rk, rfl, hR, hRS, hRl, hRm⟩ | ⟨_, M, hMS, hMm, hMl⟩⟩
  rotate_left
  · have := hfew hMS hMm
    omega
  refine m_run ?_
  (apply TL.callV; exact rfl; exact callB_of (by kernel_rfl); exact rfl; exact fun _ h => h)
  exact rpred_t 7 1 true 3 _
  rintro _ Γ4 ⟨rfl, rfl⟩
  rw [show predS 7 1 true 3 = (460, true) from rfl]
  refine m_run ?_
  (apply TL.buildSlice (l := u32s [0, 50]); exact rfl; exact tb rfl; exact rfl; exact tb rfl; exact rfl; exact rfl; exact rfl; exact rfl; exact rfl)
  intro b73
  refine m_run ?_
  (apply TL.pv; exact rfl; (apply PV.build tabs; exact rfl; exact rfl; exact rfl; exact rfl; exact rfl; exact (rfl : _ = Fct.cells ⟨460, some ⟨b73, 0, none⟩, 2, [0, 50]⟩)))
  refine m_run ?_
  (apply TL.callV; exact rfl; exact callB_of (by kernel_rfl); exact rfl; exact fun _ h => h)
  exact has13_t RA Rk R ⟨460, some ⟨b73, 0, none⟩, 2, [0, 50]⟩ _ (hR.sub (.cons _ (.refl _))) ⟨has_src_row 0 rfl rfl, Nat.le_refl _⟩ (by omega)
  rintro _ _ ⟨rfl, rfl⟩
  have hdec : decide (pf ⟨460, some ⟨b73, 0, none⟩, 2, [0, 50]⟩ ∈ R.map pf) = b := by
    rw [Bool.eq_iff_iff, decide_eq_true_iff, hRm, ← hb]
    exact hiff
  rw [hdec]
  refine m_run ?_
  refine TL.know (t := 77) (v := .bool true) (congrArg Value.bool (by cases b <;> rfl)) ?_
  refine m_run ?_
  (apply TL.callV; exact rfl; exact callB_of (by kernel_rfl); exact rfl; exact fun _ h => h)
  exact works21_t _
  rintro _ Γ5 ⟨rfl, hS5⟩
  refine m_run ?_
  (apply TK.retS1; exact rfl; exact rfl; (exact m_val))
  exact ⟨_, rfl, rfl, rfl⟩
  exact hS2.trans (hS3.trans (hS4.trans ((List.Sublist.cons _ (.refl _)).trans hS5)))
end Go.Proofs.Ythbcfamfaicneaa.E
