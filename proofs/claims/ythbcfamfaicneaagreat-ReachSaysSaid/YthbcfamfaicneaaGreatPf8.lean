/- My own texts, one behind the other: Of. -/
import Derived.Test.YthbcfamfaicneaaGreatPf7
/- Who is reached, is whose word comes to be said: walked. -/
namespace Go.Proofs.YthbcfamfaicneaaGreat.E
open Go Go.RowKit Go.Proofs
attribute [local irreducible] TK TL TQ TA TB Fn PV
/-- A fact's row, whatever its predicate. -/
def anyF (b : Nat) (F : Option Addr) (n k : Nat) : HP := fun m => ∃ v : Nat, row b [.int .u32 (v : Int), .slice F n k] 40 m
theorem sub_pick {H : HP} {B Γ : List HP} (h : (H :: B).Sublist Γ) : ∃ Γ', Γ.Perm (H :: Γ') ∧ B.Sublist Γ' := by
  obtain ⟨r1, r2, rfl, hm, hB⟩ := List.cons_sublist_iff.1 h
  obtain ⟨s, t, rfl⟩ := List.append_of_mem hm
  refine ⟨s ++ t ++ r2, ?_, hB.trans (List.sublist_append_right _ _)⟩
  simp only [List.append_assoc, List.cons_append]
  exact List.perm_middle
def lksOf (p n : Nat) (l : List Cr) : List Cr := l.zipIdx.map fun x => lkC (x.1.iss % 6) x.2 p n (x.1.to % 6) (dpt x.1.dep)
theorem lksOf_len (p n : Nat) (l : List Cr) : (lksOf p n l).length = l.length := by simp [lksOf]
theorem lksOf_snoc {p n : Nat} {l : List Cr} {i : Nat} {X : Cr} (h : l[i]? = some X) : lksOf p n (l.take (i + 1)) = lksOf p n (l.take i) ++ [lkC (X.iss % 6) i p n (X.to % 6) (dpt X.dep)] := by
  have hi := (List.getElem?_eq_some_iff.1 h).1
  unfold lksOf
  rw [List.take_add_one, h]
  simp only [Option.toList_some, List.zipIdx_append, List.map_append, Nat.zero_add, List.length_take]
  rw [show min i l.length = i by omega]
  rfl
theorem lksOf_is {p n : Nat} {l : List Cr} : ∀ x ∈ lksOf p n l, LkIs p n x := fun x hx => by
  obtain ⟨y, _, rfl⟩ := List.mem_map.1 hx
  exact ⟨_, _, _, _, rfl, Nat.mod_lt _ (by decide), Nat.mod_lt _ (by decide), (dpt_in _).1, (dpt_in _).2⟩
theorem lks_crs {L : List Cr} {B : Option Addr} {p n : Nat} {Γ : List HP} (hs : has Γ (srcAt 15 B L.length (crsC L))) (hn : L.length ≤ 50) (h : ∀ x ∈ L, LkIs p n x) : Crs B L Γ :=
  ⟨hs, fun x hx => by obtain ⟨a, b, p, d, rfl, _⟩ := h x hx; exact ⟨⟨has_srcnil _ _, Nat.le_refl _⟩, has_srcnil _ _, Nat.le_refl _, fun x hx => by cases hx⟩, fun x hx => by obtain ⟨a, b, p, d, rfl, _⟩ := h x hx; exact ⟨Nat.zero_le _, Nat.zero_le _, fun x hx => by cases hx⟩, by omega⟩
set_option maxRecDepth 100000 in
set_option maxHeartbeats 16000000 in
theorem reachSays_t (A : Option Addr) (c : Nat) (l : List Cr) (who x p args : Nat) (Γ0 : List HP) (hs0 : has Γ0 (srcAt 15 A l.length (crsC l))) (hargs : args ≤ 255) :
    FnV Tryz.prog 3 [.slice A l.length c, .int .u32 (who : Int), .int .u32 (x : Int), .int .u32 (p : Int), .int .u8 (args : Int)] Γ0 fun v Γ' => v = .bool true ∧ Γ' = Γ0 := by
  refine Fn.enter Tryz.func3 rfl rfl rfl fun E => ?_
  refine m_run ?_
  by_cases h10 : l.length ≤ 10
  rotate_left
  · refine m_run ?_
    (apply TL.callV; exact rfl; exact callB_of (by kernel_rfl); exact rfl; exact fun _ h => h)
    exact works_t _
    rintro _ Γ1 ⟨rfl, hs1⟩
    refine m_run ?_
    (apply TK.retS1; exact rfl; exact rfl; (exact m_val))
    exact ⟨_, rfl, rfl, rfl⟩
    exact hs1
  obtain ⟨n, hn⟩ : ∃ n, args % 4 = n := ⟨_, rfl⟩
  obtain ⟨q, hq⟩ : ∃ q, p % 16777216 = q := ⟨_, rfl⟩
  have hn3 : n ≤ 3 := by omega
  have hq24 : q < 16777216 := by omega
  refine m_run ?_
  refine TK.know (t := 11) (v := .int .i64 (n : Int)) ?_ ?_
  · rw [← hn]; exact congrArg (Value.int .i64) (i64_in (by omega) (by omega))
  refine TK.know (t := 12) (v := .int .u32 (q : Int)) ?_ ?_
  · rw [← hq]; rfl
  refine TK.free (H := own 37 15 (.slice none 0 0) 0 []) (fun m hm => own_nil _ _ hm) ?_
  apply TK.iter (fun j ρ' Γ' => ∃ (i : Nat) (B : Option Addr) (k : Nat) (Γ1 : List HP), i + j = l.length ∧ Γ0.Sublist Γ1 ∧ lk ρ' 0 = .slice A l.length c ∧ lk ρ' 1 = .int .u32 (who : Int) ∧ lk ρ' 2 = .int .u32 (x : Int) ∧ lk ρ' 11 = .int .i64 (n : Int) ∧ lk ρ' 12 = .int .u32 (q : Int) ∧ lk ρ' 13 = .slice B i k ∧ lk ρ' 14 = .int .i64 (i : Int) ∧ Γ' = own 37 15 (.slice B i k) i (crsC (lksOf q n (l.take i))) :: Γ1) l.length
  · exact ⟨0, none, 0, _, Nat.zero_add _, .refl _, rfl, rfl, rfl, rfl, rfl, rfl, rfl, rfl⟩
  rintro j IH ρ' _ ⟨i, B, k, Γ1, hij, hS1, e0, e1, e2, e11, e12, e13, e14, rfl⟩
  refine TK.know7 e0 e1 e2 e11 e12 e13 e14 ?_
  by_cases hi : i < l.length
  · obtain ⟨X, hX⟩ : ∃ X, l[i]? = some X := ⟨l[i], List.getElem?_eq_getElem hi⟩
    have hA1 : has Γ1 (srcAt 15 A l.length (crsC l)) := has_sublist (up_src _ _ _ _) hS1 hs0
    refine TK.mem fun m0 hm0 => ?_
    obtain ⟨g, u, rfl⟩ := src_some ((has_tls hA1 : has (_ :: Γ1) _) m0 hm0) (by rw [crsC_len]; omega)
    clear hm0 m0
    have hc0 : has Γ1 (fun m => cellAt m g (u + i * 15) (.int .u32 (X.iss : Int))) := cr_cell hA1 hX 0 rfl
    have hc8 : has Γ1 (fun m => cellAt m g (u + i * 15 + 13) (.int .u32 (X.to : Int))) := cr_cell hA1 hX 13 rfl
    have hc9 : has Γ1 (fun m => cellAt m g (u + i * 15 + 14) (.int .i64 X.dep)) := cr_cell hA1 hX 14 rfl
    refine m_run ?_
    refine TK.drawE mixed rfl Γ1 ?_
    refine m_take (At.mk : At 0) ?_; refine m_take (At.mk : At 1) ?_; refine m_take (At.mk : At 2) ?_; refine m_take (At.mk : At 3) ?_; refine m_take (At.mk : At 4) ?_; refine m_take (At.mk : At 5) ?_; refine m_take (At.mk : At 6) ?_; refine m_take (At.mk : At 7) ?_; refine m_take (At.mk : At 8) ?_; refine m_take (At.mk : At 9) ?_; refine m_take (At.mk : At 10) ?_; refine m_take (At.mk : At 11) ?_; refine m_take (At.mk : At 12) ?_; refine m_take (At.mk : At 13) ?_; refine m_take (At.mk : At 14) ?_; refine m_take (At.mk : At 15) ?_; refine m_take (At.mk : At 16) ?_; refine m_take (At.mk : At 17) ?_; refine m_take (At.mk : At 18) ?_; refine m_take (At.mk : At 19) ?_; refine m_take (At.mk : At 20) ?_; refine m_take (At.mk : At 21) ?_; refine m_take (At.mk : At 22) ?_; refine m_take (At.mk : At 23) ?_
    refine TA.know (t := 53) (v := .int .u32 ((X.iss % 6 : Nat) : Int)) rfl ?_
    refine TA.know (t := 63) (v := .int .u32 ((X.to % 6 : Nat) : Int)) rfl ?_
    refine TA.know (t := 70) (v := .int .i64 (dpt X.dep)) rfl ?_
    refine TA.know (t := 55) (v := .int .u64 (i : Int)) (congrArg (Value.int .u64) (u64_in (by omega) (by omega))) ?_
    (apply TA.takeA (At.mk : At 24); exact rfl; exact rfl; kernel_rfl; ((focus ((repeat (first | assumption | exact Ent.refl _ | apply Ent.tail)); done))); (apply PV.build tabs; exact rfl; exact rfl; exact rfl; exact rfl; exact rfl; exact (rfl : _ = Cr.cells (lkC (X.iss % 6) i q n (X.to % 6) (dpt X.dep)))))
    (apply TA.one 25; kernel_rfl; exact rfl)
    (apply TL.buildSlice (l := crsC [lkC (X.iss % 6) i q n (X.to % 6) (dpt X.dep)]); exact rfl; exact tb rfl; exact rfl; exact tb rfl; exact rfl; exact rfl; exact rfl; exact rfl; exact rfl)
    intro b72
    refine TL.back (by (focus ((repeat (first | assumption | exact Ent.refl _ | apply Ent.tail)); done))) ?_
    (apply TA.one 26; kernel_rfl; exact rfl)
    (apply TL.append 1 (n := i) (m := 1) (cs := crsC (lksOf q n (l.take i))) (news := crsC [lkC (X.iss % 6) i q n (X.to % 6) (dpt X.dep)]); exact rfl; exact rfl; exact tb rfl; exact rfl; exact tb rfl; exact rfl; exact rfl; exact rfl)
    · exact fun _ h => h
    · exact rfl
    · exact has_src_row 0 rfl rfl
    · exact crs_one _
    · show (i + 1) * 144 ≤ _; omega
    · show i + 1 ≤ maxLen; unfold maxLen; omega
    · exact fun _ => (rfl : _ = _ :: _ :: _)
    intro B2 k2 hk2
    have hcs : crsC (lksOf q n (l.take i)) ++ crsC [lkC (X.iss % 6) i q n (X.to % 6) (dpt X.dep)] = crsC (lksOf q n (l.take (i + 1))) := by rw [lksOf_snoc hX]; simp
    rw [hcs]
    refine TL.back (by (focus ((repeat (first | assumption | exact Ent.refl _ | apply Ent.tail)); done))) ?_
    refine m_take (At.mk : At 27) ?_
    refine TA.done (by kernel_rfl) ?_
    refine m_run ?_
    refine TK.perm (Δ := own 37 15 (.slice B2 (i + 1) k2) (i + 1) (crsC (lksOf q n (l.take (i + 1)))) :: row b72 (crsC [lkC (X.iss % 6) i q n (X.to % 6) (dpt X.dep)]) 37 :: Γ1) (.swap _ _ _) ?_
    exact IH (j - 1) _ _ (by omega) ⟨i + 1, B2, k2, _, by omega, .cons _ hS1, rfl, rfl, rfl, rfl, rfl, rfl, congrArg (Value.int .i64) (i64_succ i (by omega)), rfl⟩
  obtain rfl : i = l.length := by omega
  clear IH
  rw [List.take_length]
  have hLl : (lksOf q n l).length = l.length := lksOf_len ..
  have hL : ∀ x ∈ lksOf q n l, LkIs q n x := lksOf_is
  rw [← hLl] at h10 ⊢
  generalize lksOf q n l = L at *
  clear hij hLl hs0 hq hn
  have hS0 : Γ0.Sublist (own 37 15 (.slice B L.length k) L.length (crsC L) :: Γ1) := .cons _ hS1
  have hBk : ∀ {m}, all (own 37 15 (.slice B L.length k) L.length (crsC L) :: Γ1) m → True := fun _ => trivial
  have hC : Crs B L (own 37 15 (.slice B L.length k) L.length (crsC L) :: Γ1) := lks_crs (has_at (up_src _ _ _ _) 0 rfl fun _ h => own_src h) (by omega) hL
  generalize own 37 15 (.slice B L.length k) L.length (crsC L) :: Γ1 = Γ2 at *
  clear hBk hS1 Γ1
  obtain ⟨a, ha⟩ : ∃ a, who % 6 = a := ⟨_, rfl⟩
  obtain ⟨b, hb⟩ : ∃ b, x % 6 = b := ⟨_, rfl⟩
  have hb6 : b < 6 := by omega
  refine m_run ?_
  refine TL.know (t := 15) (v := .int .u32 (a : Int)) (by rw [← ha]; rfl) ?_
  refine TL.know (t := 16) (v := .int .u32 (b : Int)) (by rw [← hb]; rfl) ?_
  clear ha hb
  (apply TL.pv; exact rfl; (apply PV.build tabs; exact rfl; exact rfl; exact rfl; exact rfl; exact rfl; exact (rfl : _ = ([.int .u32 (q : Int), .slice none 0 0] : List Value))))
  (apply TL.pv; exact rfl; (apply PV.build tabs; exact rfl; exact rfl; exact rfl; exact rfl; exact rfl; exact (rfl : _ = Sy.cells ⟨false, ⟨false, 0⟩, ⟨q, none, 0, []⟩⟩)))
  (apply TL.alloc; exact rfl; exact tb rfl; (exact m_lst))
  intro b17
  refine m_run ?_
  (apply TL.buildSlice (l := u32s [a]); exact rfl; exact tb rfl; exact rfl; exact tb rfl; exact rfl; exact rfl; exact rfl; exact rfl; exact rfl)
  intro b82
  refine m_run ?_
  (apply TL.pv; exact rfl; (apply PV.build tabs; exact rfl; exact rfl; exact rfl; exact rfl; exact rfl; exact (rfl : _ = ([.int .u32 0, .slice (some ⟨b82, 0, none⟩) 1 1] : List Value))))
  (apply TL.alloc; exact rfl; exact tb rfl; (exact m_lst))
  intro b18
  refine m_run ?_
  refine TK.imp (Δ := own 23 1 (.slice (some ⟨b82, 0, none⟩) 1 1) 1 (u32s [a]) :: row b18 [.int .u32 0, .slice (some ⟨b82, 0, none⟩) 1 1] 40 :: row b17 [.bool false, .bool false, .int .u32 0, .int .u32 (q : Int), .slice none 0 0] 32 :: Γ2) (fun m hm => sep_mono (all_perm (.swap _ _ _) hm) (fun _ h => own_row (n := 1) rfl (by decide) h) (fun _ h => h)) ?_
  refine TK.free (H := own 27 2 (.slice none 0 0) 0 []) (fun m hm => own_nil _ _ hm) ?_
  apply TK.iter (fun j ρ' Γ' => ∃ (i : Nat) (TB : Option Addr) (tk : Nat) (FB : Option Addr) (fk : Nat) (Γ3 : List HP), i + j = n ∧ Γ2.Sublist Γ3 ∧ i ≤ tk ∧ i + 1 ≤ fk ∧ lk ρ' 11 = .int .i64 (n : Int) ∧ lk ρ' 12 = .int .u32 (q : Int) ∧ lk ρ' 13 = .slice B L.length k ∧ lk ρ' 15 = .int .u32 (a : Int) ∧ lk ρ' 16 = .int .u32 (b : Int) ∧ lk ρ' 17 = .pointer (some ⟨b17, 0, none⟩) ∧ lk ρ' 18 = .pointer (some ⟨b18, 0, none⟩) ∧ lk ρ' 19 = .int .i64 (i : Int) ∧ Γ' = own 27 2 (.slice TB i tk) i (tmsC (consT i)) :: own 23 1 (.slice FB (i + 1) fk) (i + 1) (u32s (a :: consN i)) :: row b18 [.int .u32 0, .slice FB (i + 1) fk] 40 :: row b17 [.bool false, .bool false, .int .u32 0, .int .u32 (q : Int), .slice TB i tk] 32 :: Γ3) n
  · exact ⟨0, none, 0, some ⟨b82, 0, none⟩, 1, Γ2, Nat.zero_add _, .refl _, Nat.le_refl _, Nat.le_refl _, rfl, rfl, rfl, rfl, rfl, rfl, rfl, rfl, rfl⟩
  rintro j IH ρ' _ ⟨i, TB, tk, FB, fk, Γ3, hij, hS3, htk, hfk, e11, e12, e13, e15, e16, e17, e18, e19, rfl⟩
  refine TK.know8 e11 e12 e13 e15 e16 e17 e18 e19 ?_
  by_cases hi : i < n
  · have hts : tmsC (consT i) ++ tmC ⟨false, i + 50⟩ = tmsC (consT (i + 1)) := by unfold consT; rw [List.range_succ]; simp
    have hfs : u32s (a :: consN i) ++ u32s [i + 50] = u32s (a :: consN (i + 1)) := by unfold consN; rw [List.range_succ]; simp [u32s]
    have hw : IntKind.u32.wrap (IntKind.u32.wrap (i : Int) + 50) = ((i + 50 : Nat) : Int) := by
      rw [u32_in (x := (i : Int)) (by omega) (by omega), u32_in (by omega) (by omega)]; rfl
    refine m_run ?_
    refine TL.know (t := 94) (v := .int .u32 ((i + 50 : Nat) : Int)) (congrArg (Value.int .u32) hw) ?_
    (apply TL.pv; exact rfl; (apply PV.build tabs; exact rfl; exact rfl; exact rfl; exact rfl; exact rfl; exact (rfl : _ = tmC ⟨false, i + 50⟩)))
    (apply TL.buildSlice (l := tmC ⟨false, i + 50⟩); exact rfl; exact tb rfl; exact rfl; exact tb rfl; exact rfl; exact rfl; exact rfl; exact rfl; exact rfl)
    intro b96
    refine m_run ?_
    (apply TL.append 1 (n := i) (m := 1) (cs := tmsC (consT i)) (news := tmC ⟨false, i + 50⟩); exact rfl; exact rfl; exact tb rfl; exact rfl; exact tb rfl; exact rfl; exact rfl; exact rfl)
    · exact fun _ h => h
    · exact rfl
    · exact has_src_row 0 rfl rfl
    · exact tmsC_one [_]
    · show (i + 1) * 8 ≤ _; omega
    · show i + 1 ≤ maxLen; unfold maxLen; omega
    · exact fun _ => (rfl : _ = _ :: _ :: _)
    intro TB2 tk2 htk2
    rw [hts]
    refine m_run ?_
    refine TL.know (t := 104) (v := .int .u32 ((i + 50 : Nat) : Int)) (congrArg (Value.int .u32) hw) ?_
    (apply TL.buildSlice (l := u32s [i + 50]); exact rfl; exact tb rfl; exact rfl; exact tb rfl; exact rfl; exact rfl; exact rfl; exact rfl; exact rfl)
    intro b105
    refine m_run ?_
    (apply TL.append 3 (n := i + 1) (m := 1) (cs := u32s (a :: consN i)) (news := u32s [i + 50]); exact rfl; exact rfl; exact tb rfl; exact rfl; exact tb rfl; exact rfl; exact rfl; exact rfl)
    · exact fun _ h => h
    · exact rfl
    · exact has_src_row 0 rfl rfl
    · intro u hu; rw [List.mem_singleton.1 hu]; rfl
    · show (i + 1 + 1) * 4 ≤ _; omega
    · show i + 1 + 1 ≤ maxLen; unfold maxLen; omega
    · exact fun _ => (rfl : _ = _ :: _ :: _ :: _ :: _)
    intro FB2 fk2 hfk2
    rw [hfs]
    refine m_run ?_
    refine TK.perm (Δ := own 27 2 (.slice TB2 (i + 1) tk2) (i + 1) (tmsC (consT (i + 1))) :: own 23 1 (.slice FB2 (i + 1 + 1) fk2) (i + 1 + 1) (u32s (a :: consN (i + 1))) :: row b18 [.int .u32 0, .slice FB2 (i + 1 + 1) fk2] 40 :: row b17 [.bool false, .bool false, .int .u32 0, .int .u32 (q : Int), .slice TB2 (i + 1) tk2] 32 :: (row b105 (u32s [i + 50]) 23 :: row b96 (tmC ⟨false, i + 50⟩) 27 :: Γ3)) (List.perm_append_comm_assoc [_, _] [_, _, _, _] _) ?_
    exact IH (j - 1) _ _ (by omega) ⟨i + 1, TB2, tk2, FB2, fk2, _, by omega, .cons _ (.cons _ hS3), htk2, hfk2, rfl, rfl, rfl, rfl, rfl, rfl, rfl, congrArg (Value.int .i64) (i64_succ i (by omega)), rfl⟩
  obtain rfl : i = n := by omega
  clear IH
  refine TK.imp (Δ := ownTm TB tk (consT i) :: own 23 1 (.slice FB (a :: consN i).length fk) (a :: consN i).length (u32s (a :: consN i)) :: row b18 [.int .u32 0, .slice FB (a :: consN i).length fk] 40 :: row b17 [.bool false, .bool false, .int .u32 0, .int .u32 (q : Int), .slice TB (consT i).length tk] 32 :: Γ3) (fun m hm => by unfold ownTm; rw [show (a :: consN i).length = i + 1 by simp [consN], consT_len]; exact hm) ?_
  have hFl : (a :: consN i).length ≤ 4 := by simp [consN]; omega
  replace hfk : (a :: consN i).length ≤ fk := by simp [consN]; omega
  replace htk : (consT i).length ≤ tk := by rw [consT_len]; exact htk
  have hb17 : has (ownTm TB tk (consT i) :: own 23 1 (.slice FB (a :: consN i).length fk) (a :: consN i).length (u32s (a :: consN i)) :: row b18 [.int .u32 0, .slice FB (a :: consN i).length fk] 40 :: row b17 [.bool false, .bool false, .int .u32 0, .int .u32 (q : Int), .slice TB (consT i).length tk] 32 :: Γ3) (fun m => cellsAt m b17 0 [.bool false, .bool false, .int .u32 0, .int .u32 (q : Int), .slice TB (consT i).length tk]) := has_rows 3 rfl rfl
  refine TK.imp (Δ := row b18 [.int .u32 0, .slice FB (a :: consN i).length fk] 40 :: ownTm TB tk (consT i) :: own 23 1 (.slice FB (a :: consN i).length fk) (a :: consN i).length (u32s (a :: consN i)) :: row b17 [.bool false, .bool false, .int .u32 0, .int .u32 (q : Int), .slice TB (consT i).length tk] 32 :: Γ3) (fun m hm => all_perm (List.perm_middle (l₁ := [_, _])) hm) ?_
  replace hb17 : has (ownTm TB tk (consT i) :: own 23 1 (.slice FB (a :: consN i).length fk) (a :: consN i).length (u32s (a :: consN i)) :: row b17 [.bool false, .bool false, .int .u32 0, .int .u32 (q : Int), .slice TB (consT i).length tk] 32 :: Γ3) (fun m => cellsAt m b17 0 [.bool false, .bool false, .int .u32 0, .int .u32 (q : Int), .slice TB (consT i).length tk]) := has_rows 2 rfl rfl
  have hTT : has (ownTm TB tk (consT i) :: own 23 1 (.slice FB (a :: consN i).length fk) (a :: consN i).length (u32s (a :: consN i)) :: row b17 [.bool false, .bool false, .int .u32 0, .int .u32 (q : Int), .slice TB (consT i).length tk] 32 :: Γ3) (srcAt 2 TB (consT i).length (tmsC (consT i))) := has_at (up_src _ _ _ _) 0 rfl fun _ h => own_src h
  have hFF : has (ownTm TB tk (consT i) :: own 23 1 (.slice FB (a :: consN i).length fk) (a :: consN i).length (u32s (a :: consN i)) :: row b17 [.bool false, .bool false, .int .u32 0, .int .u32 (q : Int), .slice TB (consT i).length tk] 32 :: Γ3) (srcAt 1 FB (a :: consN i).length (u32s (a :: consN i))) := has_at (up_src _ _ _ _) 1 rfl fun _ h => own_src h
  have hS4 : Γ2.Sublist (ownTm TB tk (consT i) :: own 23 1 (.slice FB (a :: consN i).length fk) (a :: consN i).length (u32s (a :: consN i)) :: row b17 [.bool false, .bool false, .int .u32 0, .int .u32 (q : Int), .slice TB (consT i).length tk] 32 :: Γ3) := .cons _ (.cons _ (.cons _ hS3))
  generalize ownTm TB tk (consT i) :: own 23 1 (.slice FB (a :: consN i).length fk) (a :: consN i).length (u32s (a :: consN i)) :: row b17 [.bool false, .bool false, .int .u32 0, .int .u32 (q : Int), .slice TB (consT i).length tk] 32 :: Γ3 = Γ4 at *
  refine m_run ?_
  (apply TL.pv; exact rfl; (apply PV.build tabs; exact rfl; exact rfl; exact rfl; exact rfl; exact rfl; exact (rfl : _ = Rl.cells ⟨⟨false, ⟨false, 0⟩, ⟨q, TB, tk, consT i⟩⟩, none, 0, []⟩)))
  (apply TL.pv; exact rfl; (apply PV.build tabs; exact rfl; exact rfl; exact rfl; exact rfl; exact rfl; exact (rfl : _ = Cr.cells (wrdC b q TB tk i))))
  (apply TL.alloc; exact rfl; exact tb rfl; (exact m_lst))
  intro b20
  refine m_run ?_
  refine TK.imp (Δ := row b20 (Cr.cells (wrdC b q TB tk i)) 37 :: anyF b18 FB (a :: consN i).length fk :: Γ4) (fun m hm => sep_mono hm (fun _ h => h) (fun _ h => sep_mono h (fun _ h => ⟨0, h⟩) (fun _ h => h))) ?_
  have hC5 : Crs B L (row b20 (Cr.cells (wrdC b q TB tk i)) 37 :: anyF b18 FB (a :: consN i).length fk :: Γ4) := hC.sub (.cons _ (.cons _ hS4))
  have hT5 : has (row b20 (Cr.cells (wrdC b q TB tk i)) 37 :: anyF b18 FB (a :: consN i).length fk :: Γ4) (srcAt 2 TB (consT i).length (tmsC (consT i))) := has_tls (has_tls hTT)
  have hb20 : has (row b20 (Cr.cells (wrdC b q TB tk i)) 37 :: anyF b18 FB (a :: consN i).length fk :: Γ4) (fun m => cellsAt m b20 0 (Cr.cells (wrdC b q TB tk i))) := has_rows 0 rfl rfl
  refine TK.drawS mixed rfl ?_
  refine m_take (At.mk : At 1) ?_; refine m_take (At.mk : At 3) ?_
  refine TA.cutJ [0, 2, 4] (fun ρ' Γ' => ∃ (B114 : Option Addr) (k114 b116 : Nat), L.length ≤ k114 ∧ lk ρ' 13 = .slice B L.length k ∧ lk ρ' 114 = .slice B114 L.length k114 ∧ lk ρ' 116 = .slice (some ⟨b116, 0, none⟩) 1 1 ∧ lk ρ' 11 = .int .i64 (i : Int) ∧ lk ρ' 12 = .int .u32 (q : Int) ∧ lk ρ' 15 = .int .u32 (a : Int) ∧ lk ρ' 16 = .int .u32 (b : Int) ∧ lk ρ' 18 = .pointer (some ⟨b18, 0, none⟩) ∧ Γ' = own 37 15 (.slice B114 L.length k114) L.length (crsC L) :: row b116 (crsC [wrdC b q TB tk i]) 37 :: row b20 (Cr.cells (wrdC b q TB tk i)) 37 :: anyF b18 FB (a :: consN i).length fk :: Γ4) rfl ?_ ?_
  · intro tail
    (apply TA.two 0 4; kernel_rfl; exact rfl; exact rfl)
    · (apply TL.buildSlice (l := []); exact rfl; exact tb rfl; exact rfl; exact tb rfl; exact rfl; exact rfl; exact rfl; exact rfl; exact rfl)
      intro b112
      refine TL.back (by (focus ((repeat (first | assumption | exact Ent.refl _ | apply Ent.tail)); done))) ?_
      (apply TA.two 2 4; kernel_rfl; exact rfl; exact rfl)
      · (apply TL.append 0 (n := 0) (m := L.length) (cs := []) (news := crsC L); exact rfl; exact rfl; exact tb rfl; exact rfl; exact tb rfl; exact rfl; exact rfl; exact rfl)
        · exact fun _ h => own_row (n := 0) rfl (by decide) h
        · exact rfl
        · exact has_tls hC5.src
        · exact crs_one _
        · show (0 + L.length) * 144 ≤ _; omega
        · show 0 + L.length ≤ maxLen; unfold maxLen; omega
        · exact fun _ => (rfl : _ = _ :: _)
        intro B114 k114 hk114
        simp only [Nat.zero_add, List.nil_append] at hk114 ⊢
        refine TL.back (by (focus ((repeat (first | assumption | exact Ent.refl _ | apply Ent.tail)); done))) ?_
        (apply TA.one 4; kernel_rfl; exact rfl)
        (apply TL.buildSlice (l := crsC [wrdC b q TB tk i]); exact rfl; exact tb rfl; exact rfl; exact tb rfl; exact rfl; exact rfl; exact rfl; exact rfl; exact rfl)
        intro b116
        refine TL.back (by (focus ((repeat (first | assumption | exact Ent.refl _ | apply Ent.tail)); done))) ?_
        refine TA.perm (.swap _ _ _) ?_
        refine TA.eqL ?_ (tail _ _ ⟨B114, k114, b116, hk114, rfl, rfl, rfl, rfl, rfl, rfl, rfl, rfl, rfl⟩)
        kernel_rfl
      · (apply TL.buildSlice (l := crsC [wrdC b q TB tk i]); exact rfl; exact tb rfl; exact rfl; exact tb rfl; exact rfl; exact rfl; exact rfl; exact rfl; exact rfl)
        intro b116
        refine TL.back (by (focus ((repeat (first | assumption | exact Ent.refl _ | apply Ent.tail)); done))) ?_
        (apply TA.one 2; kernel_rfl; exact rfl)
        (apply TL.append 1 (n := 0) (m := L.length) (cs := []) (news := crsC L); exact rfl; exact rfl; exact tb rfl; exact rfl; exact tb rfl; exact rfl; exact rfl; exact rfl)
        · exact fun _ h => own_row (n := 0) rfl (by decide) h
        · exact rfl
        · exact has_tls (has_tls hC5.src)
        · exact crs_one _
        · show (0 + L.length) * 144 ≤ _; omega
        · show 0 + L.length ≤ maxLen; unfold maxLen; omega
        · exact fun _ => (rfl : _ = _ :: _ :: _)
        intro B114 k114 hk114
        simp only [Nat.zero_add, List.nil_append] at hk114 ⊢
        refine TL.back (by (focus ((repeat (first | assumption | exact Ent.refl _ | apply Ent.tail)); done))) ?_
        refine TA.perm (.swap _ _ _) ?_
        refine TA.eqL ?_ (tail _ _ ⟨B114, k114, b116, hk114, rfl, rfl, rfl, rfl, rfl, rfl, rfl, rfl, rfl⟩)
        kernel_rfl
    · (apply TL.buildSlice (l := crsC [wrdC b q TB tk i]); exact rfl; exact tb rfl; exact rfl; exact tb rfl; exact rfl; exact rfl; exact rfl; exact rfl; exact rfl)
      intro b116
      refine TL.back (by (focus ((repeat (first | assumption | exact Ent.refl _ | apply Ent.tail)); done))) ?_
      (apply TA.one 0; kernel_rfl; exact rfl)
      (apply TL.buildSlice (l := []); exact rfl; exact tb rfl; exact rfl; exact tb rfl; exact rfl; exact rfl; exact rfl; exact rfl; exact rfl)
      intro b112
      refine TL.back (by (focus ((repeat (first | assumption | exact Ent.refl _ | apply Ent.tail)); done))) ?_
      (apply TA.one 2; kernel_rfl; exact rfl)
      (apply TL.append 0 (n := 0) (m := L.length) (cs := []) (news := crsC L); exact rfl; exact rfl; exact tb rfl; exact rfl; exact tb rfl; exact rfl; exact rfl; exact rfl)
      · exact fun _ h => own_row (n := 0) rfl (by decide) h
      · exact rfl
      · exact has_tls (has_tls hC5.src)
      · exact crs_one _
      · show (0 + L.length) * 144 ≤ _; omega
      · show 0 + L.length ≤ maxLen; unfold maxLen; omega
      · exact fun _ => (rfl : _ = _ :: _)
      intro B114 k114 hk114
      simp only [Nat.zero_add, List.nil_append] at hk114 ⊢
      refine TL.back (by (focus ((repeat (first | assumption | exact Ent.refl _ | apply Ent.tail)); done))) ?_
      refine TA.eqL ?_ (tail _ _ ⟨B114, k114, b116, hk114, rfl, rfl, rfl, rfl, rfl, rfl, rfl, rfl, rfl⟩)
      kernel_rfl
  rintro ρ3 _ ⟨B114, k114, b116, hk114, q13, q114, q116, q11, q12, q15, q16, q18, rfl⟩
  refine TA.know (t := 13) (v := .slice B L.length k) q13 ?_
  refine TA.know (t := 114) (v := .slice B114 L.length k114) q114 ?_
  refine TA.know (t := 116) (v := .slice (some ⟨b116, 0, none⟩) 1 1) q116 ?_
  refine TA.know (t := 11) (v := .int .i64 (i : Int)) q11 ?_
  refine TA.know (t := 12) (v := .int .u32 (q : Int)) q12 ?_
  refine TA.know (t := 15) (v := .int .u32 (a : Int)) q15 ?_
  refine TA.know (t := 16) (v := .int .u32 (b : Int)) q16 ?_
  refine TA.know (t := 18) (v := .pointer (some ⟨b18, 0, none⟩)) q18 ?_
  (apply TA.one 5; kernel_rfl; exact rfl)
  (apply TL.append 0 (n := L.length) (m := 1) (cs := crsC L) (news := crsC [wrdC b q TB tk i]); exact rfl; exact rfl; exact tb rfl; exact rfl; exact tb rfl; exact rfl; exact rfl; exact rfl)
  · exact fun _ h => h
  · exact rfl
  · exact has_src_row 1 rfl rfl
  · exact crs_one _
  · show (L.length + 1) * 144 ≤ _; omega
  · show L.length + 1 ≤ maxLen; unfold maxLen; omega
  · exact fun _ => (rfl : _ = _ :: _)
  intro B117 k117 hk117
  rw [show crsC L ++ crsC [wrdC b q TB tk i] = crsC (L ++ [wrdC b q TB tk i]) by simp, show L.length + 1 = (L ++ [wrdC b q TB tk i]).length by simp]
  refine TL.back (by (focus ((repeat (first | assumption | exact Ent.refl _ | apply Ent.tail)); done))) ?_
  (apply TA.one 6; kernel_rfl; exact rfl)
  (apply TL.callV; exact rfl; exact callB_of (by kernel_rfl); exact rfl; exact fun _ h => h)
  refine rcreds_t B117 k117 (L ++ [wrdC b q TB tk i]) _ ⟨has_at (up_src _ _ _ _) 0 rfl fun _ h => own_src h, fun x hx => ?_, fun x hx => ?_, by simp; omega⟩ (by simp; omega)
  · rcases List.mem_append.1 hx with h | h
    · exact Cr.ok_tl (Cr.ok_tl (hC5.ok x h))
    · rw [List.mem_singleton.1 h]
      exact ⟨⟨has_tls (has_tls hT5), htk⟩, has_srcnil _ _, Nat.le_refl _, fun x hx => by cases hx⟩
  · rcases List.mem_append.1 hx with h | h
    · exact hC5.few x h
    · rw [List.mem_singleton.1 h]
      exact ⟨Nat.zero_le _, by show (consT i).length ≤ 30; rw [consT_len]; omega, fun x hx => by cases hx⟩
  rintro _ Γ6 ⟨P, PB, Pk, rfl, hPk, hP, hPo, _, hS6⟩
  have hS6' := (List.Sublist.cons _ (.cons _ (.refl _))).trans hS6
  have hE : Ent Γ6 (row b20 (Cr.cells (wrdC b q TB tk i)) 37 :: anyF b18 FB (a :: consN i).length fk :: Γ4) := fun m hm => all_sub hS6' hm
  refine TL.back hE ?_
  refine m_take (At.mk : At 7) ?_
  refine TA.done (by kernel_rfl) ?_
  clear hS6 hE
  have hpr : predS q i true 3 = (64 * q + 8 * i + 1 + 3, true) := predS_is (k := 3) hq24 (by omega) (Nat.le_refl _)
  refine m_run ?_
  (apply TL.callV; exact rfl; exact callB_of (by kernel_rfl); exact rfl; exact fun _ h => h)
  exact rpred_t q i true 3 _
  rintro _ _ ⟨rfl, rfl⟩
  rw [hpr]
  refine m_run ?_
  (apply TL.callV; exact rfl; exact callB_of (by kernel_rfl); exact rfl; exact fun _ h => h)
  refine model_t (L ++ [wrdC b q TB tk i]) P PB Pk 1000 _ hPo hPk hP (by simp; omega) (fun x hx => ?_) (by decide)
  · rcases List.mem_append.1 hx with h | h
    · obtain ⟨_, _, _, _, rfl, _⟩ := hL x h
      exact Nat.zero_le _
    · rw [List.mem_singleton.1 h]; exact Nat.zero_le _
  rintro _ Γ7 ⟨hS7, ⟨R, RA, Rk, rfl, hR, hRS, hRl, hRm⟩ | ⟨rfl, M, hMS, hMm, hMl⟩⟩
  rotate_left
  · exfalso
    have := reach_few hL hq24 hn3 hb6 hMS hMm
    omega
  have hS67 : (row b20 (Cr.cells (wrdC b q TB tk i)) 37 :: anyF b18 FB (a :: consN i).length fk :: Γ4).Sublist Γ7 := hS6'.trans hS7
  obtain ⟨Γ8, hp8, hS8⟩ := sub_pick ((List.Sublist.cons _ (.refl _)).trans hS67)
  refine m_rrun ?_
  refine TL.nil ?_
  refine TK.perm hp8 ?_
  refine TK.ex fun w => ?_
  have hup : ∀ v : Nat, ∀ m, all (row b18 [.int .u32 (v : Int), .slice FB (a :: consN i).length fk] 40 :: Γ8) m → all Γ7 m := fun v m hm => all_perm hp8.symm (sep_mono hm (fun _ h => ⟨v, h⟩) (fun _ h => h))
  have hfr : has (row b18 [.int .u32 ((64 * q + 8 * i + 1 + 3 : Nat) : Int), .slice FB (a :: consN i).length fk] 40 :: Γ8) (fun m => cellsAt m b18 0 [.int .u32 ((64 * q + 8 * i + 1 + 3 : Nat) : Int), .slice FB (a :: consN i).length fk]) := has_rows 0 rfl rfl
  have hR8 : Fcs RA R (row b18 [.int .u32 ((64 * q + 8 * i + 1 + 3 : Nat) : Int), .slice FB (a :: consN i).length fk] 40 :: Γ8) := ⟨fun m hm => hR.src m (hup _ m hm), fun f hf => ⟨fun m hm => (hR.ok f hf).1 m (hup _ m hm), (hR.ok f hf).2⟩, hR.few⟩
  have hF7 : has Γ7 (srcAt 1 FB (a :: consN i).length (u32s (a :: consN i))) := has_sublist (up_src _ _ _ _) hS67 (has_tls (has_tls hFF))
  have hC7 : Crs B L Γ7 := hC5.sub hS67
  have hC8 : Crs B L (row b18 [.int .u32 ((64 * q + 8 * i + 1 + 3 : Nat) : Int), .slice FB (a :: consN i).length fk] 40 :: Γ8) := ⟨fun m hm => hC7.src m (hup _ m hm), fun x hx => by obtain ⟨_, _, _, _, rfl, _⟩ := hL x hx; exact ⟨⟨has_srcnil _ _, Nat.le_refl _⟩, has_srcnil _ _, Nat.le_refl _, fun x hx => by cases hx⟩, hC7.few, hC7.len⟩
  refine m_run ?_
  (apply TL.callV; exact rfl; exact callB_of (by kernel_rfl); exact rfl; exact fun _ h => h)
  exact has13_t RA Rk R ⟨64 * q + 8 * i + 1 + 3, FB, fk, a :: consN i⟩ _ hR8 ⟨fun m hm => hF7 m (hup _ m hm), hfk⟩ (by omega)
  rintro _ _ ⟨rfl, rfl⟩
  refine m_run ?_
  (apply TL.callV; exact rfl; exact callB_of (by kernel_rfl); exact rfl; exact fun _ h => h)
  exact ofR_t B k L a q i _ hC8 (by omega)
  rintro _ _ ⟨O, B27, k27, Γ9, hO, hOn, hS9, rfl, rfl⟩
  have hthere : decide (pf ⟨64 * q + 8 * i + 1 + 3, FB, fk, a :: consN i⟩ ∈ R.map pf) = decide (b ∈ O) := decide_eq_decide.2 ((hRm _).trans (said_of hL hq24 hn3 hO))
  have u27 : has (own 23 1 (.slice B27 O.length k27) O.length (u32s O) :: Γ9) (srcAt 1 B27 O.length (u32s O)) := has_at (up_src _ _ _ _) 0 rfl fun _ h => own_src h
  have hC9 := (hC8.sub hS9).tl (H := own 23 1 (.slice B27 O.length k27) O.length (u32s O))
  have hS10 : Γ0.Sublist (own 23 1 (.slice B27 O.length k27) O.length (u32s O) :: Γ9) := .cons _ ((((hS0.trans hS4).trans hS8).trans (.cons _ (.refl _))).trans hS9)
  generalize own 23 1 (.slice B27 O.length k27) O.length (u32s O) :: Γ9 = Γ10 at *
  rw [hthere]
  clear hC8 hC7 hF7 hR8 hfr hup hR hRm hthere hS9 hS8 hS67 hS4 hS0 hb17 hTT hFF hC5 hT5 hb20 hPo hP
  refine m_run ?_
  apply TK.iter (fun j ρ' Γ' => ∃ m : Nat, m + j = O.length ∧ lk ρ' 11 = .int .i64 (i : Int) ∧ lk ρ' 12 = .int .u32 (q : Int) ∧ lk ρ' 13 = .slice B L.length k ∧ lk ρ' 15 = .int .u32 (a : Int) ∧ lk ρ' 16 = .int .u32 (b : Int) ∧ lk ρ' 26 = .bool (decide (b ∈ O)) ∧ lk ρ' 27 = .slice B27 O.length k27 ∧ lk ρ' 28 = .bool (decide (b ∈ O.take m)) ∧ lk ρ' 29 = .int .i64 (m : Int) ∧ Γ' = Γ10) O.length
  · exact ⟨0, Nat.zero_add _, rfl, rfl, rfl, rfl, rfl, rfl, rfl, rfl, rfl, rfl⟩
  rintro j IH ρ' Γ10 ⟨m, hmj, e11, e12, e13, e15, e16, e26, e27, e28, e29, rfl⟩
  refine TK.know9 e11 e12 e13 e15 e16 e26 e27 e28 e29 ?_
  by_cases hm : m < O.length
  · obtain ⟨v, hv⟩ : ∃ v, O[m]? = some v := ⟨O[m], List.getElem?_eq_getElem hm⟩
    have htk : decide (b ∈ O.take (m + 1)) = (decide (b ∈ O.take m) || decide (v = b)) := by
      rw [List.take_add_one, hv, Bool.eq_iff_iff]
      simp only [Option.toList_some, List.mem_append, List.mem_singleton, decide_eq_true_iff, Bool.or_eq_true]
      exact or_congr_right ⟨Eq.symm, Eq.symm⟩
    refine TK.mem fun m0 hm0 => ?_
    obtain ⟨g, u, rfl⟩ := src_some (u27 m0 hm0) (by rw [u32s_len]; omega)
    clear hm0 m0
    have hcv := has_u32 u27 hv
    generalize decide (b ∈ O.take m) = on at *
    cases on with
    | true =>
      refine m_run ?_
      exact IH (j - 1) _ _ (by omega) ⟨m + 1, by omega, rfl, rfl, rfl, rfl, rfl, rfl, rfl, by rw [htk]; rfl, congrArg (Value.int .i64) (i64_succ m (by omega)), rfl⟩
    | false =>
      refine m_run ?_
      refine IH (j - 1) _ _ (by omega) ⟨m + 1, by omega, rfl, rfl, rfl, rfl, rfl, rfl, rfl, ?_, congrArg (Value.int .i64) (i64_succ m (by omega)), rfl⟩
      rw [htk]
      exact congrArg Value.bool (by rw [Bool.false_or, Bool.eq_iff_iff, beq_iff_eq, decide_eq_true_iff]; omega)
  obtain rfl : m = O.length := by omega
  clear IH
  rw [List.take_length] at e28
  refine TK.know (t := 28) (v := .bool (decide (b ∈ O))) (by rw [List.take_length]; rfl) ?_
  refine m_run ?_
  (apply TL.callV; exact rfl; exact callB_of (by kernel_rfl); exact rfl; exact fun _ h => h)
  exact chainR_t B k L a q i b _ hC9 (by omega)
  rintro _ Γ11 ⟨f, rfl, hS11, hfo, hf⟩
  have his := chain_is b hO
  rw [← hf, Option.isSome_map] at his
  obtain ⟨WA, wc, hwv, hws⟩ := way_src hfo
  rw [hwv]
  have hwl : ((f.map (·.w)).getD []).length ≤ 3 := by rw [hf]; exact chainS_len
  generalize (f.map (·.w)).getD [] = W at *
  rw [← his]
  generalize f.isSome = fb at *
  cases fb
  · refine m_run ?_
    (apply TL.callV; exact rfl; exact callB_of (by kernel_rfl); exact rfl; exact fun _ h => h)
    exact works_t _
    rintro _ Γ12 ⟨rfl, hS12⟩
    refine m_run ?_
    (apply TK.retS1; exact rfl; exact rfl; (exact m_val))
    exact ⟨_, rfl, rfl, rfl⟩
    exact (hS10.trans hS11).trans hS12
  · refine m_run ?_
    (apply TL.callV; exact rfl; exact callB_of (by kernel_rfl); exact rfl; exact fun _ h => h)
    exact works_t _
    rintro _ Γ12 ⟨rfl, hS12⟩
    refine m_run ?_
    (apply TK.retS1; exact rfl; exact rfl; (exact m_val))
    exact ⟨_, rfl, rfl, rfl⟩
    exact (hS10.trans hS11).trans hS12
end Go.Proofs.YthbcfamfaicneaaGreat.E
