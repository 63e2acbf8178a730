/- Chain and Cuts, as the program tells them, walked. -/
import Derived.Test.YthbcfamfaicneaaYn
namespace Go.Proofs.Ythbcfamfaicneaa.E
open Go Go.RowKit Go.Proofs
attribute [local irreducible] TK TL TQ TA TB Fn PV
def fnd (L : List Wy) (x : Nat) : Option Wy := L.find? fun s => decide (s.pos = x)
def wayV : Option Wy → Value
  | none => .slice none 0 0
  | some s => .slice s.A s.w.length s.c
theorem wayV_one (f : Option Wy) : (wayV f).oneCell' = true := by cases f <;> rfl
def TCh (bx bi bw x : Nat) (L : List Wy) : HP := sep (row bx [.int .u32 (x : Int)] 31) (sep (row bi [.bool (fnd L x).isSome] 4) (row bw [wayV (fnd L x)] 54))
theorem all3 {H K M : HP} {Γ : List HP} {m : Mem} (h : all (sep H (sep K M) :: Γ) m) : all (H :: K :: M :: Γ) m := sep_mono (sep_assoc h) (fun _ => id) (fun _ h => sep_assoc h)
theorem all3' {H K M : HP} {Γ : List HP} {m : Mem} (h : all (H :: K :: M :: Γ) m) : all (sep H (sep K M) :: Γ) m := sep_assoc' (sep_mono h (fun _ => id) (fun _ h => sep_assoc' h))
theorem fnd_snoc (L : List Wy) (s : Wy) (x : Nat) : fnd (L ++ [s]) x = if (fnd L x).isSome then fnd L x else if s.pos = x then some s else none := by
  unfold fnd
  rw [List.find?_append]
  cases L.find? fun s => decide (s.pos = x) with
  | some y => rfl
  | none =>
    by_cases hs : s.pos = x <;> simp [hs]
set_option maxRecDepth 100000 in
theorem chainc_t (bx bi bw x : Nat) (L : List Wy) (s : Wy) (Γ : List HP) :
    FnV Try.prog 52 [.agg (spotL (s.pos, s.left)).toArray, .slice s.A s.w.length s.c, .pointer (some ⟨bx, 0, none⟩), .pointer (some ⟨bi, 0, none⟩), .pointer (some ⟨bw, 0, none⟩)] (TCh bx bi bw x L :: Γ) fun v Γ' => v = .tuple #[] ∧ Γ' = TCh bx bi bw x (L ++ [s]) :: Γ := by
  show Fn _ _ _ _ _
  refine Fn.imp (Δ := row bx [.int .u32 (x : Int)] 31 :: row bi [.bool (fnd L x).isSome] 4 :: row bw [wayV (fnd L x)] 54 :: Γ) ?_ (fun m hm => all3 hm)
  unfold TCh
  rw [fnd_snoc]
  refine Fn.enter Try.func52 rfl rfl rfl fun E => ?_
  generalize hf : fnd L x = f
  refine m_run ?_
  (apply TL.box; exact rfl; exact rfl; (exact m_lst))
  intro b5
  refine TL.imp (Δ := row b5 [.int .u32 (s.pos : Int), .int .i64 (s.left : Int)] 91 :: row bx [.int .u32 (x : Int)] 31 :: row bi [.bool f.isSome] 4 :: row bw [wayV f] 54 :: Γ) (fun _ h => h) ?_
  by_cases hx : s.pos = x
  · cases f with
    | some y =>
      refine m_run ?_
      refine TK.drop ?_
      refine TK.imp (fun m hm => all3' hm) ?_
      exact TK.over0 rfl rfl ⟨_, rfl, rfl, rfl⟩
    | none =>
      refine m_run ?_
      refine TK.drop ?_
      refine TK.imp (fun m hm => all3' hm) ?_
      refine TK.over0 rfl rfl ⟨_, rfl, rfl, ?_⟩
      simp [hx, wayV]
  · refine m_run ?_
    refine TK.drop ?_
    refine TK.imp (fun m hm => all3' hm) ?_
    refine TK.over0 rfl rfl ⟨_, rfl, rfl, ?_⟩
    cases f <;> simp [hx]
/-- The least chain, without a link. -/
def chainS (l : List Cr) (who p : Nat) (args : Int) (x : Nat) (skip : Int) : Option (List Nat) := if (predS p args true 0).2 then ((Rch.allC (unskip (linksOf l p args) skip) (nxL l) (who, 3) 4).find? fun s => decide (s.1.1 = x)).map (·.2) else none
set_option maxRecDepth 100000 in
set_option maxHeartbeats 4000000 in
theorem chain_t (A B : Option Addr) (c k : Nat) (l : List Cr) (who p : Nat) (args : Int) (x : Nat) (skip : Int) (Γ : List HP) (h : Crs A l Γ) (hK : has Γ (srcAt 1 B (linksOf l p args).length (ints (linksOf l p args)))) (hl : l.length ≤ 50) :
    FnV Try.prog 35 [.agg #[.slice A l.length c, .slice B (linksOf l p args).length k, .bool (predS p args true 0).2], .int .u32 (who : Int), .int .u32 (x : Int), .int .i64 skip] Γ fun v Γ' => ∃ f : Option Wy, v = .tuple #[wayV f, .bool f.isSome] ∧ Γ.Sublist Γ' ∧ (∀ s, f = some s → s.ok Γ') ∧ f.map (·.w) = chainS l who p args x skip := by
  refine Fn.enter Try.func35 rfl rfl rfl fun E => ?_
  have hKl : (linksOf l p args).length ≤ 50 := Nat.le_trans (linksOf_len l p args) hl
  have hKd : ∀ i ∈ linksOf l p args, ∃ x, l[i]? = some x ∧ 0 ≤ x.dep ∧ x.dep ≤ 3 := fun i hi => by
    obtain ⟨x, hx, hb⟩ := linksOf_mem.1 hi
    exact ⟨x, hx, linkB_dep hb⟩
  generalize hKK : linksOf l p args = K at *
  refine m_run ?_
  (apply TL.box; exact rfl; exact rfl; (exact m_lst))
  intro b4
  refine m_run ?_
  (apply TL.box; exact rfl; exact rfl; (exact m_lst))
  intro b6
  refine m_run ?_
  (apply TL.alloc; exact rfl; exact tb rfl; exact (rfl : _ = [_]))
  intro b8
  refine m_run ?_
  (apply TL.alloc; exact rfl; exact tb rfl; exact (rfl : _ = [_]))
  intro b9
  refine TL.imp (Δ := row b9 [.bool false] 4 :: row b8 [.slice none 0 0] 54 :: row b6 [.int .u32 (x : Int)] 31 :: row b4 [.slice A l.length c, .slice B K.length k, .bool (predS p args true 0).2] 82 :: Γ) (fun _ h => h) ?_
  have hb4 : has (row b9 [.bool false] 4 :: row b8 [.slice none 0 0] 54 :: row b6 [.int .u32 (x : Int)] 31 :: row b4 [.slice A l.length c, .slice B K.length k, .bool (predS p args true 0).2] 82 :: Γ) (fun m => cellsAt m b4 0 [.slice A l.length c, .slice B K.length k, .bool (predS p args true 0).2]) := has_rows 3 rfl rfl
  refine m_run ?_
  (apply TL.pv; exact rfl; (apply PV.makeFunc; exact rfl; exact rfl))
  refine m_run ?_
  (apply TL.callV (Δ := TCh b6 b9 b8 x [] :: row b4 [.slice A l.length c, .slice B K.length k, .bool (predS p args true 0).2] 82 :: Γ); exact rfl; exact callB_of (by kernel_rfl); exact rfl; exact fun m hm => all3' (all_perm (List.perm_middle (a := row b6 [.int .u32 (x : Int)] 31) (l₁ := [row b9 [.bool false] 4, row b8 [.slice none 0 0] 54]) (l₂ := row b4 [.slice A l.length c, .slice B K.length k, .bool (predS p args true 0).2] 82 :: Γ)) hm))
  exact rounds_t A B c k l K (predS p args true 0).2 who skip 52 [.pointer (some ⟨b6, 0, none⟩), .pointer (some ⟨b9, 0, none⟩), .pointer (some ⟨b8, 0, none⟩)] (TCh b6 b9 b8 x) (row b4 [.slice A l.length c, .slice B K.length k, .bool (predS p args true 0).2] 82 :: Γ) (Crs.tl h) (has_tls hK) (by omega) hKd (callB_of (by kernel_rfl)) (fun L s Γ' _ _ _ => chainc_t b6 b9 b8 x L s Γ')
  rintro _ _ ⟨rfl, L, Γ2, rfl, hsub, hok, hL⟩
  refine TL.nil ?_
  refine TK.imp (Δ := row b6 [.int .u32 (x : Int)] 31 :: row b9 [.bool (fnd L x).isSome] 4 :: row b8 [wayV (fnd L x)] 54 :: Γ2) (fun m hm => all3 hm) ?_
  have hfw : (fnd L x).map (·.w) = chainS l who p args x skip := by
    have h1 : (fnd L x).map (·.w) = ((L.map pureY).find? fun s => decide (s.1.1 = x)).map (·.2) := by
      unfold fnd
      rw [List.find?_map]
      show _ = ((L.find? fun s => decide (s.pos = x)).map pureY).map (·.2)
      cases L.find? fun s => decide (s.pos = x) <;> rfl
    rw [h1, hL]
    unfold chainS
    rw [hKK]
    cases (predS p args true 0).2 with
    | false => rfl
    | true =>
      rw [if_pos rfl, if_pos rfl]
      have := Rch.fresh_find (fun t => decide (t.1 = x)) (Rch.allC (unskip K skip) (nxL l) (who, 3) 4) [] (by simp)
      exact congrArg (Option.map (·.2)) this
  have hfo : ∀ s, fnd L x = some s → s.ok Γ2 := fun s hs => hok s (List.mem_of_find?_eq_some hs)
  generalize fnd L x = f at *
  have hone := wayV_one f
  generalize hw : wayV f = W at *
  refine m_run ?_
  refine TK.drawS mixed rfl ?_
  refine m_take (At.mk : At 0) ?_; refine m_take (At.mk : At 1) ?_
  (apply TA.one 2; kernel_rfl; exact rfl)
  (apply TL.storeR 2; exact rfl; exact rfl; exact rfl; exact hone; exact tb rfl; exact rfl; exact rfl; exact rfl; exact (rfl : _ = _ :: _ :: _ :: _))
  refine TL.back (by (focus ((repeat (first | assumption | exact Ent.refl _ | apply Ent.tail)); done))) ?_
  (apply TA.one 3; kernel_rfl; exact rfl)
  (apply TL.storeR 1; exact rfl; exact rfl; (exact m_val); exact rfl; exact tb rfl; exact rfl; exact rfl; exact rfl; exact (rfl : _ = _ :: _ :: _ :: _))
  refine TL.back (by (focus ((repeat (first | assumption | exact Ent.refl _ | apply Ent.tail)); done))) ?_
  refine TA.done (by kernel_rfl) ?_
  refine m_run ?_
  refine TK.rets (rvs := [.cell 8 54, .cell 9 4]) (vs := [W, .bool f.isSome]) rfl rfl (.cons (.cell rfl (tb rfl) rfl (has_row 2 rfl rfl)) (.cons (.cell rfl (tb rfl) rfl (has_row 1 rfl rfl)) .nil)) ⟨_, rfl, f, by rw [hw]; rfl, .cons _ (.cons _ (.cons _ ((List.sublist_cons_self _ _).trans hsub))), fun s hs => Wy.ok_tl (Wy.ok_tl (Wy.ok_tl (hfo s hs))), hfw⟩
set_option maxRecDepth 100000 in
theorem chainR_t (A : Option Addr) (c : Nat) (l : List Cr) (who p : Nat) (args : Int) (x : Nat) (Γ : List HP) (h : Crs A l Γ) (hl : l.length ≤ 50) :
    FnV Try.prog 15 [.slice A l.length c, .int .u32 (who : Int), .int .u32 (p : Int), .int .i64 args, .int .u32 (x : Int)] Γ fun v Γ' => ∃ f : Option Wy, v = .tuple #[wayV f, .bool f.isSome] ∧ Γ.Sublist Γ' ∧ (∀ s, f = some s → s.ok Γ') ∧ f.map (·.w) = chainS l who p args x (-1) := by
  refine Fn.enter Try.func15 rfl rfl rfl fun E => ?_
  refine m_run ?_
  (apply TL.callV; exact rfl; exact callB_of (by kernel_rfl); exact rfl; exact fun _ h => h)
  exact of_t A c l p args _ h
  rintro _ _ ⟨B, k, hk, rfl, rfl⟩
  refine m_run ?_
  (apply TL.callV; exact rfl; exact callB_of (by kernel_rfl); exact rfl; exact fun _ h => h)
  exact chain_t A B c k l who p args x (-1) _ (Crs.tl h) (has_at (up_src _ _ _ _) 0 rfl fun _ h => own_src h) hl
  rintro _ Γ3 ⟨f, rfl, hsub, hok, hf⟩
  generalize hw : wayV f = W
  refine m_run ?_
  (apply TK.ret2; exact rfl; exact rfl; exact (rfl : _ = W); exact (rfl : _ = Value.bool f.isSome))
  exact ⟨_, rfl, f, by rw [hw], (List.sublist_cons_self _ _).trans hsub, hok, hf⟩
theorem sub_perm {α : Type} {l m : List α} (h : l.Sublist m) : ∃ r, m.Perm (l ++ r) := by
  induction h with
  | slnil => exact ⟨[], .refl _⟩
  | cons a _ ih =>
    obtain ⟨r, hr⟩ := ih
    exact ⟨a :: r, (hr.cons a).trans List.perm_middle.symm⟩
  | cons_cons a _ ih =>
    obtain ⟨r, hr⟩ := ih
    exact ⟨r, hr.cons a⟩
theorem Atm.ok_sub {a : Atm} {Γ Δ : List HP} (hs : Γ.Sublist Δ) (h : a.ok Γ) : a.ok Δ := ⟨has_sublist (up_src _ _ _ _) hs h.1, h.2⟩
theorem Cr.ok_sub {c : Cr} {Γ Δ : List HP} (hs : Γ.Sublist Δ) (h : c.ok Γ) : c.ok Δ := ⟨Atm.ok_sub hs h.1, has_sublist (up_src _ _ _ _) hs h.2.1, h.2.2.1, fun x hx => Atm.ok_sub hs (h.2.2.2 x hx)⟩
theorem Crs.sub {A : Option Addr} {l : List Cr} {Γ Δ : List HP} (hs : Γ.Sublist Δ) (h : Crs A l Γ) : Crs A l Δ := ⟨has_sublist (up_src _ _ _ _) hs h.src, fun x hx => Cr.ok_sub hs (h.ok x hx), h.few, h.len⟩
theorem chainS_len {l : List Cr} {who p : Nat} {args : Int} {x : Nat} {skip : Int} : ((chainS l who p args x skip).getD []).length ≤ 3 := by
  unfold chainS
  split
  · cases hf : (Rch.allC (unskip (linksOf l p args) skip) (nxL l) (who, 3) 4).find? fun s => decide (s.1.1 = x) with
    | none => exact Nat.zero_le _
    | some s =>
      obtain ⟨k, hk, hm⟩ := (Rch.mem_allC _ _).1 (List.mem_of_find?_eq_some hf)
      have := ((Rch.mem_chs _ _ _ k s.1 s.2).1 hm).1
      show s.2.length ≤ 3
      omega
  · exact Nat.zero_le _
theorem nums_ints (D : List Nat) : nums .i64 (D.map fun n : Nat => (n : Int)) = ints D := by simp [nums, Function.comp_def]
theorem sortI_t (A : Option Addr) (c : Nat) (D : List Nat) (Γ : List HP) (hn : D.length ≤ 1000000000) :
    FnV Try.prog 41 [.slice A D.length c] (own 3 1 (.slice A D.length c) D.length (ints D) :: Γ)
      fun v Γ' => v = .tuple #[] ∧ ∃ D', D'.Perm D ∧ D'.Pairwise (· ≤ ·) ∧ Γ' = own 3 1 (.slice A D.length c) D.length (ints D') :: Γ := by
  have h := SI.sort_t A c (D.map fun n : Nat => (n : Int)) Γ (by rw [List.length_map]; exact hn)
  rw [nums_ints, List.length_map] at h
  refine Fn.mono h fun e Γ' => ?_
  rintro ⟨v, rfl, rfl, D', hp, hs, rfl⟩
  have hn : ∀ x ∈ D', 0 ≤ x := fun x hx => by
    obtain ⟨n, _, rfl⟩ := List.mem_map.1 (hp.mem_iff.1 hx)
    omega
  have hback : (D'.map Int.toNat).map (fun n : Nat => (n : Int)) = D' := by
    rw [List.map_map]
    exact (List.map_congr_left fun x hx => Int.toNat_of_nonneg (hn x hx)).trans (List.map_id _)
  refine ⟨_, rfl, rfl, D'.map Int.toNat, ?_, ?_, by rw [← nums_ints, hback]⟩
  · have := hp.map Int.toNat
    rw [List.map_map] at this
    exact this.trans (.of_eq ((List.map_congr_left fun x _ => rfl).trans (List.map_id _)))
  · rw [List.pairwise_map]
    exact hs.imp fun h => Int.toNat_le_toNat h
/-- The links without which one is not reached, as they lie on the way. -/
def cutsL (l : List Cr) (who p : Nat) (args : Int) (x : Nat) : List Nat := ((chainS l who p args x (-1)).getD []).filter fun i : Nat => (chainS l who p args x i).isNone
set_option maxRecDepth 100000 in
set_option maxHeartbeats 4000000 in
theorem cutsR_t (A : Option Addr) (c : Nat) (l : List Cr) (who p : Nat) (args : Int) (x : Nat) (Γ : List HP) (h : Crs A l Γ) (hl : l.length ≤ 50) :
    FnV Try.prog 21 [.slice A l.length c, .int .u32 (who : Int), .int .u32 (p : Int), .int .i64 args, .int .u32 (x : Int)] Γ fun v Γ' => ∃ (O : List Nat) (B : Option Addr) (k : Nat) (Γ2 : List HP), O.Perm (cutsL l who p args x) ∧ O.Pairwise (· ≤ ·) ∧ Γ.Sublist Γ2 ∧ v = .slice B O.length k ∧ Γ' = own 3 1 (.slice B O.length k) O.length (ints O) :: Γ2 := by
  refine Fn.enter Try.func21 rfl rfl rfl fun E => ?_
  refine m_run ?_
  (apply TL.callV; exact rfl; exact callB_of (by kernel_rfl); exact rfl; exact fun _ h => h)
  exact of_t A c l p args _ h
  rintro _ _ ⟨B, k, hk, rfl, rfl⟩
  (apply TL.alloc; exact rfl; exact tb rfl; exact (rfl : _ = [_, _, _]))
  intro b11
  refine m_rrun ?_
  refine TL.nil ?_
  refine TK.imp (Δ := row b11 [.slice A l.length c, .slice B (linksOf l p args).length k, .bool (predS p args true 0).2] 82 :: own 3 1 (.slice B (linksOf l p args).length k) (linksOf l p args).length (ints (linksOf l p args)) :: Γ) (fun _ h => h) ?_
  have hb11 : has (row b11 [.slice A l.length c, .slice B (linksOf l p args).length k, .bool (predS p args true 0).2] 82 :: own 3 1 (.slice B (linksOf l p args).length k) (linksOf l p args).length (ints (linksOf l p args)) :: Γ) (fun m => cellsAt m b11 0 [.slice A l.length c, .slice B (linksOf l p args).length k, .bool (predS p args true 0).2]) := has_rows 0 rfl rfl
  refine m_run ?_
  (apply TL.callV; exact rfl; exact callB_of (by kernel_rfl); exact rfl; exact fun _ h => h)
  exact chain_t A B c k l who p args x (-1) _ (Crs.tl (Crs.tl h)) (has_at (up_src _ _ _ _) 1 rfl fun _ h => own_src h) hl
  rintro _ Γ3 ⟨f, rfl, hsub, hok, hf⟩
  have hb3 : has Γ3 (fun m => cellsAt m b11 0 [.slice A l.length c, .slice B (linksOf l p args).length k, .bool (predS p args true 0).2]) := has_sublist (up_cells _ _ _) hsub hb11
  have hK3 : has Γ3 (srcAt 1 B (linksOf l p args).length (ints (linksOf l p args))) := has_sublist (up_src _ _ _ _) hsub (has_at (up_src _ _ _ _) 1 rfl fun _ h => own_src h)
  have hG3 : Γ.Sublist Γ3 := ((List.sublist_cons_self _ _).trans (List.sublist_cons_self _ _)).trans hsub
  clear hb11
  have hwl := @chainS_len l who p args x (-1)
  obtain ⟨w, hwd⟩ : ∃ w, w = (chainS l who p args x (-1)).getD [] := ⟨_, rfl⟩
  rw [← hwd] at hwl
  obtain ⟨WA, Wc, hwv, hws⟩ : ∃ WA Wc, wayV f = .slice WA w.length Wc ∧ has Γ3 (srcAt 1 WA w.length (ints w)) := by
    rw [hwd, ← hf]
    cases f with
    | none => exact ⟨none, 0, rfl, has_srcnil _ _⟩
    | some s => exact ⟨s.A, s.c, rfl, (hok s rfl).1⟩
  rw [hwv]
  unfold cutsL
  rw [← hwd]
  refine m_run ?_
  refine TK.free (H := own 3 1 (.slice none 0 0) 0 []) (fun m hm => own_nil _ _ hm) ?_
  apply TK.iter (fun j ρ' Γ' => ∃ (a : Nat) (O : List Nat) (B2 : Option Addr) (k2 : Nat) (Γ4 : List HP), a + j = w.length ∧ O = (w.take a).filter (fun i : Nat => (chainS l who p args x i).isNone) ∧ O.length ≤ a ∧ Γ3.Sublist Γ4 ∧ lk ρ' 1 = .int .u32 (who : Int) ∧ lk ρ' 4 = .int .u32 (x : Int) ∧ lk ρ' 11 = .pointer (some ⟨b11, 0, none⟩) ∧ lk ρ' 14 = .slice B2 O.length k2 ∧ lk ρ' 30 = .slice WA w.length Wc ∧ lk ρ' 31 = .int .i64 (w.length : Int) ∧ lk ρ' 32 = .int .i64 (a : Int) ∧ Γ' = own 3 1 (.slice B2 O.length k2) O.length (ints O) :: Γ4) w.length
  · exact ⟨0, [], none, 0, Γ3, Nat.zero_add _, rfl, Nat.le_refl _, .refl _, rfl, rfl, rfl, rfl, rfl, rfl, rfl, rfl⟩
  rintro j IH ρ' _ ⟨a, O, B2, k2, Γ4, haj, hO, hOl, hs4, e1, e4, e11, e14, e30, e31, e32, rfl⟩
  refine TK.know7 e1 e4 e11 e14 e30 e31 e32 ?_
  by_cases ha : a < w.length
  · obtain ⟨i, hi⟩ : ∃ i, w[a]? = some i := ⟨w[a], List.getElem?_eq_getElem ha⟩
    have hw4 : has Γ4 (srcAt 1 WA w.length (ints w)) := has_sublist (up_src _ _ _ _) hs4 hws
    have hb4 : has Γ4 (fun m => cellsAt m b11 0 [.slice A l.length c, .slice B (linksOf l p args).length k, .bool (predS p args true 0).2]) := has_sublist (up_cells _ _ _) hs4 hb3
    have hK4 : has Γ4 (srcAt 1 B (linksOf l p args).length (ints (linksOf l p args))) := has_sublist (up_src _ _ _ _) hs4 hK3
    refine TK.mem fun m0 hm0 => ?_
    obtain ⟨g, u, rfl⟩ := src_some ((has_tls hw4 : has (_ :: Γ4) _) m0 hm0) (by rw [ints_len]; omega)
    clear hm0 m0
    have hcell := has_ints hw4 hi
    refine m_run ?_
    (apply TL.callV; exact rfl; exact callB_of (by kernel_rfl); exact rfl; exact fun _ h => h)
    exact chain_t A B c k l who p args x (i : Int) _ (Crs.tl (Crs.sub (hG3.trans hs4) h)) (has_tls hK4) hl
    rintro _ Γ5 ⟨f2, rfl, hsub5, hok5, hf5⟩
    obtain ⟨R, hR⟩ := sub_perm hsub5
    refine TL.imp (Δ := own 3 1 (.slice B2 O.length k2) O.length (ints O) :: (Γ4 ++ R)) (fun m hm => all_perm hR hm) ?_
    have hs5 : Γ3.Sublist (Γ4 ++ R) := hs4.trans (List.sublist_append_left _ _)
    have hone := wayV_one f2
    generalize wayV f2 = W2 at *
    have hisn : (chainS l who p args x (i : Int)).isNone = !f2.isSome := by rw [← hf5]; cases f2 <;> rfl
    have hsn : (w.take (a + 1)).filter (fun i : Nat => (chainS l who p args x i).isNone) = O ++ (if f2.isSome then [] else [i]) := by
      rw [List.take_add_one, hi, List.filter_append, ← hO]
      congr 1
      simp only [Option.toList_some, List.filter_cons, List.filter_nil, hisn]
      cases f2 <;> rfl
    cases f2 with
    | some y =>
      refine m_run ?_
      exact IH (j - 1) _ _ (by omega) ⟨a + 1, O, B2, k2, Γ4 ++ R, by omega, by rw [hsn]; simp, by omega, hs5, rfl, rfl, rfl, rfl, rfl, rfl, congrArg (Value.int .i64) (i64_succ a (by omega)), rfl⟩
    | none =>
      refine m_run ?_
      (apply TL.buildSlice (l := ints [i]); exact rfl; exact tb rfl; exact rfl; exact tb rfl; exact rfl; exact rfl; exact rfl; exact rfl; exact rfl)
      intro b48
      refine m_run ?_
      (apply TL.append 1; exact rfl; exact rfl; exact tb rfl; exact rfl; exact tb rfl; exact rfl; exact rfl; exact rfl)
      · exact fun _ h => h
      · exact rfl
      · exact has_src_row 0 rfl rfl
      · exact ints_one [i]
      · show (O.length + 1) * 8 ≤ _; omega
      · show O.length + 1 ≤ maxLen; unfold maxLen; omega
      · exact fun _ => (rfl : _ = _ :: _ :: _)
      intro B3 k3 hk3
      rw [show ints O ++ ints [i] = ints (O ++ [i]) by simp, show O.length + 1 = (O ++ [i]).length by simp]
      refine m_run ?_
      refine TK.drop ?_
      exact IH (j - 1) _ _ (by omega) ⟨a + 1, O ++ [i], B3, k3, Γ4 ++ R, by omega, by rw [hsn]; simp, by simp; omega, hs5, rfl, rfl, rfl, rfl, rfl, rfl, congrArg (Value.int .i64) (i64_succ a (by omega)), rfl⟩
  obtain rfl : a = w.length := by omega
  rw [List.take_length] at hO
  refine m_run ?_
  (apply TL.callV (Δ := own 3 1 (.slice B2 O.length k2) O.length (ints O) :: Γ4); exact rfl; exact callB_of (by kernel_rfl); exact rfl; exact fun _ h => h)
  exact sortI_t B2 k2 O _ (by omega)
  rintro _ _ ⟨rfl, D2, hp2, hs2, rfl⟩
  rw [← hp2.length_eq]
  refine m_run ?_
  (apply TK.ret1; exact rfl; exact rfl; (exact m_val))
  exact ⟨_, rfl, D2, B2, k2, Γ4, by rw [← hO]; exact hp2, hs2, hG3.trans hs4, rfl, rfl⟩
end Go.Proofs.Ythbcfamfaicneaa.E
