/- Cuts, plainly; how credentials are read; the example; ReachPlays walked -/
import Derived.Test.YthbcfamfaicneaaYu
namespace Go.Proofs.Ythbcfamfaicneaa.E
open Go Go.RowKit Go.Proofs
section
/- Cuts, plainly: those of the way that cannot be left out are all that cannot. -/
theorem linksOf_up (l : List Cr) (p : Nat) (args : Int) : (linksOf l p args).Pairwise (· < ·) := by
  unfold linksOf
  refine List.Pairwise.sublist (List.filter_sublist.map _) ?_
  have h : l.zipIdx.map (·.2) = List.range' 0 l.length := List.zipIdx_map_snd 0 l
  rw [h]
  exact List.pairwise_lt_range'
theorem unskip_nat (K : List Nat) (v : Nat) : unskip K (v : Int) = K.filter (· ≠ v) := by
  unfold unskip
  refine List.filter_congr fun i _ => ?_
  by_cases h : i = v
  · simp [h]
  · have : (i : Int) ≠ (v : Int) := by omega
    simp [h, this]
def rnm (v i : Nat) : Nat := if i < v then i else i + 1
theorem get_erase (l : List Cr) (v i : Nat) : (l.eraseIdx v)[i]? = l[rnm v i]? := by
  rw [List.getElem?_eraseIdx]
  unfold rnm
  split <;> rfl
theorem links_erase (l : List Cr) (p : Nat) (args : Int) (v : Nat) : (linksOf (l.eraseIdx v) p args).map (rnm v) = (linksOf l p args).filter (· ≠ v) := by
  refine Rch.sorted_eq ?_ ((linksOf_up l p args).sublist List.filter_sublist) fun j => ?_
  · rw [List.pairwise_map]
    refine (linksOf_up (l.eraseIdx v) p args).imp fun h => ?_
    unfold rnm
    split <;> split <;> omega
  · rw [List.mem_map, List.mem_filter, linksOf_mem]
    constructor
    · rintro ⟨i, hi, rfl⟩
      obtain ⟨x, h1, h2⟩ := linksOf_mem.1 hi
      rw [get_erase] at h1
      refine ⟨⟨x, h1, h2⟩, ?_⟩
      unfold rnm
      split <;> simp <;> omega
    · rintro ⟨⟨x, h1, h2⟩, hne⟩
      have hne' : j ≠ v := by simpa using hne
      refine ⟨if j < v then j else j - 1, linksOf_mem.2 ⟨x, ?_, h2⟩, ?_⟩
      · rw [get_erase, ← h1]
        congr 1
        unfold rnm
        by_cases hj : j < v
        · simp [hj]
        · simp only [hj, if_false]; split <;> omega
      · unfold rnm
        by_cases hj : j < v
        · simp [hj]
        · simp only [hj, if_false]; split <;> omega
theorem chain_erase (l : List Cr) (who p : Nat) (args : Int) (x v : Nat) : (chainS (l.eraseIdx v) who p args x (-1)).isNone = (chainS l who p args x (v : Int)).isNone := by
  unfold chainS
  split
  · rw [unskip_no, unskip_nat]
    have h := Rch.find_sp (fun t => decide (t.1 = x)) (Rch.renum_all (K := (linksOf l p args).filter (· ≠ v)) (nx := nxL l) (K' := linksOf (l.eraseIdx v) p args) (nx' := nxL (l.eraseIdx v)) (rnm v) (links_erase l p args v) (fun s i => by unfold nxL; rw [get_erase]) (who, 3) 4)
    rw [Option.isNone_map, Option.isNone_map]
    have e : ∀ o : Option Rch.Stp, o.isNone = !o.isSome := fun o => by cases o <;> rfl
    rw [e, e]
    exact congrArg _ h
  · rfl
theorem cuts_eq {l : List Cr} {who p : Nat} {args : Int} {x : Nat} {O : List Nat} (hp : O.Perm (cutsL l who p args x)) (hs : O.Pairwise (· ≤ ·)) : O = if (chainS l who p args x (-1)).isSome then (List.range l.length).filter (lessB l who p args x) else [] := by
  unfold cutsL at hp
  cases hc : chainS l who p args x (-1) with
  | none =>
    rw [hc] at hp
    exact List.Perm.eq_nil hp
  | some w =>
    rw [hc] at hp
    rw [if_pos (show (some w).isSome = true from rfl)]
    simp only [Option.getD_some] at hp
    have hc0 := hc
    unfold chainS at hc
    split at hc
    · rename_i htk
      rw [unskip_no] at hc
      obtain ⟨⟨t, w'⟩, hf, rfl⟩ := Option.map_eq_some_iff.1 hc
      have hnd : w'.Nodup := Rch.least_nodup (nxL_law l) hf
      obtain ⟨hrun, _⟩ := Rch.find_first _ _ _ hf
      have hwk := Rch.way_mem hrun
      have hOn : O.Nodup := hp.nodup_iff.2 (hnd.sublist List.filter_sublist)
      refine Rch.sorted_eq ((List.pairwise_and_iff.2 ⟨hs, hOn⟩).imp fun ⟨a, b⟩ => Nat.lt_of_le_of_ne a b) ((List.pairwise_lt_range).sublist List.filter_sublist) fun v => ?_
      rw [hp.mem_iff, List.mem_filter, List.mem_filter, List.mem_range]
      unfold lessB
      rw [chain_erase]
      constructor
      · rintro ⟨h1, h2⟩
        obtain ⟨c, h3, _⟩ := linksOf_mem.1 (hwk v h1)
        exact ⟨(List.getElem?_eq_some_iff.1 h3).1, h2⟩
      · rintro ⟨_, h2⟩
        refine ⟨Classical.byContradiction fun hno => ?_, h2⟩
        have h4 := Rch.reach_less hf hno
        unfold chainS at h2
        rw [if_pos htk, unskip_nat, Option.isNone_map] at h2
        cases hq : (Rch.allC ((linksOf l p args).filter (· ≠ v)) (nxL l) (who, 3) 4).find? fun s => decide (s.1.1 = x) with
        | none => rw [hq] at h4; cases h4
        | some q => rw [hq] at h2; cases h2
    · cases hc
theorem of_one {l : List Cr} {who p : Nat} {args : Int} {O P : List Nat} (h : OfSpec l who p args O) (h2 : OfSpec l who p args P) : O = P := Rch.sorted_eq h.1 h2.1 fun v => by rw [h.2, h2.2]
end
section
/- How credentials are read. -/
attribute [local irreducible] TK TL TQ TA Fn PV
/-! ### how they are read -/
def rU32 : Rd Nat := rNat .u32 4294967295
theorem reads_u32 : Reads Try.prog 31 rU32 := reads_nat (tb rfl : TabOk Try.prog 31 _) rfl rfl rfl rfl
def rTm : Rd Tm := ⟨2, tmC, fun t _ => t.n ≤ 4294967295⟩
theorem reads_tm : Reads Try.prog 38 rTm :=
  have ht : TabOk Try.prog 38 _ := tb rfl
  ⟨by rw [ht.cellsOf]; rfl, fun _ => rfl, fun _ _ _ _ h => h, fun enc w fuel cs x h => by
    obtain ⟨v, h1, _⟩ := read_field ht rfl h (R := rBool) 0 _ rfl (reads_bool (tb rfl) rfl rfl)
    obtain ⟨n, h3, h4⟩ := read_field ht rfl h (R := rU32) 1 _ rfl reads_u32
    exact ⟨⟨v, n⟩, cut2 h1 h3 (trod_field ht rfl h).1 rfl, h4⟩⟩
theorem reads_tms : Reads Try.prog 39 (rSl rTm) := reads_sl reads_tm (tb rfl) rfl rfl
def atmAt (a : Atm) (m : Mem) : Prop := a.p ≤ 4294967295 ∧ a.l.length ≤ a.c ∧ srcAt 2 a.A a.l.length (tmsC a.l) m ∧ ∀ t ∈ a.l, t.n ≤ 4294967295
def rAtm : Rd Atm := ⟨2, Atm.cells, atmAt⟩
theorem reads_atm : Reads Try.prog 41 rAtm :=
  have ht : TabOk Try.prog 41 _ := tb rfl
  ⟨by rw [ht.cellsOf]; rfl, fun _ => rfl, fun a x y hxy h => ⟨h.1, h.2.1, up_src _ _ _ _ x y hxy h.2.2.1, h.2.2.2⟩, fun enc w fuel cs x h => by
    obtain ⟨p, h1, h2⟩ := read_field ht rfl h (R := rU32) 0 _ rfl reads_u32
    obtain ⟨s, h3, h4⟩ := read_field ht rfl h (R := rSl rTm) 1 _ rfl reads_tms
    exact ⟨⟨p, s.A, s.c, s.l⟩, cut2 h1 h3 (trod_field ht rfl h).1 rfl, h2, h4.1, h4.2.2.1, h4.2.2.2⟩⟩
theorem atm_exact {a : Atm} {W : World} (h : atmAt a (memOf W)) : a.ok [exact_ W] := ⟨has_exact h.2.2.1, h.2.1⟩
def syAt (y : Sy) (m : Mem) : Prop := y.w.n ≤ 4294967295 ∧ atmAt y.a m
def rSy : Rd Sy := ⟨5, Sy.cells, syAt⟩
theorem reads_sy : Reads Try.prog 43 rSy :=
  have ht : TabOk Try.prog 43 _ := tb rfl
  ⟨by rw [ht.cellsOf]; rfl, fun _ => rfl, fun a x y hxy h => ⟨h.1, reads_atm.up _ x y hxy h.2⟩, fun enc w fuel cs x h => by
    obtain ⟨v, h1, _⟩ := read_field ht rfl h (R := rBool) 0 _ rfl (reads_bool (tb rfl) rfl rfl)
    obtain ⟨t, h3, h4⟩ := read_field ht rfl h (R := rTm) 1 _ rfl reads_tm
    obtain ⟨a, h5, h6⟩ := read_field ht rfl h (R := rAtm) 2 _ rfl reads_atm
    exact ⟨⟨v, t, a⟩, cut3 h1 h3 h5 (trod_field ht rfl h).1 rfl, h4, h6⟩⟩
def rCd : Rd Cd := ⟨6, Cd.cells, fun x m => syAt x.y m⟩
theorem reads_cd : Reads Try.prog 97 rCd :=
  have ht : TabOk Try.prog 97 _ := tb rfl
  ⟨by rw [ht.cellsOf]; rfl, fun _ => rfl, fun a x y hxy h => reads_sy.up _ x y hxy h, fun enc w fuel cs x h => by
    obtain ⟨v, h1, _⟩ := read_field ht rfl h (R := rBool) 0 _ rfl (reads_bool (tb rfl) rfl rfl)
    obtain ⟨a, h3, h4⟩ := read_field ht rfl h (R := rSy) 1 _ rfl reads_sy
    exact ⟨⟨v, a⟩, cut2 h1 h3 (trod_field ht rfl h).1 rfl, h4⟩⟩
theorem reads_cds : Reads Try.prog 44 (rSl rCd) := reads_sl reads_cd (tb rfl) rfl rfl
def rlAt (c : Rl) (m : Mem) : Prop := syAt c.h m ∧ c.l.length ≤ c.c ∧ srcAt 6 c.A c.l.length (cdsC c.l) m ∧ ∀ x ∈ c.l, syAt x.y m
def rRl : Rd Rl := ⟨6, Rl.cells, rlAt⟩
theorem reads_rl : Reads Try.prog 46 rRl :=
  have ht : TabOk Try.prog 46 _ := tb rfl
  ⟨by rw [ht.cellsOf]; rfl, fun _ => rfl, fun a x y hxy h => ⟨reads_sy.up _ x y hxy h.1, h.2.1, up_src _ _ _ _ x y hxy h.2.2.1, fun z hz => reads_sy.up _ x y hxy (h.2.2.2 z hz)⟩, fun enc w fuel cs x h => by
    obtain ⟨a, h1, h2⟩ := read_field ht rfl h (R := rSy) 0 _ rfl reads_sy
    obtain ⟨s, h3, h4⟩ := read_field ht rfl h (R := rSl rCd) 1 _ rfl reads_cds
    exact ⟨⟨a, s.A, s.c, s.l⟩, cut2 h1 h3 (trod_field ht rfl h).1 rfl, h2, h4.1, h4.2.2.1, h4.2.2.2⟩⟩
theorem rl_exact {c : Rl} {W : World} (h : rlAt c (memOf W)) : c.ok [exact_ W] := ⟨atm_exact h.1.2, has_exact h.2.2.1, h.2.1, fun x hx => atm_exact (h.2.2.2 x hx).2⟩
theorem take_app {cs a b : List Value} {i j : Nat} (h1 : cs.take i = a) (h2 : (cs.drop i).take j = b) : cs.take (i + j) = a ++ b := by rw [List.take_add, h1, h2]
theorem take_all {cs a : List Value} {i n : Nat} (h : cs.take i = a) (hl : cs.length = n) (hn : n = i) : cs = a := by
  rw [← h, List.take_of_length_le (by omega)]
def crAt (c : Cr) (m : Mem) : Prop := rlAt c.r m
def rCr : Rd Cr := ⟨15, Cr.cells, crAt⟩
theorem reads_cr : Reads Try.prog 48 rCr :=
  have ht : TabOk Try.prog 48 _ := tb rfl
  ⟨by rw [ht.cellsOf]; rfl, fun _ => rfl, fun a x y hxy h => reads_rl.up _ x y hxy h, fun enc w fuel cs x h => by
    obtain ⟨a0, h0, _⟩ := read_field ht rfl h (R := rU32) 0 _ rfl reads_u32
    obtain ⟨a1, h1, _⟩ := read_field ht rfl h (R := rNat .u64 18446744073709551615) 1 _ rfl (reads_nat (tb rfl : TabOk Try.prog 36 _) rfl rfl rfl rfl)
    obtain ⟨a2, h2, _⟩ := read_field ht rfl h (R := rNat .u64 18446744073709551615) 2 _ rfl (reads_nat (tb rfl : TabOk Try.prog 36 _) rfl rfl rfl rfl)
    obtain ⟨a3, h3, _⟩ := read_field ht rfl h (R := rNat .u64 18446744073709551615) 3 _ rfl (reads_nat (tb rfl : TabOk Try.prog 36 _) rfl rfl rfl rfl)
    obtain ⟨a4, h4, _⟩ := read_field ht rfl h (R := rNat .u8 255) 4 _ rfl (reads_nat (tb rfl : TabOk Try.prog 5 _) rfl rfl rfl rfl)
    obtain ⟨a5, h5, hr⟩ := read_field ht rfl h (R := rRl) 5 _ rfl reads_rl
    obtain ⟨a6, h6, _⟩ := read_field ht rfl h (R := rU32) 6 _ rfl reads_u32
    obtain ⟨a7, h7, _⟩ := read_field ht rfl h (R := rInt .i64) 7 _ rfl (reads_int (tb rfl : TabOk Try.prog 3 _) rfl rfl)
    obtain ⟨a8, h8, _⟩ := read_field ht rfl h (R := rU32) 8 _ rfl reads_u32
    obtain ⟨a9, h9, _⟩ := read_field ht rfl h (R := rInt .i64) 9 _ rfl (reads_int (tb rfl : TabOk Try.prog 3 _) rfl rfl)
    refine ⟨⟨a0, a1, a2, a3, a4, a5, a6, a7, a8, a9⟩, ?_, hr⟩
    have k0 : cs.take 1 = [.int .u32 (a0 : Int)] := h0
    have g1 : (cs.drop 1).take 1 = [.int .u64 (a1 : Int)] := h1
    have k1 : cs.take 2 = [.int .u32 (a0 : Int)] ++ [.int .u64 (a1 : Int)] := take_app k0 g1
    have g2 : (cs.drop 2).take 1 = [.int .u64 (a2 : Int)] := h2
    have k2 : cs.take 3 = ([.int .u32 (a0 : Int)] ++ [.int .u64 (a1 : Int)]) ++ [.int .u64 (a2 : Int)] := take_app k1 g2
    have g3 : (cs.drop 3).take 1 = [.int .u64 (a3 : Int)] := h3
    have k3 : cs.take 4 = (([.int .u32 (a0 : Int)] ++ [.int .u64 (a1 : Int)]) ++ [.int .u64 (a2 : Int)]) ++ [.int .u64 (a3 : Int)] := take_app k2 g3
    have g4 : (cs.drop 4).take 1 = [.int .u8 (a4 : Int)] := h4
    have k4 : cs.take 5 = ((([.int .u32 (a0 : Int)] ++ [.int .u64 (a1 : Int)]) ++ [.int .u64 (a2 : Int)]) ++ [.int .u64 (a3 : Int)]) ++ [.int .u8 (a4 : Int)] := take_app k3 g4
    have g5 : (cs.drop 5).take 6 = a5.cells := h5
    have k5 : cs.take 11 = (((([.int .u32 (a0 : Int)] ++ [.int .u64 (a1 : Int)]) ++ [.int .u64 (a2 : Int)]) ++ [.int .u64 (a3 : Int)]) ++ [.int .u8 (a4 : Int)]) ++ a5.cells := take_app k4 g5
    have g6 : (cs.drop 11).take 1 = [.int .u32 (a6 : Int)] := h6
    have k6 : cs.take 12 = ((((([.int .u32 (a0 : Int)] ++ [.int .u64 (a1 : Int)]) ++ [.int .u64 (a2 : Int)]) ++ [.int .u64 (a3 : Int)]) ++ [.int .u8 (a4 : Int)]) ++ a5.cells) ++ [.int .u32 (a6 : Int)] := take_app k5 g6
    have g7 : (cs.drop 12).take 1 = [.int .i64 a7] := h7
    have k7 : cs.take 13 = (((((([.int .u32 (a0 : Int)] ++ [.int .u64 (a1 : Int)]) ++ [.int .u64 (a2 : Int)]) ++ [.int .u64 (a3 : Int)]) ++ [.int .u8 (a4 : Int)]) ++ a5.cells) ++ [.int .u32 (a6 : Int)]) ++ [.int .i64 a7] := take_app k6 g7
    have g8 : (cs.drop 13).take 1 = [.int .u32 (a8 : Int)] := h8
    have k8 : cs.take 14 = ((((((([.int .u32 (a0 : Int)] ++ [.int .u64 (a1 : Int)]) ++ [.int .u64 (a2 : Int)]) ++ [.int .u64 (a3 : Int)]) ++ [.int .u8 (a4 : Int)]) ++ a5.cells) ++ [.int .u32 (a6 : Int)]) ++ [.int .i64 a7]) ++ [.int .u32 (a8 : Int)] := take_app k7 g8
    have g9 : (cs.drop 14).take 1 = [.int .i64 a9] := h9
    have k9 : cs.take 15 = (((((((([.int .u32 (a0 : Int)] ++ [.int .u64 (a1 : Int)]) ++ [.int .u64 (a2 : Int)]) ++ [.int .u64 (a3 : Int)]) ++ [.int .u8 (a4 : Int)]) ++ a5.cells) ++ [.int .u32 (a6 : Int)]) ++ [.int .i64 a7]) ++ [.int .u32 (a8 : Int)]) ++ [.int .i64 a9] := take_app k8 g9
    have hl : cs.length = 15 := (trod_field ht rfl h).1
    rw [List.take_of_length_le (by omega)] at k9
    rw [k9]
    simp [rCr, Cr.cells]⟩
theorem reads_crs : Reads Try.prog 22 (rSl rCr) := reads_sl reads_cr (tb rfl) rfl rfl
theorem cr_exact {c : Cr} {W : World} (h : crAt c (memOf W)) : c.ok [exact_ W] := rl_exact h
end
section
/- The chapter's example of who is reached: walked. -/
attribute [local irreducible] TK TL TQ TA TB Fn PV
/-- A link. -/
def giveC (a b p : Nat) (d : Int) : Cr := ⟨a, 0, 0, 9, 2, ⟨⟨false, ⟨false, 0⟩, ⟨0, none, 0, []⟩⟩, none, 0, []⟩, p, 1, b, d⟩
theorem giveC_ok (a b p : Nat) (d : Int) (Γ : List HP) : (giveC a b p d).ok Γ := ⟨⟨has_srcnil _ _, Nat.le_refl _⟩, has_srcnil _ _, Nat.le_refl _, fun x hx => by cases hx⟩
theorem giveC_few (a b p : Nat) (d : Int) : (giveC a b p d).few := ⟨by show 0 ≤ 30; decide, by show 0 ≤ 30; decide, fun x hx => by cases hx⟩
theorem mkGive_t (a b p : Nat) (d : Int) (Γ : List HP) : FnV Try.prog 23 [.int .u32 (a : Int), .int .u32 (b : Int), .int .u32 (p : Int), .int .i64 d] Γ fun v Γ' => v = .agg (giveC a b p d).cells.toArray ∧ Γ' = Γ := by
  refine Fn.enter Try.func23 rfl rfl rfl fun E => ?_
  refine m_run ?_
  (apply TL.alloc; exact rfl; exact tb rfl; exact (rfl : _ = [_, _, _, _, _, _, _, _, _, _, _, _, _, _, _]))
  intro b2
  refine m_run ?_
  (apply TL.pv; exact rfl; (apply PV.build tabs; exact rfl; exact rfl; exact rfl; exact rfl; exact rfl; exact (rfl : _ = (giveC a b p d).cells)))
  (apply TL.storeAggR 0; exact rfl; exact rfl; exact rfl; exact rfl; exact tb rfl; exact rfl; exact rfl; exact (rfl : _ = (giveC a b p d).cells); exact (rfl : _ = _ :: _))
  refine m_run ?_
  (apply TK.retRow (i := 0); exact rfl; exact rfl; exact rfl; exact rfl; exact tb rfl; exact rfl; exact (rfl : _ = (giveC a b p d).cells); exact rfl)
  · exact ⟨_, rfl, rfl, rfl⟩
  · (repeat (first | exact List.Sublist.refl _ | apply List.Sublist.cons_cons | apply List.Sublist.cons))
def exL : List Cr := [giveC 5 6 7 0, giveC 6 8 7 3]
theorem exL_all (who : Nat) (R : List Rch.Stp) (h : Rch.allC (linksOf exL 7 1) (nxL exL) (who, 3) 4 = R) {O P : List Nat} (ho : OfSpec exL who 7 1 O) (hp : P.Pairwise (· < ·)) (hm : ∀ v, v ∈ P ↔ ∃ s ∈ R, s.1.1 = v) : O = P := by
  refine of_one ho ⟨hp, fun v => ?_⟩
  rw [h, hm]
  exact ⟨fun k => ⟨by kernel_rfl, k⟩, fun k => k.2⟩
theorem ex_a {O : List Nat} (h : OfSpec exL 5 7 1 O) : O = [5, 6] := exL_all 5 [((5, 3), []), ((6, 0), [0])] (by kernel_rfl) h (by decide) (fun v => by simp [eq_comm])
theorem ex_b {O : List Nat} (h : OfSpec exL 6 7 1 O) : O = [6, 8] := exL_all 6 [((6, 3), []), ((8, 2), [1])] (by kernel_rfl) h (by decide) (fun v => by simp [eq_comm])
theorem ex_c : chainS exL 6 7 1 8 (-1) = some [1] := by kernel_rfl
theorem ex_d : chainS exL 5 7 1 8 (-1) = none := by kernel_rfl
theorem ex_e : cutsL exL 5 7 1 6 = [0] := by kernel_rfl
attribute [local irreducible] exL chainS cutsL OfSpec
set_option maxRecDepth 100000 in
set_option maxHeartbeats 8000000 in
theorem works_t (Γ0 : List HP) : FnV Try.prog 14 [] Γ0 fun v Γ' => v = .bool true ∧ Γ0.Sublist Γ' := by
  refine Fn.enter Try.func14 rfl rfl rfl fun E => ?_
  refine m_run ?_
  (apply TL.callV; exact rfl; exact callB_of (by kernel_rfl); exact rfl; exact fun _ h => h)
  exact mkGive_t 5 6 7 0 _
  rintro _ Γ0 ⟨rfl, rfl⟩
  refine m_run ?_
  (apply TL.callV; exact rfl; exact callB_of (by kernel_rfl); exact rfl; exact fun _ h => h)
  exact mkGive_t 6 8 7 3 _
  rintro _ Γ0 ⟨rfl, rfl⟩
  (apply TL.buildSlice (l := crsC [giveC 5 6 7 0, giveC 6 8 7 3]); exact rfl; exact tb rfl; exact rfl; exact tb rfl; exact rfl; exact rfl; exact rfl; exact rfl; exact rfl)
  intro b11
  have hC : Crs (some ⟨b11, 0, none⟩) exL (row b11 (crsC [giveC 5 6 7 0, giveC 6 8 7 3]) 48 :: Γ0) := by
    unfold exL
    refine ⟨has_src_row 0 rfl rfl, fun x hx => ?_, fun x hx => ?_, by show 2 ≤ 100000; decide⟩
    · simp only [List.mem_cons, List.not_mem_nil, or_false] at hx
      rcases hx with rfl | rfl <;> exact giveC_ok _ _ _ _ _
    · simp only [List.mem_cons, List.not_mem_nil, or_false] at hx
      rcases hx with rfl | rfl <;> exact giveC_few _ _ _ _
  have h2 : exL.length = 2 := by unfold exL; rfl
  have hl : exL.length ≤ 50 := by omega
  have hS0 : Γ0.Sublist (row b11 (crsC [giveC 5 6 7 0, giveC 6 8 7 3]) 48 :: Γ0) := .cons _ (.refl _)
  generalize hG : row b11 (crsC [giveC 5 6 7 0, giveC 6 8 7 3]) 48 :: Γ0 = Γ1 at hC hS0
  clear hG
  refine m_run ?_
  (apply TL.callV; exact rfl; exact callB_of (by kernel_rfl); exact rfl; exact fun _ h => h)
  rw [← h2]
  exact ofR_t _ exL.length exL 5 7 1 _ hC hl
  rintro _ _ ⟨O, B1, k1, Γ2, hO, _, hs2, rfl, rfl⟩
  obtain rfl := ex_a hO
  refine m_run ?_
  (apply TL.callV; exact rfl; exact callB_of (by kernel_rfl); exact rfl; exact fun _ h => h)
  rw [← h2]
  exact ofR_t _ exL.length exL 6 7 1 _ (hC.sub (.cons _ hs2)) hl
  rintro _ _ ⟨O2, B2, k2, Γ3, hO2, _, hs3, rfl, rfl⟩
  obtain rfl := ex_b hO2
  refine m_run ?_
  (apply TL.callV; exact rfl; exact callB_of (by kernel_rfl); exact rfl; exact fun _ h => h)
  rw [← h2]
  exact chainR_t _ exL.length exL 6 7 1 8 _ (hC.sub ((List.Sublist.cons _ hs2).trans (.cons _ hs3))) hl
  rintro _ Γ4 ⟨f, rfl, hs4, hfo, hf⟩
  rw [ex_c] at hf
  obtain ⟨y, rfl, hy⟩ := Option.map_eq_some_iff.1 hf
  obtain ⟨yp, yl, yA, yc, yw⟩ := y
  dsimp only at hy
  subst hy
  have hyo := (hfo _ rfl).1
  refine m_run ?_
  (apply TL.callV; exact rfl; exact callB_of (by kernel_rfl); exact rfl; exact fun _ h => h)
  rw [← h2]
  exact chainR_t _ exL.length exL 5 7 1 8 _ (hC.sub (((List.Sublist.cons _ hs2).trans (.cons _ hs3)).trans hs4)) hl
  rintro _ Γ5 ⟨f, rfl, hs5, _, hf⟩
  rw [ex_d] at hf
  obtain rfl := Option.map_eq_none_iff.1 hf
  refine m_run ?_
  (apply TL.callV; exact rfl; exact callB_of (by kernel_rfl); exact rfl; exact fun _ h => h)
  rw [← h2]
  exact cutsR_t _ exL.length exL 5 7 1 6 _ (hC.sub ((((List.Sublist.cons _ hs2).trans (.cons _ hs3)).trans hs4).trans hs5)) hl
  rintro _ _ ⟨O3, B3, k3, Γ6, hO3, _, hs6, rfl, rfl⟩
  rw [ex_e] at hO3
  obtain rfl := List.perm_singleton.1 hO3
  have u1 : has Γ6 (srcAt 1 B1 [5, 6].length (u32s [5, 6])) := has_sublist (up_src _ _ _ _) (((List.Sublist.cons _ hs3).trans hs4).trans (hs5.trans hs6)) (has_at (up_src _ _ _ _) 0 rfl fun _ h => own_src h)
  have u2 : has Γ6 (srcAt 1 B2 [6, 8].length (u32s [6, 8])) := has_sublist (up_src _ _ _ _) (hs4.trans (hs5.trans hs6)) (has_at (up_src _ _ _ _) 0 rfl fun _ h => own_src h)
  have u3 : has Γ6 (srcAt 1 yA [1].length (ints [1])) := has_sublist (up_src _ _ _ _) (hs5.trans hs6) hyo
  have u4 : has (own 3 1 (.slice B3 1 k3) 1 (ints [0]) :: Γ6) (srcAt 1 B3 [0].length (ints [0])) := has_at (up_src _ _ _ _) 0 rfl fun _ h => own_src h
  have hS6 : Γ0.Sublist Γ6 := (((hS0.trans ((List.Sublist.cons _ hs2).trans (.cons _ hs3))).trans hs4).trans hs5).trans hs6
  refine m_run ?_
  (apply TL.buildSlice (l := u32s [5, 6]); exact rfl; exact tb rfl; exact rfl; exact tb rfl; exact rfl; exact rfl; exact rfl; exact rfl; exact rfl)
  intro b29
  (apply TL.callV; exact rfl; exact callB_of (by kernel_rfl); exact rfl; exact fun _ h => h)
  exact numbers_t B1 _ k1 2 [5, 6] [5, 6] _ (has_tls (has_tls u1)) (has_src_row 0 rfl rfl) (by decide) (by decide)
  rintro _ _ ⟨rfl, rfl⟩
  refine m_run ?_
  (apply TL.buildSlice (l := u32s [6, 8]); exact rfl; exact tb rfl; exact rfl; exact tb rfl; exact rfl; exact rfl; exact rfl; exact rfl; exact rfl)
  intro b33
  refine m_run ?_
  (apply TL.callV; exact rfl; exact callB_of (by kernel_rfl); exact rfl; exact fun _ h => h)
  exact numbers_t B2 _ k2 2 [6, 8] [6, 8] _ (has_tls (has_tls (has_tls u2))) (has_src_row 0 rfl rfl) (by decide) (by decide)
  rintro _ _ ⟨rfl, rfl⟩
  refine m_run ?_
  (apply TL.buildSlice (l := ints [1]); exact rfl; exact tb rfl; exact rfl; exact tb rfl; exact rfl; exact rfl; exact rfl; exact rfl; exact rfl)
  intro b41
  refine m_run ?_
  (apply TL.callV; exact rfl; exact callB_of (by kernel_rfl); exact rfl; exact fun _ h => h)
  exact same_t yA _ yc 1 [1] [1] _ (has_tls (has_tls (has_tls (has_tls u3)))) (has_src_row 0 rfl rfl) (by decide) (by decide)
  rintro _ _ ⟨rfl, rfl⟩
  refine m_run ?_
  (apply TL.buildSlice (l := ints [0]); exact rfl; exact tb rfl; exact rfl; exact tb rfl; exact rfl; exact rfl; exact rfl; exact rfl; exact rfl)
  intro b50
  refine m_run ?_
  (apply TL.callV; exact rfl; exact callB_of (by kernel_rfl); exact rfl; exact fun _ h => h)
  exact same_t B3 _ k3 1 [0] [0] _ (has_tls (has_tls (has_tls (has_tls u4)))) (has_src_row 0 rfl rfl) (by decide) (by decide)
  rintro _ _ ⟨rfl, rfl⟩
  refine m_run ?_
  (apply TK.ret1; exact rfl; exact rfl; (exact m_val))
  exact ⟨_, rfl, rfl, .cons _ (.cons _ (.cons _ (.cons _ (.cons _ hS6))))⟩
end
section
/- Whom anybody reaches, as the document tells it: walked. -/
attribute [local irreducible] TK TL TQ TA TB Fn PV
theorem way_src {f : Option Wy} {Γ : List HP} (h : ∀ s, f = some s → s.ok Γ) : ∃ A c, wayV f = .slice A ((f.map (·.w)).getD []).length c ∧ has Γ (srcAt 1 A ((f.map (·.w)).getD []).length (ints ((f.map (·.w)).getD []))) := by
  cases f with
  | none => exact ⟨none, 0, rfl, has_srcnil _ _⟩
  | some s => exact ⟨s.A, s.c, rfl, (h s rfl).1⟩
set_option maxRecDepth 100000 in
set_option maxHeartbeats 8000000 in
theorem reachPlays_t (A : Option Addr) (c : Nat) (l : List Cr) (who p : Nat) (args : Int) (x : Nat) (Γ0 : List HP) (hs0 : has Γ0 (srcAt 15 A l.length (crsC l))) (ho0 : ∀ x ∈ l, x.ok Γ0) (hlc : l.length ≤ c) :
    FnV Try.prog 5 [.slice A l.length c, .int .u32 (who : Int), .int .u32 (p : Int), .int .i64 args, .int .u32 (x : Int)] Γ0 fun v Γ' => v = .bool true ∧ Γ' = Γ0 := by
  refine Fn.enter Try.func5 rfl rfl rfl fun E => ?_
  refine m_run ?_
  by_cases h12 : l.length ≤ 12
  rotate_left
  · refine m_run ?_
    (apply TL.callV; exact rfl; exact callB_of (by kernel_rfl); exact rfl; exact fun _ h => h)
    exact works_t _
    rintro _ Γ1 ⟨rfl, hs1⟩
    refine m_run ?_
    (apply TK.retS1; exact rfl; exact rfl; (exact m_val))
    exact ⟨_, rfl, rfl, rfl⟩
    exact hs1
  refine m_run ?_
  (apply TL.callV; exact rfl; exact callB_of (by kernel_rfl); exact rfl; exact fun _ h => h)
  exact fewCreds_t A c l _ hs0 ho0
  rintro _ Γ0 ⟨⟨b, rfl, hb⟩, rfl⟩
  cases b with
  | false =>
    refine m_run ?_
    (apply TL.callV; exact rfl; exact callB_of (by kernel_rfl); exact rfl; exact fun _ h => h)
    exact works_t _
    rintro _ Γ1 ⟨rfl, hs1⟩
    refine m_run ?_
    (apply TK.retS1; exact rfl; exact rfl; (exact m_val))
    exact ⟨_, rfl, rfl, rfl⟩
    exact hs1
  | true =>
  obtain ⟨hl40, hfew⟩ := hb.1 rfl
  have hC : Crs A l Γ0 := ⟨hs0, ho0, hfew, by omega⟩
  refine m_run ?_
  (apply TL.buildSlice (l := []); exact rfl; exact tb rfl; exact rfl; exact tb rfl; exact rfl; exact rfl; exact rfl; exact rfl; exact rfl)
  intro b25
  refine m_run ?_
  (apply TL.append 0 (n := 0) (m := l.length) (cs := []) (news := crsC l); exact rfl; exact rfl; exact tb rfl; exact rfl; exact tb rfl; exact rfl; exact rfl; exact rfl)
  · exact fun _ h => own_row (n := 0) rfl (by decide) h
  · exact rfl
  · exact has_tls hs0
  · exact crs_one _
  · show (0 + l.length) * 144 ≤ _; omega
  · show 0 + l.length ≤ maxLen; unfold maxLen; omega
  · exact fun _ => (rfl : _ = _ :: _)
  intro B5 k5 hk5
  simp only [Nat.zero_add, List.nil_append] at hk5 ⊢
  have hS1 : Γ0.Sublist (own 48 15 (.slice B5 l.length k5) l.length (crsC l) :: Γ0) := .cons _ (.refl _)
  have hC1 : Crs B5 l (own 48 15 (.slice B5 l.length k5) l.length (crsC l) :: Γ0) := ⟨has_at (up_src _ _ _ _) 0 rfl fun _ h => own_src h, fun x hx => Cr.ok_tl (ho0 x hx), hfew, by omega⟩
  generalize hG : own 48 15 (.slice B5 l.length k5) l.length (crsC l) :: Γ0 = Γ1 at hS1 hC1
  have hl5 : l.length ≤ 50 := by omega
  refine m_run ?_
  (apply TL.callV; exact rfl; exact callB_of (by kernel_rfl); exact rfl; exact fun _ h => h)
  exact chainR_t B5 k5 l who p args x _ hC1 hl5
  rintro _ Γ2 ⟨f1, rfl, hS2, hf1, hw1⟩
  refine m_run ?_
  (apply TL.callV; exact rfl; exact callB_of (by kernel_rfl); exact rfl; exact fun _ h => h)
  exact rchain_t A c l who p args x _ (hC.sub (hS1.trans hS2)) hl5
  rintro _ Γ3 ⟨f2, rfl, hS3, hf2, hw2⟩
  refine m_run ?_
  (apply TL.callV; exact rfl; exact callB_of (by kernel_rfl); exact rfl; exact fun _ h => h)
  exact ofR_t B5 k5 l who p args _ (hC1.sub (hS2.trans hS3)) hl5
  rintro _ _ ⟨O1, B6, k6, Γ4, hO1, hn1, hS4, rfl, rfl⟩
  refine m_run ?_
  (apply TL.callV; exact rfl; exact callB_of (by kernel_rfl); exact rfl; exact fun _ h => h)
  exact rof_t A c l who p args _ (hC.sub ((hS1.trans (hS2.trans (hS3.trans hS4))).trans (.cons _ (.refl _)))) hl5
  rintro _ _ ⟨O2, B7, k7, Γ5, hO2, hn2, hS5, rfl, rfl⟩
  obtain rfl := of_one hO1 hO2
  refine m_run ?_
  (apply TL.callV; exact rfl; exact callB_of (by kernel_rfl); exact rfl; exact fun _ h => h)
  exact numbers_t B6 B7 k6 k7 O1 O1 _ (has_tls (has_sublist (up_src _ _ _ _) hS5 (has_at (up_src _ _ _ _) 0 rfl fun _ h => own_src h))) (has_at (up_src _ _ _ _) 0 rfl fun _ h => own_src h) (by omega) (by omega)
  rintro _ _ ⟨rfl, rfl⟩
  rw [decide_eq_true (rfl : O1 = O1)]
  have hfi : (f1.isSome == f2.isSome) = true := by
    have h := hw1.trans hw2.symm
    cases f1 <;> cases f2 <;> first | rfl | cases h
  have hS35 : Γ3.Sublist (own 31 1 (.slice B7 O1.length k7) O1.length (u32s O1) :: Γ5) := (hS4.trans (.cons _ (.refl _))).trans (hS5.trans (.cons _ (.refl _)))
  have hlen : ((chainS l who p args x (-1)).getD []).length ≤ 1000000 := Nat.le_trans chainS_len (by decide)
  obtain ⟨P1, c1, e1, s1⟩ := way_src (Γ := Γ3) (f := f1) fun s hs => ⟨has_sublist (up_src _ _ _ _) hS3 (hf1 s hs).1, (hf1 s hs).2⟩
  obtain ⟨P2, c2, e2, s2⟩ := way_src (Γ := Γ3) (f := f2) hf2
  rw [hw1] at e1 s1
  rw [hw2] at e2 s2
  rw [e1, e2]
  refine m_run ?_
  refine TL.know (t := 60) (v := .bool true) (congrArg Value.bool hfi) ?_
  refine m_run ?_
  (apply TL.callV; exact rfl; exact callB_of (by kernel_rfl); exact rfl; exact fun _ h => h)
  exact same_t P1 P2 c1 c2 _ _ _ (has_sublist (up_src _ _ _ _) hS35 s1) (has_sublist (up_src _ _ _ _) hS35 s2) hlen hlen
  rintro _ _ ⟨rfl, rfl⟩
  rw [decide_eq_true (rfl : (chainS l who p args x (-1)).getD [] = _)]
  refine m_run ?_
  (apply TL.callV; exact rfl; exact callB_of (by kernel_rfl); exact rfl; exact fun _ h => h)
  exact cutsR_t B5 k5 l who p args x _ (hC1.sub ((hS2.trans hS3).trans hS35)) hl5
  rintro _ _ ⟨O3, B8, k8, Γ6, hp3, hs3, hS6, rfl, rfl⟩
  refine m_run ?_
  (apply TL.callV; exact rfl; exact callB_of (by kernel_rfl); exact rfl; exact fun _ h => h)
  exact rcuts_t A c l who p args x _ (hC.sub ((hS1.trans ((hS2.trans hS3).trans hS35)).trans (hS6.trans (.cons _ (.refl _))))) hl5 hlc
  rintro _ _ ⟨O4, B9, k9, Γ7, hO4, hS7, rfl, rfl⟩
  have hO := cuts_eq hp3 hs3
  rw [← hO] at hO4
  subst hO4
  have hln : O4.length ≤ 1000000 := by
    rw [hp3.length_eq]
    unfold cutsL
    exact Nat.le_trans (List.length_filter_le _ _) hlen
  refine m_run ?_
  (apply TL.callV; exact rfl; exact callB_of (by kernel_rfl); exact rfl; exact fun _ h => h)
  exact same_t B8 B9 k8 k9 _ _ _ (has_tls (has_sublist (up_src _ _ _ _) hS7 (has_at (up_src _ _ _ _) 0 rfl fun _ h => own_src h))) (has_at (up_src _ _ _ _) 0 rfl fun _ h => own_src h) hln hln
  rintro _ _ ⟨rfl, rfl⟩
  rw [decide_eq_true (rfl : O4 = _)]
  refine m_run ?_
  (apply TL.callV; exact rfl; exact callB_of (by kernel_rfl); exact rfl; exact fun _ h => h)
  exact works_t _
  rintro _ Γ8 ⟨rfl, hS8⟩
  refine m_run ?_
  (apply TK.retS1; exact rfl; exact rfl; (exact m_val))
  exact ⟨_, rfl, rfl, rfl⟩
  exact (((hS1.trans ((hS2.trans hS3).trans hS35)).trans (hS6.trans (.cons _ (.refl _)))).trans (hS7.trans (.cons _ (.refl _)))).trans hS8
end
end Go.Proofs.Ythbcfamfaicneaa.E
