/- The words of a block: (*State).words, walked. -/
import Derived.Test.YtdookobgkcnncaaDoorH1
namespace Go.Proofs.YtdookobgkcnncaaDoor.E
open Go Go.RowKit Go.Proofs
attribute [local irreducible] TK TL TQ TA Fn PV
theorem pw_succ {b : List UInt8} {k r : Nat} {c : UInt8} (h : b[4 * k + r]? = some c) : pw b k (r + 1) = (pw b k r <<< 8) ||| BitVec.ofNat 32 c.toNat := by
  unfold pw
  rw [List.take_add_one, List.getElem?_drop, h, List.foldl_append]
  rfl
def arrW (hl : List UInt8) (i : Nat) : List Wd := (List.range 64).map fun k => pw hl k (min 4 (i - 4 * k))
theorem arrW_get {hl : List UInt8} {i k : Nat} (h : k < 64) : (arrW hl i)[k]? = some (pw hl k (min 4 (i - 4 * k))) := by simp [arrW, h]
theorem pw_zero (b : List UInt8) (k : Nat) : pw b k 0 = 0 := by simp [pw]
theorem arrW_zero (hl : List UInt8) : arrW hl 0 = List.replicate 64 0 := by
  unfold arrW
  rw [List.eq_replicate_iff]
  refine ⟨by simp, fun x hx => ?_⟩
  obtain ⟨k, _, rfl⟩ := List.mem_map.1 hx
  rw [show min 4 (0 - 4 * k) = 0 by omega, pw_zero]
theorem arrW_step {hl : List UInt8} {i : Nat} {c : UInt8} (hi : i < 64) (hc : hl[i]? = some c) : (arrW hl i).set (i / 4) ((pw hl (i / 4) (i - 4 * (i / 4)) <<< 8) ||| BitVec.ofNat 32 c.toNat) = arrW hl (i + 1) := by
  rw [← pw_succ (by rw [show 4 * (i / 4) + (i - 4 * (i / 4)) = i by omega]; exact hc)]
  apply List.ext_getElem?
  intro k
  rw [List.getElem?_set]
  by_cases hk : k < 64
  · rw [arrW_get hk]
    split
    · rename_i h
      rw [if_pos (by simp [arrW]; omega)]
      subst h
      rw [arrW_get hk, show min 4 (i + 1 - 4 * (i / 4)) = i - 4 * (i / 4) + 1 by omega]
    · rename_i h
      rw [arrW_get hk, show min 4 (i + 1 - 4 * k) = min 4 (i - 4 * k) by omega]
  · rw [if_neg (by omega), List.getElem?_eq_none (by simp [arrW]; omega), List.getElem?_eq_none (by simp [arrW]; omega)]
theorem w16_len (b : List UInt8) (n : Nat) : (w16 b n).length = n := by simp [w16]
theorem arrW_end {hl : List UInt8} (_ : hl.length = 64) : arrW hl 64 = w16 hl 16 ++ List.replicate 48 0 := by
  apply List.ext_getElem?
  intro k
  by_cases hk : k < 64
  · rw [arrW_get hk]
    by_cases h16 : k < 16
    · rw [List.getElem?_append_left (by simp [w16]; omega), show min 4 (64 - 4 * k) = 4 by omega]
      simp [w16, h16]
    · rw [List.getElem?_append_right (by simp [w16]; omega), show min 4 (64 - 4 * k) = 0 by omega, pw_zero]
      rw [List.getElem?_replicate, w16_len, if_pos (by omega)]
  · rw [List.getElem?_eq_none (by simp [arrW]; omega), List.getElem?_eq_none (by simp [w16]; omega)]
theorem extN_len (w : List Wd) (n : Nat) : (extN n w).length = w.length + n := by
  induction n with
  | zero => rfl
  | succ n ih => rw [extN, wsnoc, List.length_append, ih]; rfl
theorem has_rowC {Γ : List HP} {b e o : Nat} {l : List Value} {v : Value} (h : l[o]? = some v) : has (row b l e :: Γ) (fun m => cellAt m b o v) := has_at (up_cell _ _ _) 0 rfl fun m hm => ⟨l.toArray, e, (0, 0), by rw [hm b]; simp, by simpa using h⟩
theorem row_cell {b e o : Nat} {l : List Value} {v : Value} {m : Mem} (hm : row b l e m) (h : l[o]? = some v) : cellAt m b o v := ⟨l.toArray, e, (0, 0), by rw [hm b]; simp, by simpa using h⟩
theorem ext_get {w : List Wd} {n r o d : Nat} (hw : (extN n w).length = o) (hd : 0 < d ∧ d ≤ o) : ((extN n w ++ List.replicate r (0 : Wd)).map w32)[o - d]? = some (w32 ((extN n w).getD (o - d) 0)) := by
  have h1 : (extN n w)[o - d]? = some ((extN n w).getD (o - d) 0) := by
    rw [List.getD_eq_getElem?_getD]
    have : o - d < (extN n w).length := by omega
    simp [this]
  rw [List.getElem?_map, List.getElem?_append_left (by omega), h1]
  rfl
theorem ext_step {w : List Wd} {n r o : Nat} (hw : (extN n w).length = o) : ((extN n w ++ List.replicate (r + 1) (0 : Wd)).map w32).set o (w32 (wnx (extN n w))) = (extN (n + 1) w ++ List.replicate r (0 : Wd)).map w32 := by
  rw [← List.map_set, extN, wsnoc]
  congr 1
  subst hw
  rw [List.replicate_succ, List.set_append_right _ _ (Nat.le_refl _), Nat.sub_self, List.set_cons_zero, List.append_assoc]
  rfl
theorem has_rowAll {Γ : List HP} {b e : Nat} {l : List Value} : has (row b l e :: Γ) (fun m => cellsAt m b 0 l) := by
  have := own_row_has (b := b) (o := 0) (xs := []) (ys := l) (zs := []) (e := e) (Γ := Γ) rfl
  simpa using this
set_option maxRecDepth 100000 in
theorem words_t (b : Nat) (hl : List UInt8) (h64 : hl.length = 64) (Γ : List HP) (hh : has Γ (fun m => cellsAt m b 8 (bytesV hl))) :
    FnV Tryd.prog 41 [.pointer (some ⟨b, 0, none⟩)] Γ fun v Γ' => v = .agg ((sched hl).map w32).toArray ∧ Γ' = Γ := by
  refine Fn.enter Tryd.func41 rfl rfl rfl fun E => ?_
  refine m_run ?_
  (apply TL.alloc; exact rfl; exact tb rfl; exact (by kernel_rfl : _ = List.map w32 (List.replicate 64 0)))
  intro b2
  rw [← arrW_zero hl]
  refine m_run ?_
  (apply TL.pv; exact rfl; (apply PV.loadAggH; exact rfl; exact tb rfl; exact rfl; exact has_tlg hh; exact (by rw [bytesV_length, h64])))
  refine m_run ?_
  apply TK.iter (fun j ρ' Γ' => ∃ i : Nat, i + j = 64 ∧ lk ρ' 2 = .pointer (some ⟨b2, 0, none⟩) ∧ lk ρ' 13 = .agg (bytesV hl).toArray ∧ lk ρ' 14 = .int .i64 (i : Int) ∧ Γ' = row b2 ((arrW hl i).map w32) 76 :: Γ) 64
  · exact ⟨0, Nat.zero_add _, rfl, rfl, rfl, rfl⟩
  rintro j IH ρ' _ ⟨i, hij, e2, e13, e14, rfl⟩
  refine TK.know3 e2 e13 e14 ?_
  by_cases hi : i < 64
  · obtain ⟨c, hc⟩ : ∃ c, hl[i]? = some c := ⟨hl[i]'(by omega), by simp [h64, hi]⟩
    have hcv := bytesV_get hc
    have hcell : has (row b2 ((arrW hl i).map w32) 76 :: Γ) (fun m => cellAt m b2 (i / 4) (w32 (pw hl (i / 4) (i - 4 * (i / 4))))) := has_rowC (by
      rw [List.getElem?_map, arrW_get (by omega), show min 4 (i - 4 * (i / 4)) = i - 4 * (i / 4) by omega]; rfl)
    refine m_run ?_
    have hq : IntKind.i64.wrap ((i : Int).tdiv 4) = ((i / 4 : Nat) : Int) := by
      rw [show (i : Int).tdiv 4 = ((i / 4 : Nat) : Int) from rfl, i64_nat (by omega)]
    refine TL.know (t := 19) (v := .int .i64 ((i / 4 : Nat) : Int)) (congrArg (Value.int .i64) hq) ?_
    refine TL.know (t := 21) (v := .int .i64 ((i / 4 : Nat) : Int)) (congrArg (Value.int .i64) hq) ?_
    clear hq
    refine m_run ?_
    (apply TL.storeE 0 (l' := (arrW hl (i + 1)).map w32); exact rfl; exact rfl; exact rfl; exact rfl; exact tb rfl; exact rfl; exact (by simp [arrW]; omega); exact (by rw [← arrW_step hi hc, List.map_set]; rfl); exact rfl)
    refine m_run ?_
    exact IH (j - 1) _ _ (by omega) ⟨i + 1, by omega, rfl, rfl, congrArg (Value.int .i64) (i64_succ i (by omega)), rfl⟩
  obtain rfl : i = 64 := by omega
  clear IH e2 e13 e14
  rw [arrW_end h64]
  refine m_run ?_
  apply TK.iter (fun j ρ' Γ' => ∃ n : Nat, n + j = 48 ∧ lk ρ' 2 = .pointer (some ⟨b2, 0, none⟩) ∧ lk ρ' 5 = .int .i64 ((16 + n : Nat) : Int) ∧ Γ' = row b2 ((extN n (w16 hl 16) ++ List.replicate (48 - n) 0).map w32) 76 :: Γ) 48
  · exact ⟨0, Nat.zero_add _, rfl, rfl, rfl⟩
  clear hij
  rintro j IH ρ' _ ⟨n, hij, e2, e5, rfl⟩
  refine TK.know2 e2 e5 ?_
  by_cases hi : n < 48
  · have hlen : (extN n (w16 hl 16)).length = 16 + n := by rw [extN_len, w16_len]
    have g15 := ext_get (r := 48 - n) (d := 15) hlen (by omega)
    have g2 := ext_get (r := 48 - n) (d := 2) hlen (by omega)
    have g16 := ext_get (r := 48 - n) (d := 16) hlen (by omega)
    have g7 := ext_get (r := 48 - n) (d := 7) hlen (by omega)
    have c15 := has_rowC (b := b2) (e := 76) (Γ := Γ) g15
    have c2 := has_rowC (b := b2) (e := 76) (Γ := Γ) g2
    refine m_run ?_
    refine m_quiet ?_
    refine TQ.know (t := 35) (v := .int .i64 ((16 + n - 15 : Nat) : Int)) (congrArg (Value.int .i64) (by rw [i64_in (by omega) (by omega)]; omega)) ?_
    refine m_qrun ?_
    refine TQ.know (t := 39) (v := .int .i64 ((16 + n - 2 : Nat) : Int)) (congrArg (Value.int .i64) (by rw [i64_in (by omega) (by omega)]; omega)) ?_
    refine m_qrun ?_
    obtain ⟨x, hx⟩ : ∃ x, (extN n (w16 hl 16)).getD (16 + n - 15) 0 = x := ⟨_, rfl⟩
    obtain ⟨y, hy⟩ : ∃ y, (extN n (w16 hl 16)).getD (16 + n - 2) 0 = y := ⟨_, rfl⟩
    rw [hx] at c15 ⊢
    rw [hy] at c2 ⊢
    refine m_run ?_
    (apply TL.callV; exact rfl; exact callB_of (by kernel_rfl); exact rfl; exact fun _ h => h)
    exact rotl_t x 7 (by decide) _
    rintro _ _ ⟨rfl, rfl⟩
    refine m_run ?_
    (apply TL.callV; exact rfl; exact callB_of (by kernel_rfl); exact rfl; exact fun _ h => h)
    exact rotl_t x 18 (by decide) _
    rintro _ _ ⟨rfl, rfl⟩
    refine m_run ?_
    (apply TL.callV; exact rfl; exact callB_of (by kernel_rfl); exact rfl; exact fun _ h => h)
    exact rotl_t y 17 (by decide) _
    rintro _ _ ⟨rfl, rfl⟩
    refine m_run ?_
    (apply TL.callV; exact rfl; exact callB_of (by kernel_rfl); exact rfl; exact fun _ h => h)
    exact rotl_t y 19 (by decide) _
    rintro _ _ ⟨rfl, rfl⟩
    refine m_run ?_
    obtain ⟨u, hu⟩ : ∃ u, (extN n (w16 hl 16)).getD (16 + n - 16) 0 = u := ⟨_, rfl⟩
    obtain ⟨v, hv⟩ : ∃ v, (extN n (w16 hl 16)).getD (16 + n - 7) 0 = v := ⟨_, rfl⟩
    rw [hu] at g16
    rw [hv] at g7
    refine TK.drawE mixed rfl ((fun m => cellAt m b2 (16 + n - 16) (w32 u) ∧ cellAt m b2 (16 + n - 7) (w32 v)) :: Γ) ?_
    have c16 : has ((fun m => cellAt m b2 (16 + n - 16) (w32 u) ∧ cellAt m b2 (16 + n - 7) (w32 v)) :: Γ) (fun m => cellAt m b2 (16 + n - 16) (w32 u)) := has_at (up_cell _ _ _) 0 rfl fun _ h => h.1
    have c7 : has ((fun m => cellAt m b2 (16 + n - 16) (w32 u) ∧ cellAt m b2 (16 + n - 7) (w32 v)) :: Γ) (fun m => cellAt m b2 (16 + n - 7) (w32 v)) := has_at (up_cell _ _ _) 0 rfl fun _ h => h.2
    have hent : Ent (row b2 ((extN n (w16 hl 16) ++ List.replicate (48 - n) 0).map w32) 76 :: Γ) ((fun m => cellAt m b2 (16 + n - 16) (w32 u) ∧ cellAt m b2 (16 + n - 7) (w32 v)) :: Γ) := .cons (fun m h => ⟨row_cell h g16, row_cell h g7⟩) (.refl _)
    have hset : ((extN n (w16 hl 16) ++ List.replicate (48 - n) (0 : Wd)).map w32).set (16 + n) (w32 (u + (rotr x 7 ^^^ rotr x 18 ^^^ (x >>> 3)) + v + (rotr y 17 ^^^ rotr y 19 ^^^ (y >>> 10)))) = (extN (n + 1) (w16 hl 16) ++ List.replicate (48 - (n + 1)) (0 : Wd)).map w32 := by
      rw [show 48 - n = 48 - (n + 1) + 1 by omega, ← ext_step hlen]
      congr 2
      unfold wnx
      rw [hlen, hu, hx, hv, hy]
      rfl
    have hent2 : Ent (row b2 ((extN (n + 1) (w16 hl 16) ++ List.replicate (48 - (n + 1)) 0).map w32) 76 :: Γ) ((fun m => cellAt m b2 (16 + n - 16) (w32 u) ∧ cellAt m b2 (16 + n - 7) (w32 v)) :: Γ) := by
      rw [← hset]
      exact .cons (fun m h => ⟨row_cell h (by rw [List.getElem?_set_ne (by omega)]; exact g16), row_cell h (by rw [List.getElem?_set_ne (by omega)]; exact g7)⟩) (.refl _)
    refine m_take (At.mk : At 0) ?_; refine m_take (At.mk : At 1) ?_; refine m_take (At.mk : At 2) ?_
    refine TA.know (t := 60) (v := .int .i64 ((16 + n - 16 : Nat) : Int)) (congrArg (Value.int .i64) (by rw [i64_in (by omega) (by omega)]; omega)) ?_
    refine m_take (At.mk : At 3) ?_; refine m_take (At.mk : At 4) ?_; refine m_take (At.mk : At 5) ?_; refine m_take (At.mk : At 6) ?_; refine m_take (At.mk : At 7) ?_; refine m_take (At.mk : At 8) ?_
    refine TA.know (t := 66) (v := .int .i64 ((16 + n - 7 : Nat) : Int)) (congrArg (Value.int .i64) (by rw [i64_in (by omega) (by omega)]; omega)) ?_
    refine m_take (At.mk : At 9) ?_; refine m_take (At.mk : At 10) ?_; refine m_take (At.mk : At 11) ?_; refine m_take (At.mk : At 12) ?_; refine m_take (At.mk : At 13) ?_; refine m_take (At.mk : At 14) ?_
    (apply TA.one 15; kernel_rfl; exact rfl)
    (apply TL.storeE 0 (l' := (extN (n + 1) (w16 hl 16) ++ List.replicate (48 - (n + 1)) 0).map w32); exact rfl; exact rfl; exact rfl; exact rfl; exact tb rfl; exact rfl; exact (by simp [hlen]; omega); exact hset; exact rfl)
    refine TL.back hent2 ?_
    refine TA.done (by kernel_rfl) ?_
    refine m_run ?_
    exact IH (j - 1) _ _ (by omega) ⟨n + 1, by omega, rfl, congrArg (Value.int .i64) (i64_succ (16 + n) (by omega)), rfl⟩
  · obtain rfl : n = 48 := by omega
    have hlen : (extN 48 (w16 hl 16)).length = 64 := by rw [extN_len, w16_len]
    rw [Nat.sub_self, List.replicate_zero, List.append_nil]
    have hW : sched hl = extN 48 (w16 hl 16) := rfl
    rw [hW]
    generalize extN 48 (w16 hl 16) = W at hlen
    clear hW IH hh
    have hlen2 : (W.map w32).length = 64 := by rw [List.length_map, hlen]
    have hws := ws_one W
    generalize W.map w32 = L at hlen2 hws
    refine m_run ?_
    (apply TL.pv; exact rfl; (apply PV.loadAggH; exact rfl; exact tb rfl; exact rfl; exact has_rowAll; exact hlen2))
    (apply TL.storeAggE 0 (l' := L); exact rfl; exact rfl; exact rfl; exact (by simpa [allOne] using hws); exact tb rfl; exact (by rw [hlen2]; rfl); exact (by omega); exact (by rw [List.take_zero, List.nil_append, List.drop_of_length_le (by omega), List.append_nil]); exact rfl)
    refine m_run ?_
    (apply TK.retRow (i := 0) (vs := L); exact rfl; exact rfl; exact rfl; exact rfl; exact tb rfl; exact rfl; exact (by rw [List.drop_zero]; exact List.take_of_length_le (by rw [hlen2]; decide); ); exact (by rw [hlen2]; rfl))
    · exact ⟨_, rfl, rfl, rfl⟩
    · (repeat (first | exact List.Sublist.refl _ | apply List.Sublist.cons_cons | apply List.Sublist.cons))
end Go.Proofs.YtdookobgkcnncaaDoor.E
