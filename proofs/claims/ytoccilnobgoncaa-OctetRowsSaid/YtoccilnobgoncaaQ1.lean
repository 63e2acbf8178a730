/- OctetRows, whatever is handed in: the walk. -/
import Derived.Test.YtoccilnobgoncaaP9
namespace Go.Proofs.Ytoccilnobgoncaa.E
open Go Go.RowKit Go.Proofs
attribute [local irreducible] TK TL TQ TA Fn PV
theorem has_get {Γ : List HP} {b o n i : Nat} {vs : List Value} {v : Value} (h : has Γ (srcAt 1 (some ⟨b, o, none⟩) n vs)) (hi : vs[i]? = some v) : has Γ (fun m => cellAt m b (o + i) v) := fun m hm => by
  obtain ⟨_, h2⟩ := h m hm
  rcases h2 with h2 | ⟨b', o', e, h2⟩
  · rw [h2] at hi; cases hi
  · injection e with e
    injection e with e1 e2 _
    subst e1; subst e2
    exact h2 i _ hi
def natsV (q : IntKind) (xs : List Nat) : List Value := xs.map fun (n : Nat) => Value.int q (n : Int)
theorem natsV_get {q : IntKind} {xs : List Nat} {i n : Nat} (h : xs[i]? = some n) : (natsV q xs)[i]? = some (.int q (n : Int)) := by simp [natsV, h]
theorem nums_snoc (q : IntKind) (l : List Int) (x : Int) : nums q (l ++ [x]) = nums q l ++ [.int q x] := by simp [nums]
theorem slsV_get {ss : List (Sl UInt8)} {i : Nat} {s : Sl UInt8} (h : ss[i]? = some s) : (ss.map Sl.v)[i]? = some (.slice s.A s.l.length s.c) := by simp [h, Sl.v]
/-- What stands while things are put. -/
abbrev RowM (its : List Pc) (Γ : List HP) (ρ' : Env) (Γ' : List HP) : Prop := (∀ x ∈ its, x.ok) ∧ ∃ A c B d, lk ρ' 7 = .slice A (bufP its).length c ∧ (bufP its).length ≤ c ∧ lk ρ' 8 = .slice B its.length d ∧ its.length ≤ d ∧
  Γ' = bsA 5 (.slice A (bufP its).length c) (bufP its) :: own 3 1 (.slice B its.length d) its.length (nums .i64 (endsP its)) :: Γ
set_option maxRecDepth 100000 in
theorem rows_t (A0 B0 : Option Addr) (c0 c1 : Nat) (xs : List Nat) (ss : List (Sl UInt8)) (wd : Nat) (Γ : List HP) (hx : has Γ (srcAt 1 A0 xs.length (natsV .u64 xs))) (hxs : ∀ n ∈ xs, n < 18446744073709551616) (hs : has Γ (srcAt 1 B0 ss.length (ss.map Sl.v))) (hss : ∀ s ∈ ss, has Γ (srcAt 1 s.A s.l.length (bytesV s.l))) (hw : wd < 65536) :
    FnV Try.prog 13 [.slice A0 xs.length c0, .slice B0 ss.length c1, .int .u16 (wd : Int)] Γ fun v Γ' => v = .bool true ∧ Γ' = Γ := by
  refine Fn.enter Try.func13 rfl rfl rfl fun E => ?_
  by_cases v0 : 40 < xs.length
  · refine m_run ?_
    (apply TL.callV; exact rfl; exact callB_of (by kernel_rfl); exact rfl; exact fun _ h => h)
    exact works1_t _
    rintro _ Γ ⟨rfl, rfl⟩
    refine m_run ?_
    (apply TK.ret1; exact rfl; exact rfl; (exact m_val))
    exact ⟨_, rfl, rfl, rfl⟩
  by_cases v1 : 40 < ss.length
  · refine m_run ?_
    (apply TL.callV; exact rfl; exact callB_of (by kernel_rfl); exact rfl; exact fun _ h => h)
    exact works1_t _
    rintro _ Γ ⟨rfl, rfl⟩
    refine m_run ?_
    (apply TK.ret1; exact rfl; exact rfl; (exact m_val))
    exact ⟨_, rfl, rfl, rfl⟩
  obtain ⟨bs, hbs⟩ : ∃ bs, ss.map (·.l) = bs := ⟨_, rfl⟩
  have hbl : bs.length = ss.length := by rw [← hbs]; simp
  refine m_run ?_
  refine TK.free (H := own 3 1 (.slice none 0 0) 0 []) (fun m hm => own_nil _ _ hm) ?_
  refine TK.free (H := bsA 5 (.slice none 0 0) []) (fun m h => bs_nil _ h) ?_
  apply TK.iter (fun j ρ' Γ' => ∃ i : Nat, i + j = max xs.length ss.length ∧ lk ρ' 0 = .slice A0 xs.length c0 ∧ lk ρ' 1 = .slice B0 ss.length c1 ∧ lk ρ' 2 = .int .u16 (wd : Int) ∧ lk ρ' 9 = .int .i64 (i : Int) ∧ RowM (toP xs bs i) Γ ρ' Γ') (max xs.length ss.length)
  · exact ⟨0, Nat.zero_add _, rfl, rfl, rfl, rfl, by simp [toP], none, 0, none, 0, rfl, Nat.le_refl _, rfl, Nat.le_refl _, rfl⟩
  rintro j IH ρ' _ ⟨i, hij, e0, e1, e2, e9, hok, A, c, B, d, e7, hc, e8, hd, rfl⟩
  refine TK.know6 e0 e1 e2 e9 e7 e8 ?_
  have hl2 := toP_len xs bs i
  by_cases hi : i < max xs.length ss.length
  · obtain ⟨its, hits⟩ : ∃ its, toP xs bs i = its := ⟨_, rfl⟩
    rw [hits] at hok hc hd hl2 ⊢
    have hbu := bufP_len hok
    refine m_run ?_
    refine TK.cut (I := fun ρ' Γ' => lk ρ' 0 = .slice A0 xs.length c0 ∧ lk ρ' 1 = .slice B0 ss.length c1 ∧ lk ρ' 2 = .int .u16 (wd : Int) ∧ lk ρ' 9 = .int .i64 (i : Int) ∧ RowM (its ++ xs[i]?.toList.map .num) Γ ρ' Γ') ?_ ?_
    · intro k' hk'
      by_cases h1 : i < xs.length
      · obtain ⟨n, hn⟩ : ∃ n, xs[i]? = some n := ⟨xs[i], by simp [h1]⟩
        have hn64 := hxs n (List.mem_of_getElem? hn)
        have hvl := varM_len n hn64
        rw [hn, show (some n).toList.map Pc.num = [Pc.num n] from rfl] at hk'
        refine TK.mem fun m0 hm0 => ?_
        obtain ⟨b0, o0, rfl⟩ := src_some (has_tls (has_tls hx) m0 hm0) (by simp [natsV]; omega)
        have hcell := has_get hx (natsV_get (q := .u64) hn)
        refine m_run ?_
        (apply TL.callV; exact rfl; exact callB_of (by kernel_rfl); exact rfl; exact fun _ h => h)
        exact putvar_t A _ c (bufP its) n _ (has_bs 0 rfl) hn64 (by omega)
        rintro _ _ ⟨A', c', rfl, hc', rfl⟩
        have hbl2 : (bufP its ++ varM n).length = (bufP its).length + (varM n).length := List.length_append
        refine m_run ?_
        apply TK.iter (fun j ρ' Γ' => ∃ (k m : Nat), m ≤ j ∧ m < 18446744073709551616 ∧ (varM n).length = k + lenV m ∧ lk ρ' 0 = .slice (some ⟨b0, o0, none⟩) xs.length c0 ∧ lk ρ' 1 = .slice B0 ss.length c1 ∧ lk ρ' 2 = .int .u16 (wd : Int) ∧ lk ρ' 7 = .slice A' (bufP its ++ varM n).length c' ∧ lk ρ' 8 = .slice B its.length d ∧ lk ρ' 9 = .int .i64 (i : Int) ∧ lk ρ' 10 = .int .i64 ((bufP its).length : Int) ∧ lk ρ' 11 = .int .i64 (k : Int) ∧ lk ρ' 12 = .int .u64 (m : Int) ∧
          Γ' = bsA 5 (.slice A' (bufP its ++ varM n).length c') (bufP its ++ varM n) :: bsA 5 (.slice A (bufP its).length c) (bufP its) :: own 3 1 (.slice B its.length d) its.length (nums .i64 (endsP its)) :: Γ) (n / 128)
        · exact ⟨1, n / 128, Nat.le_refl _, by omega, lenV_var n, rfl, rfl, rfl, rfl, rfl, rfl, rfl, rfl, rfl, rfl⟩
        clear IH e0 e1 e2 e9 e7 e8
        rintro j2 IH ρ' _ ⟨k, m, hmj, hm, hk, e0, e1, e2, e7, e8, e9, e10, e11, e12, rfl⟩
        refine TK.know9 e0 e1 e2 e7 e8 e9 e10 e11 e12 ?_
        by_cases h0 : 0 < m
        · rw [lenV_pos h0] at hk
          refine m_run ?_
          exact IH (m / 128) _ _ (by omega) ⟨k + 1, m / 128, Nat.le_refl _, by omega, by omega, rfl, rfl, rfl, rfl, rfl, rfl, rfl, congrArg (Value.int .i64) (i64_succ k (by omega)), rfl, rfl⟩
        · obtain rfl : m = 0 := by omega
          have hk2 : (varM n).length = k := by simpa [lenV] using hk
          have hat : IntKind.i64.wrap (((bufP its).length : Int) + (k : Int)) = (((bufP its).length + k : Nat) : Int) := by rw [← Int.natCast_add, i64_nat (by omega)]
          refine m_run ?_
          (apply TL.buildSlice; exact rfl; exact tb rfl; exact rfl; exact tb rfl; exact rfl; exact rfl; exact rfl; exact rfl; (exact m_lst))
          intro b1
          refine m_run ?_
          (apply TL.append 3; exact rfl; exact rfl; exact tb rfl; exact rfl; exact tb rfl; exact rfl; exact rfl; exact rfl)
          · exact fun _ h => h
          · exact rfl
          · exact has_src_row 0 rfl rfl
          · exact one_of rfl
          · show (its.length + 1) * 8 ≤ _; omega
          · show its.length + 1 ≤ maxLen; unfold maxLen; omega
          · exact fun _ => (rfl : _ = _ :: _ :: _ :: _ :: _)
          intro B' d' hd'
          refine m_run ?_
          refine TK.sub (Δ := bsA 5 (.slice A' (bufP its ++ varM n).length c') (bufP its ++ varM n) :: own 3 1 (.slice B' (its.length + 1) d') (its.length + 1) (nums .i64 (endsP its) ++ [.int .i64 ((bufP its ++ varM n).length : Int)]) :: Γ) (by (repeat (first | exact List.Sublist.refl _ | apply List.Sublist.cons_cons | apply List.Sublist.cons))) ?_
          have hb2 : bufP (its ++ [.num n]) = bufP its ++ varM n := bufP_snoc _ _
          have hl3 : (its ++ [Pc.num n]).length = its.length + 1 := by simp
          refine hk' _ _ ⟨rfl, rfl, rfl, rfl, fun x hx => ?_, A', c', B', d', congrArg (fun z : Nat => Value.slice A' z c') (congrArg List.length hb2).symm, by rw [hb2]; exact hc', congrArg (fun z : Nat => Value.slice B' z d') hl3.symm, by rw [hl3]; exact hd', ?_⟩
          · rcases List.mem_append.1 hx with h | h
            · exact hok x h
            · obtain rfl : x = .num n := by simpa using h
              exact hn64
          · show _ = bsA _ (.slice A' (bufP (its ++ [.num n])).length c') (bufP (its ++ [.num n])) :: own _ 1 (.slice B' (its ++ [Pc.num n]).length d') (its ++ [Pc.num n]).length (nums .i64 (endsP (its ++ [.num n]))) :: Γ
            rw [endsP_snoc, nums_snoc, hb2, hl3]
      · have hn : xs[i]? = none := List.getElem?_eq_none (by omega)
        rw [hn] at hk'
        refine m_run ?_
        refine hk' _ _ ⟨rfl, rfl, rfl, rfl, ?_⟩
        rw [show its ++ (none : Option Nat).toList.map Pc.num = its by simp]
        exact ⟨hok, A, c, B, d, rfl, hc, rfl, hd, rfl⟩
    clear hok hc hd hl2 hbu e7 e8 e0 e1 e2 e9
    have hl2' : (its ++ xs[i]?.toList.map Pc.num).length ≤ 2 * i + 1 := by
      have := toP_len xs bs i
      rw [hits] at this
      cases xs[i]? <;> simp <;> omega
    obtain ⟨its2, hits2⟩ : ∃ its2, its ++ xs[i]?.toList.map Pc.num = its2 := ⟨_, rfl⟩
    rw [hits2] at hl2' ⊢
    have hst : toP xs bs (i + 1) = its2 ++ bs[i]?.toList.map .str := by rw [toP, hits, stepP, ← List.append_assoc, hits2]
    clear hits hits2 its
    revert its2
    intro its hl2 hst
    rintro ρ' _ ⟨e0, e1, e2, e9, hok, A, c, B, d, e7, hc, e8, hd, rfl⟩
    refine TK.know6 e0 e1 e2 e9 e7 e8 ?_
    have hbu := bufP_len hok
    refine m_run ?_
    by_cases h1 : i < ss.length
    · obtain ⟨sl, hsl⟩ : ∃ sl, ss[i]? = some sl := ⟨ss[i], by simp [h1]⟩
      have hb : bs[i]? = some sl.l := by rw [← hbs, List.getElem?_map, hsl]; rfl
      rw [hb, show (some sl.l).toList.map Pc.str = [Pc.str sl.l] from rfl] at hst
      have hsrc := hss sl (List.mem_of_getElem? hsl)
      refine TK.mem fun m0 hm0 => ?_
      obtain ⟨b0, o0, rfl⟩ := src_some (has_tls (has_tls hs) m0 hm0) (by simp; omega)
      have hcell := has_get hs (slsV_get hsl)
      by_cases h300 : 300 < sl.l.length
      · refine m_run ?_
        (apply TL.callV; exact rfl; exact callB_of (by kernel_rfl); exact rfl; exact fun _ h => h)
        exact works1_t _
        rintro _ _ ⟨rfl, rfl⟩
        refine m_run ?_
        (apply TK.retS1; exact rfl; exact rfl; (exact m_val))
        · exact ⟨_, rfl, rfl, rfl⟩
        · (repeat (first | exact List.Sublist.refl _ | apply List.Sublist.cons_cons | apply List.Sublist.cons))
      have hvl := varM_len sl.l.length (by omega)
      refine m_run ?_
      (apply TL.callV; exact rfl; exact callB_of (by kernel_rfl); exact rfl; exact fun _ h => h)
      exact putbytes_t A sl.A _ c sl.l.length sl.c (bufP its) sl.l _ (has_bs 0 rfl) (has_tls (has_tls hsrc)) (by omega) (by omega)
      rintro _ _ ⟨A', c', rfl, hc', rfl⟩
      have hb2 : bufP its ++ varM sl.l.length ++ sl.l = bufP (its ++ [.str sl.l]) := by rw [bufP_snoc, List.append_assoc]; rfl
      rw [hb2] at hc' ⊢
      have hbl2 : (bufP (its ++ [.str sl.l])).length = (bufP its).length + (varM sl.l.length).length + sl.l.length := by rw [← hb2, List.length_append, List.length_append]
      refine m_run ?_
      (apply TL.buildSlice; exact rfl; exact tb rfl; exact rfl; exact tb rfl; exact rfl; exact rfl; exact rfl; exact rfl; (exact m_lst))
      intro b1
      refine m_run ?_
      (apply TL.append 3; exact rfl; exact rfl; exact tb rfl; exact rfl; exact tb rfl; exact rfl; exact rfl; exact rfl)
      · exact fun _ h => h
      · exact rfl
      · exact has_src_row 0 rfl rfl
      · exact one_of rfl
      · show (its.length + 1) * 8 ≤ _; omega
      · show its.length + 1 ≤ maxLen; unfold maxLen; omega
      · exact fun _ => (rfl : _ = _ :: _ :: _ :: _ :: _)
      intro B' d' hd'
      refine m_run ?_
      have hl3 : (its ++ [Pc.str sl.l]).length = its.length + 1 := by simp
      refine TK.sub (Δ := bsA 5 (.slice A' (bufP (its ++ [.str sl.l])).length c') (bufP (its ++ [.str sl.l])) :: own 3 1 (.slice B' (its.length + 1) d') (its.length + 1) (nums .i64 (endsP its) ++ [.int .i64 ((bufP (its ++ [.str sl.l])).length : Int)]) :: Γ) (by (repeat (first | exact List.Sublist.refl _ | apply List.Sublist.cons_cons | apply List.Sublist.cons))) ?_
      refine IH (j - 1) _ _ (by omega) ⟨i + 1, by omega, rfl, rfl, rfl, congrArg (Value.int .i64) (i64_succ i (by omega)), ?_⟩
      rw [hst]
      refine ⟨fun x hx => ?_, A', c', B', d', rfl, hc', congrArg (fun z : Nat => Value.slice B' z d') hl3.symm, by rw [hl3]; exact hd', ?_⟩
      · rcases List.mem_append.1 hx with h | h
        · exact hok x h
        · obtain rfl : x = .str sl.l := by simpa using h
          exact (show sl.l.length ≤ 300 by omega)
      · rw [endsP_snoc, nums_snoc, hl3]
    · have hn : bs[i]? = none := List.getElem?_eq_none (by omega)
      rw [hn, show its ++ (none : Option (List UInt8)).toList.map Pc.str = its by simp] at hst
      refine m_run ?_
      refine IH (j - 1) _ _ (by omega) ⟨i + 1, by omega, rfl, rfl, rfl, congrArg (Value.int .i64) (i64_succ i (by omega)), ?_⟩
      rw [hst]
      exact ⟨hok, A, c, B, d, rfl, hc, rfl, hd, rfl⟩
  · obtain rfl : i = max xs.length ss.length := by omega
    obtain ⟨its, hits⟩ : ∃ its, toP xs bs (max xs.length ss.length) = its := ⟨_, rfl⟩
    rw [hits] at hok hc hd hl2 ⊢
    have hbu := bufP_len hok
    clear IH e0 e1 e2 e9 e7 e8
    obtain ⟨L, hL⟩ : ∃ L, (bufP its).length = L := ⟨_, rfl⟩
    rw [hL] at hbu hc
    obtain ⟨cut, hcut⟩ : ∃ cut, wd % (L + 1) = cut := ⟨_, rfl⟩
    have hcutL : cut ≤ L := by have := Nat.mod_lt wd (show 0 < L + 1 by omega); omega
    refine m_run ?_
    refine TL.know (t := 99) (v := .int .u16 (wd : Int)) rfl ?_
    rw [hL]
    refine m_run ?_
    refine TL.know (t := 100) (v := .int .i64 (wd : Int)) (congrArg (Value.int .i64) (i64_nat (by omega))) ?_
    refine TL.know (t := 103) (v := .int .i64 ((L + 1 : Nat) : Int)) (congrArg (Value.int .i64) (i64_succ L (by omega))) ?_
    (apply TL.pv; exact rfl; (apply PV.remN (n := wd) (m := L + 1); exact rfl; exact rfl; exact rfl; exact (by omega)))
    rw [hcut]
    refine m_run ?_
    apply TK.iter (fun j ρ' Γ' => ∃ (i : Nat) (pre : List Pc), i + j = max xs.length ss.length ∧ toP xs bs i = pre ∧ (bufP pre).length ≤ cut ∧ lk ρ' 0 = .slice A0 xs.length c0 ∧ lk ρ' 1 = .slice B0 ss.length c1 ∧ lk ρ' 7 = .slice A L c ∧ lk ρ' 8 = .slice B its.length d ∧ lk ρ' 13 = .int .i64 (cut : Int) ∧ lk ρ' 14 = .int .i64 ((bufP pre).length : Int) ∧ lk ρ' 15 = .int .i64 (pre.length : Int) ∧ lk ρ' 16 = .int .i64 (i : Int) ∧
      Γ' = bsA 5 (.slice A L c) (bufP its) :: own 3 1 (.slice B its.length d) its.length (nums .i64 (endsP its)) :: Γ) (max xs.length ss.length)
    · exact ⟨0, [], Nat.zero_add _, rfl, Nat.zero_le _, rfl, rfl, rfl, rfl, rfl, rfl, rfl, rfl, rfl⟩
    clear hij
    rintro j IH ρ' _ ⟨i, pre, hij, hpre, hpc, e0, e1, e7, e8, e13, e14, e15, e16, rfl⟩
    refine TK.know8 e0 e1 e7 e8 e13 e14 e15 e16 ?_
    by_cases hi2 : i < max xs.length ss.length
    · have hst : toP xs bs (i + 1) = pre ++ xs[i]?.toList.map .num ++ bs[i]?.toList.map .str := by rw [toP, hpre, stepP, ← List.append_assoc]
      obtain ⟨post, hpost⟩ := toP_pre xs bs (i + 1) (max xs.length ss.length - (i + 1))
      rw [show i + 1 + (max xs.length ss.length - (i + 1)) = max xs.length ss.length by omega, hits, hst] at hpost
      refine TK.mem fun m0 hm0 => ?_
      have hlen0 : 0 < its.length := by
        rw [hpost]
        by_cases h1 : i < xs.length
        · have : xs[i]? = some xs[i] := by simp [h1]
          rw [this]; simp; omega
        · have : bs[i]? = some (bs[i]'(by omega)) := by simp [show i < bs.length by omega]
          rw [this]; simp; omega
      obtain ⟨b1, o1, rfl⟩ := src_some (has_at (Γ := _ :: own 3 1 (.slice B its.length d) its.length (nums .i64 (endsP its)) :: Γ) (up_src _ _ _ _) 1 rfl (fun _ h => own_src h) m0 hm0) (by rw [nums_length, endsP_length]; exact hlen0)
      have hown : has (bsA 5 (.slice A L c) (bufP its) :: own 3 1 (.slice (some ⟨b1, o1, none⟩) its.length d) its.length (nums .i64 (endsP its)) :: Γ) (srcAt 1 (some ⟨b1, o1, none⟩) its.length (nums .i64 (endsP its))) := has_at (up_src _ _ _ _) 1 rfl fun _ h => own_src h
      refine m_run ?_
      refine TK.cut (I := fun ρ' Γ' => ∃ pre2, pre2 = pre ++ xs[i]?.toList.map .num ∧ (bufP pre2).length ≤ cut ∧ lk ρ' 0 = .slice A0 xs.length c0 ∧ lk ρ' 1 = .slice B0 ss.length c1 ∧ lk ρ' 7 = .slice A L c ∧ lk ρ' 8 = .slice (some ⟨b1, o1, none⟩) its.length d ∧ lk ρ' 13 = .int .i64 (cut : Int) ∧ lk ρ' 14 = .int .i64 ((bufP pre2).length : Int) ∧ lk ρ' 15 = .int .i64 (pre2.length : Int) ∧ lk ρ' 16 = .int .i64 (i : Int) ∧
        Γ' = bsA 5 (.slice A L c) (bufP its) :: own 3 1 (.slice (some ⟨b1, o1, none⟩) its.length d) its.length (nums .i64 (endsP its)) :: Γ) ?_ ?_
      · intro k' hk'
        by_cases h1 : i < xs.length
        · obtain ⟨n, hn⟩ : ∃ n, xs[i]? = some n := ⟨xs[i], by simp [h1]⟩
          have hn64 := hxs n (List.mem_of_getElem? hn)
          rw [hn, show (some n).toList.map Pc.num = [Pc.num n] from rfl] at hk' hpost
          refine TK.mem fun m0 hm0 => ?_
          obtain ⟨b0, o0, rfl⟩ := src_some (has_tls (has_tls hx) m0 hm0) (by simp [natsV]; omega)
          have hcell := has_get hx (natsV_get (q := .u64) hn)
          obtain ⟨rs, hrs⟩ : ∃ rs, bs[i]?.toList.map Pc.str ++ post = rs := ⟨_, rfl⟩
          have hits2 : its = pre ++ .num n :: rs := by rw [hpost, ← hrs]; simp
          have hpl : pre.length < its.length := by rw [hits2]; simp
          have hendv : (endsP its)[pre.length]? = some ((bufP (pre ++ [.num n])).length : Int) := by rw [hits2]; exact endsP_get _ _ _
          have hend := has_get hown (v := .int .i64 ((bufP (pre ++ [.num n])).length : Int)) (i := pre.length) (by simp [nums, hendv])
          refine m_run ?_
          (apply TL.sliceS (i := 0) (j := cut); exact rfl; exact rfl; exact tb rfl; exact rfl; exact tb rfl; exact .none; exact .some rfl; exact has_bs 0 rfl; exact Nat.zero_le _; exact hcutL; exact hc)
          intro A3 hs3
          have hs4 := has_part (l := bufP its) (i := 0) hs3 (by omega)
          rw [Nat.sub_zero, List.drop_zero] at hs4
          have htv := takeV_cut (bufP pre) (bufP rs) n cut hn64 hpc
          have hbi : bufP pre ++ varM n ++ bufP rs = bufP its := by rw [hits2]; simp [bufP, Pc.enc]
          have hb3 : bufP (pre ++ [.num n]) = bufP pre ++ varM n := bufP_snoc _ _
          rw [hbi, ← hb3] at htv
          refine m_run ?_
          (apply TL.callV; exact rfl; exact callB_of (by kernel_rfl); exact rfl; exact fun _ h => h)
          exact takevar_t A3 cut c ((bufP its).take cut) ((bufP pre).length : Int) _ hs4 (by omega) (by rw [List.length_take]; omega)
          rintro _ _ ⟨rfl, rfl⟩
          by_cases hwh : (bufP (pre ++ [.num n])).length ≤ cut
          · rw [if_pos hwh] at htv
            rw [htv, show tkV (n, (bufP (pre ++ [Pc.num n])).length, 0) = .tuple #[.int .u64 (n : Int), .int .i64 ((bufP (pre ++ [Pc.num n])).length : Int), .int .i64 0] from rfl]
            refine m_run ?_
            refine TL.know (t := 137) (v := .bool false) (congrArg Value.bool (by rw [show decide (((bufP (pre ++ [Pc.num n])).length : Int) ≤ (cut : Int)) = true from decide_eq_true (by omega)]; rfl)) ?_
            refine TL.know (t := 20) (v := .bool true) (congrArg Value.bool (decide_eq_true (by omega))) ?_
            refine m_run ?_
            refine hk' _ _ ⟨pre ++ [.num n], rfl, hwh, rfl, rfl, rfl, rfl, rfl, rfl, congrArg (Value.int .i64) ?_, rfl, rfl⟩
            rw [i64_succ _ (by omega)]
            simp
          · rw [if_neg hwh] at htv
            rw [htv, show tkV (0, 0, 5) = .tuple #[.int .u64 0, .int .i64 0, .int .i64 5] from rfl]
            refine m_run ?_
            refine TL.know (t := 137) (v := .bool false) (congrArg Value.bool (by rw [show decide (((bufP (pre ++ [Pc.num n])).length : Int) ≤ (cut : Int)) = false from decide_eq_false (by omega)]; rfl)) ?_
            refine TL.know (t := 20) (v := .bool false) (congrArg Value.bool (decide_eq_false (by omega))) ?_
            refine m_run ?_
            (apply TL.callV; exact rfl; exact callB_of (by kernel_rfl); exact rfl; exact fun _ h => h)
            exact works1_t _
            rintro _ _ ⟨rfl, rfl⟩
            refine m_run ?_
            (apply TK.retS1; exact rfl; exact rfl; (exact m_val))
            · exact ⟨_, rfl, rfl, rfl⟩
            · (repeat (first | exact List.Sublist.refl _ | apply List.Sublist.cons_cons | apply List.Sublist.cons))
        · have hn : xs[i]? = none := List.getElem?_eq_none (by omega)
          rw [hn] at hk'
          refine m_run ?_
          refine hk' _ _ ⟨pre, by simp, hpc, rfl, rfl, rfl, rfl, rfl, rfl, rfl, rfl, rfl⟩
      obtain ⟨pre2, hpre2⟩ : ∃ pre2, pre ++ xs[i]?.toList.map Pc.num = pre2 := ⟨_, rfl⟩
      rw [hpre2] at hst hpost ⊢
      clear hpc e0 e1 e7 e8 e13 e14 e15 e16 hpre2 hpre pre
      rintro ρ' _ ⟨pre, rfl, hpc, e0, e1, e7, e8, e13, e14, e15, e16, rfl⟩
      refine TK.know8 e0 e1 e7 e8 e13 e14 e15 e16 ?_
      refine m_run ?_
      by_cases h1 : i < ss.length
      · obtain ⟨sl, hsl⟩ : ∃ sl, ss[i]? = some sl := ⟨ss[i], by simp [h1]⟩
        have hb : bs[i]? = some sl.l := by rw [← hbs, List.getElem?_map, hsl]; rfl
        rw [hb, show (some sl.l).toList.map Pc.str = [Pc.str sl.l] from rfl] at hst hpost
        have hsrc := hss sl (List.mem_of_getElem? hsl)
        refine TK.mem fun m0 hm0 => ?_
        obtain ⟨b0, o0, rfl⟩ := src_some (has_tls (has_tls hs) m0 hm0) (by simp; omega)
        have hcell := has_get hs (slsV_get hsl)
        have hits2 : its = pre ++ .str sl.l :: post := by rw [hpost]; simp
        have h300 : sl.l.length ≤ 300 := hok (.str sl.l) (by rw [hits2]; simp)
        have hpl : pre.length < its.length := by rw [hits2]; simp
        have hendv : (endsP its)[pre.length]? = some ((bufP (pre ++ [.str sl.l])).length : Int) := by rw [hits2]; exact endsP_get _ _ _
        have hend := has_get hown (v := .int .i64 ((bufP (pre ++ [.str sl.l])).length : Int)) (i := pre.length) (by simp [nums, hendv])
        refine m_run ?_
        (apply TL.sliceS (i := 0) (j := cut); exact rfl; exact rfl; exact tb rfl; exact rfl; exact tb rfl; exact .none; exact .some rfl; exact has_bs 0 rfl; exact Nat.zero_le _; exact hcutL; exact hc)
        intro A3 hs3
        have hs4 := has_part (l := bufP its) (i := 0) hs3 (by omega)
        rw [Nat.sub_zero, List.drop_zero] at hs4
        have htv := takeBy_cut (bufP pre) sl.l (bufP post) cut h300 hpc
        have hbi : bufP pre ++ (varM sl.l.length ++ sl.l) ++ bufP post = bufP its := by rw [hits2]; simp [bufP, Pc.enc]
        have hb3 : bufP (pre ++ [.str sl.l]) = bufP pre ++ (varM sl.l.length ++ sl.l) := bufP_snoc _ _
        rw [hbi, ← hb3] at htv
        refine m_run ?_
        (apply TL.callV; exact rfl; exact callB_of (by kernel_rfl); exact rfl; exact fun _ h => h)
        exact takebytes_t A3 cut c ((bufP its).take cut) ((bufP pre).length : Int) 300 _ hs4 (by omega) (by rw [List.length_take]; omega) (by decide) (by decide)
        rw [htv]
        by_cases hwh : (bufP (pre ++ [.str sl.l])).length ≤ cut
        · rw [if_pos hwh]
          rintro v8 Γ8 h8
          obtain ⟨A8, d8, rfl, hd8, rfl⟩ : ∃ A c, v8 = .tuple #[.slice A sl.l.length c, .int .i64 ((bufP (pre ++ [Pc.str sl.l])).length : Int), .int .i64 0] ∧ sl.l.length ≤ c ∧ Γ8 = bsA 5 (.slice A sl.l.length c) sl.l :: _ := h8
          refine m_run ?_
          refine TK.know (t := 24) (v := .bool true) (congrArg Value.bool (decide_eq_true (by omega))) ?_
          refine m_quiet ?_
          refine m_run ?_
          refine TK.sub (Δ := bsA 5 (.slice A L c) (bufP its) :: own 3 1 (.slice (some ⟨b1, o1, none⟩) its.length d) its.length (nums .i64 (endsP its)) :: Γ) (by (repeat (first | exact List.Sublist.refl _ | apply List.Sublist.cons_cons | apply List.Sublist.cons))) ?_
          refine IH (j - 1) _ _ (by omega) ⟨i + 1, pre ++ [Pc.str sl.l], by omega, hst, hwh, rfl, rfl, rfl, rfl, rfl, rfl, congrArg (Value.int .i64) ?_, congrArg (Value.int .i64) (i64_succ i (by omega)), rfl⟩
          rw [i64_succ _ (by omega)]
          simp
        · rw [if_neg hwh]
          rintro v8 Γ8 h8
          obtain ⟨A8, d8, rfl, hd8, rfl⟩ : ∃ A c, v8 = .tuple #[.slice A 0 c, .int .i64 0, .int .i64 5] ∧ 0 ≤ c ∧ Γ8 = bsA 5 (.slice A 0 c) [] :: _ := h8
          refine m_run ?_
          refine TK.know (t := 24) (v := .bool false) (congrArg Value.bool (decide_eq_false (by omega))) ?_
          refine m_quiet ?_
          refine m_run ?_
          (apply TL.callV; exact rfl; exact callB_of (by kernel_rfl); exact rfl; exact fun _ h => h)
          exact works1_t _
          rintro _ _ ⟨rfl, rfl⟩
          refine m_run ?_
          (apply TK.retS1; exact rfl; exact rfl; (exact m_val))
          · exact ⟨_, rfl, rfl, rfl⟩
          · (repeat (first | exact List.Sublist.refl _ | apply List.Sublist.cons_cons | apply List.Sublist.cons))
      · have hn : bs[i]? = none := List.getElem?_eq_none (by omega)
        rw [hn, show pre ++ (none : Option (List UInt8)).toList.map Pc.str = pre by simp] at hst
        refine m_run ?_
        refine IH (j - 1) _ _ (by omega) ⟨i + 1, pre, by omega, hst, hpc, rfl, rfl, rfl, rfl, rfl, rfl, rfl, congrArg (Value.int .i64) (i64_succ i (by omega)), rfl⟩
    · obtain rfl : i = max xs.length ss.length := by omega
      obtain rfl : its = pre := by rw [← hits, hpre]
      refine m_run ?_
      (apply TL.callV; exact rfl; exact callB_of (by kernel_rfl); exact rfl; exact fun _ h => h)
      exact works1_t _
      rintro _ _ ⟨rfl, rfl⟩
      refine m_run ?_
      (apply TK.retS1; exact rfl; exact rfl; (exact m_val))
      · exact ⟨_, rfl, rfl, rfl⟩
      · (repeat (first | exact List.Sublist.refl _ | apply List.Sublist.cons_cons | apply List.Sublist.cons))
end Go.Proofs.Ytoccilnobgoncaa.E
