/- Tables of many names: the document's Put and Of, the program's Of; 'few'. -/
import Derived.Test.YtoccilnobgoncaaY7
namespace Go.Proofs.Ytoccilnobgoncaa.E
open Go Go.RowKit Go.Proofs
attribute [local irreducible] TK TL TQ TA Fn PV
abbrev refAt (rt : Nat) (v : Value) (L : List (List UInt8)) (Γ : List HP) : List HP := row rt [v] 66 :: own 9 1 v L.length (strs L) :: Γ
theorem refput_t (rt : Nat) (v : Value) (L : List (List UInt8)) (k : List UInt8) (Γ : List HP) (hk : k.length ≤ 1000000) (hL : L.length ≤ 4096) :
    FnV Try.prog 36 [.pointer (some ⟨rt, 0, none⟩), strV k] (refAt rt v L Γ) fun r Γ' => ∃ v', r = .tuple #[numV (putM L k).1, .int .i64 (putM L k).2.1] ∧ Γ' = refAt rt v' (putM L k).2.2 Γ := by
  refine Fn.enter Try.func36 rfl rfl rfl fun E => ?_
  refine TK.fact (all_at 1 rfl fun _ h => own_shape h) ?_
  rintro ⟨A, c, rfl, hLc⟩
  have hc0 : has (refAt rt (.slice A L.length c) L Γ) (fun m => cellAt m rt 0 (.slice A L.length c)) := has_row 0 rfl rfl
  have hs0 : has (refAt rt (.slice A L.length c) L Γ) (srcAt 1 A L.length (strs L)) := has_at (up_src _ _ _ _) 1 rfl fun _ h => own_src h
  refine m_run ?_
  (apply TL.callV; exact rfl; exact callB_of (by kernel_rfl); exact rfl; exact fun _ h => h)
  exact refmay_t k _ hk
  rintro _ _ ⟨rfl, rfl⟩
  cases hmay : mayB k with
  | false =>
    have hp : putM L k = (0, 8, L) := by rw [putM, hmay]; rfl
    rw [hp]
    refine m_run ?_
    (apply TK.ret2; exact rfl; (exact m_val); (exact m_val))
    exact ⟨_, rfl, _, rfl, rfl⟩
  | true =>
    refine m_run ?_
    (apply TL.callV; exact rfl; exact callB_of (by kernel_rfl); exact rfl; exact fun _ h => h)
    exact reffind_t rt A c L k _ hc0 hs0 (by omega)
    rintro _ _ ⟨rfl, rfl⟩
    cases hf : findName L k with
    | some n =>
      have hp : putM L k = (n, 0, L) := by rw [putM, hmay, hf]; rfl
      rw [hp, show findI L k = (n : Int) by rw [findI, hf]]
      obtain ⟨hn, _⟩ := findName_some hf
      refine m_run ?_
      (apply TK.ret2; exact rfl; exact congrArg (Value.int .u32) (u32_in (x := (n : Int)) (by omega) (by omega)); (exact m_val))
      exact ⟨_, rfl, _, rfl, rfl⟩
    | none =>
      rw [show findI L k = -1 by rw [findI, hf]]
      by_cases hfull : 4096 ≤ L.length
      · have hp : putM L k = (0, 6, L) := by rw [putM, hmay, hf]; exact if_pos hfull
        rw [hp]
        refine m_run ?_
        (apply TK.ret2; exact rfl; (exact m_val); (exact m_val))
        exact ⟨_, rfl, _, rfl, rfl⟩
      · have hp : putM L k = (L.length, 0, L ++ [k]) := by rw [putM, hmay, hf]; exact if_neg hfull
        rw [hp]
        refine m_run ?_
        (apply TL.buildSlice; exact rfl; exact tb rfl; exact rfl; exact tb rfl; exact rfl; exact rfl; exact rfl; exact rfl; (exact m_lst))
        intro b8
        refine m_run ?_
        (apply TL.appendE 2; exact rfl; exact rfl; exact tb rfl; exact rfl; exact tb rfl; exact rfl; exact rfl; exact rfl)
        exact fun m hm => hm
        exact rfl
        exact has_src_row 0 rfl rfl
        exact one_of rfl
        · exact Nat.le_trans (Nat.mul_le_mul_right _ (by omega : L.length + 1 ≤ 4096)) (by decide)
        · unfold maxLen; omega
        · exact rfl
        · exact (rfl : _ = strs L ++ [strV k])
        exact fun _ => (rfl : _ = _ :: _ :: _ :: _)
        intro A2 c2 hc2
        refine m_run ?_
        refine TK.sub (Δ := row rt [.slice A2 (L.length + 1) c2] 66 :: own 9 1 (.slice A2 (L.length + 1) c2) (L.length + 1) (strs L ++ [strV k]) :: Γ) (by (repeat (first | exact List.Sublist.refl _ | apply List.Sublist.cons_cons | apply List.Sublist.cons))) ?_
        rw [own_snoc]
        (apply TK.ret2; exact rfl; exact congrArg (Value.int .u32) (show IntKind.u32.wrap (IntKind.i64.wrap (((L.length + 1 : Nat) : Int) - 1)) = (L.length : Int) by rw [i64_in (by omega) (by omega), u32_in (by omega) (by omega)]; omega); (exact m_val))
        exact ⟨_, rfl, _, rfl, rfl⟩
theorem putM_len {L : List (List UInt8)} {k : List UInt8} (h : L.length ≤ 4096) : (putM L k).2.2.length ≤ 4096 := by
  unfold putM
  cases mayB k with
  | false => exact h
  | true =>
    show (match findName L k with | some n => (n, (0 : Int), L) | none => if 4096 ≤ L.length then (0, 6, L) else (L.length, 0, L ++ [k])).2.2.length ≤ 4096
    split
    · exact h
    · split
      · exact h
      · simp; omega
/-- Names put one by one, until one may not be. -/
def ofM : List (List UInt8) → List (List UInt8) → Option (List (List UInt8)) × Int
  | L, [] => (some L, 0)
  | L, k :: ks => if (putM L k).2.1 = 0 then ofM (putM L k).2.2 ks else (none, (putM L k).2.1)
theorem ofM_cons (L : List (List UInt8)) (k : List UInt8) (ks : List (List UInt8)) : ofM L (k :: ks) = if (putM L k).2.1 = 0 then ofM (putM L k).2.2 ks else (none, (putM L k).2.1) := rfl
theorem ofM_len : ∀ (ks L M : List (List UInt8)), L.length ≤ 4096 → (ofM L ks).1 = some M → M.length ≤ 4096
  | [], L, M, h, hm => by simp [ofM] at hm; subst hm; exact h
  | k :: ks, L, M, h, hm => by
    rw [ofM_cons] at hm
    split at hm
    · exact ofM_len ks _ M (putM_len h) hm
    · cases hm
theorem of_t (A : Option Addr) (c : Nat) (ks : List (List UInt8)) (Γ : List HP) (hs : has Γ (srcAt 1 A ks.length (strs ks))) (hlen : ks.length ≤ 1000000) (hk : ∀ k ∈ ks, k.length ≤ 1000000) :
    FnV Try.prog 34 [.slice A ks.length c] Γ fun r Γ' => (∃ M bt mb v, (ofM [] ks) = (some M, 0) ∧ r = .tuple #[.pointer (some ⟨bt, 0, none⟩), .int .i64 0] ∧ Γ' = tabAt bt mb v M Γ) ∨ (∃ e, e ≠ 0 ∧ ofM [] ks = (none, e) ∧ r = .tuple #[.pointer none, .int .i64 e] ∧ Γ' = Γ) := by
  refine Fn.enter Try.func34 rfl rfl rfl fun E => ?_
  refine m_run ?_
  (apply TL.callV; exact rfl; exact callB_of (by kernel_rfl); exact rfl; exact fun _ h => h)
  exact new_tab _
  rintro _ _ ⟨bt, mb, rfl, rfl⟩
  refine m_run ?_
  apply TK.iter (fun j ρ' Γ' => ∃ (i : Nat) (L : List (List UInt8)) (v : Value), i + j = ks.length ∧ L.length ≤ 4096 ∧ ofM [] ks = ofM L (ks.drop i) ∧ lk ρ' 4 = .pointer (some ⟨bt, 0, none⟩) ∧ lk ρ' 10 = .slice A ks.length c ∧ lk ρ' 11 = .int .i64 ks.length ∧ lk ρ' 12 = .int .i64 i ∧ Γ' = tabAt bt mb v L Γ) ks.length
  · exact ⟨0, [], _, by omega, by simp, rfl, rfl, rfl, rfl, rfl, rfl⟩
  rintro j IH ρ' Γ' ⟨i, L, v, hij, hL, hof, e4, e10, e11, e12, rfl⟩
  refine TK.know4 e4 e10 e11 e12 ?_
  by_cases hi : i < ks.length
  · have hx : ks[i]? = some ks[i] := by simp [hi]
    have hxm : ks[i] ∈ ks := by simp
    rw [List.drop_eq_getElem_cons hi, ofM_cons] at hof
    generalize ks[i] = x at hx hxm hof
    have hs2 : has (tabAt bt mb v L Γ) (srcAt 1 A ks.length (strs ks)) := has_tls (has_tls (has_tls hs))
    refine TK.fact (fun m hm => src_some1 (hs2 m hm) (by rw [strs_length]; omega)) ?_
    rintro ⟨b, o, rfl⟩
    have hc := has_str hs2 hx
    refine m_run ?_
    (apply TL.callV; exact rfl; exact callB_of (by kernel_rfl); exact rfl; exact fun _ h => h)
    exact put_tab bt mb v L x Γ (hk x hxm) hL
    rintro _ _ ⟨v', rfl, rfl⟩
    by_cases he : (putM L x).2.1 = 0
    · rw [if_pos he] at hof
      refine m_run ?_
      refine IH (j - 1) _ _ (by omega) ⟨i + 1, (putM L x).2.2, v', by omega, putM_len hL, hof, rfl, rfl, rfl, congrArg (Value.int .i64) (i64_succ i (by omega)), rfl⟩
    · rw [if_neg he] at hof
      refine m_run ?_
      (apply TK.retS2; exact rfl; (exact m_val); (exact m_val))
      · exact ⟨_, rfl, .inr ⟨_, he, hof, rfl, rfl⟩⟩
      · (repeat (first | exact List.Sublist.refl _ | apply List.Sublist.cons_cons | apply List.Sublist.cons))
  · rw [List.drop_of_length_le (by omega)] at hof
    refine m_run ?_
    (apply TK.ret2; exact rfl; (exact m_val); (exact m_val))
    exact ⟨_, rfl, .inl ⟨L, bt, mb, v, hof, rfl, rfl⟩⟩
set_option maxRecDepth 100000 in
theorem refof_t (A : Option Addr) (c : Nat) (ks : List (List UInt8)) (Γ : List HP) (hs : has Γ (srcAt 1 A ks.length (strs ks))) (hlen : ks.length ≤ 1000000) (hk : ∀ k ∈ ks, k.length ≤ 1000000) :
    FnV Try.prog 35 [.slice A ks.length c] Γ fun r Γ' => (∃ M rt v, (ofM [] ks) = (some M, 0) ∧ r = .tuple #[.pointer (some ⟨rt, 0, none⟩), .int .i64 0] ∧ Γ' = refAt rt v M Γ) ∨ (∃ e, e ≠ 0 ∧ ofM [] ks = (none, e) ∧ r = .tuple #[.pointer none, .int .i64 e] ∧ Γ' = Γ) := by
  refine Fn.enter Try.func35 rfl rfl rfl fun E => ?_
  refine m_run ?_
  refine TL.free (H := own 9 1 (.slice none 0 0) 0 []) (fun m hm => own_nil _ _ hm) ?_
  (apply TL.build tabs; exact rfl; exact rfl; exact rfl; exact rfl; exact rfl; exact rfl; (exact m_lst))
  refine m_run ?_
  (apply TL.box; exact rfl; exact rfl; (exact m_lst))
  intro rt
  refine m_run ?_
  apply TK.iter (fun j ρ' Γ' => ∃ (i : Nat) (L : List (List UInt8)) (v : Value), i + j = ks.length ∧ L.length ≤ 4096 ∧ ofM [] ks = ofM L (ks.drop i) ∧ lk ρ' 0 = .slice A ks.length c ∧ lk ρ' 4 = .pointer (some ⟨rt, 0, none⟩) ∧ lk ρ' 5 = .int .i64 i ∧ Γ' = refAt rt v L Γ) ks.length
  · exact ⟨0, [], _, by omega, by simp, rfl, rfl, rfl, rfl, rfl⟩
  rintro j IH ρ' Γ' ⟨i, L, v, hij, hL, hof, e0, e4, e5, rfl⟩
  refine TK.know3 e0 e4 e5 ?_
  by_cases hi : i < ks.length
  · have hx : ks[i]? = some ks[i] := by simp [hi]
    have hxm : ks[i] ∈ ks := by simp
    rw [List.drop_eq_getElem_cons hi, ofM_cons] at hof
    generalize ks[i] = x at hx hxm hof
    have hs2 : has (refAt rt v L Γ) (srcAt 1 A ks.length (strs ks)) := has_tls (has_tls hs)
    refine TK.fact (fun m hm => src_some1 (hs2 m hm) (by rw [strs_length]; omega)) ?_
    rintro ⟨b, o, rfl⟩
    have hc := has_str hs2 hx
    refine m_run ?_
    (apply TL.callV; exact rfl; exact callB_of (by kernel_rfl); exact rfl; exact fun _ h => h)
    exact refput_t rt v L x Γ (hk x hxm) hL
    rintro _ _ ⟨v', rfl, rfl⟩
    by_cases he : (putM L x).2.1 = 0
    · rw [if_pos he] at hof
      refine m_run ?_
      refine IH (j - 1) _ _ (by omega) ⟨i + 1, (putM L x).2.2, v', by omega, putM_len hL, hof, rfl, rfl, congrArg (Value.int .i64) (i64_succ i (by omega)), rfl⟩
    · rw [if_neg he] at hof
      refine m_run ?_
      (apply TK.retS2; exact rfl; (exact m_val); (exact m_val))
      · exact ⟨_, rfl, .inr ⟨_, he, hof, rfl, rfl⟩⟩
      · (repeat (first | exact List.Sublist.refl _ | apply List.Sublist.cons_cons | apply List.Sublist.cons))
  · rw [List.drop_of_length_le (by omega)] at hof
    refine m_run ?_
    (apply TK.ret2; exact rfl; (exact m_val); (exact m_val))
    exact ⟨_, rfl, .inl ⟨L, rt, v, hof, rfl, rfl⟩⟩
theorem few4_t (A : Option Addr) (c : Nat) (ks : List (List UInt8)) (Γ : List HP) (hs : has Γ (srcAt 1 A ks.length (strs ks))) :
    FnV Try.prog 33 [.slice A ks.length c] Γ fun v Γ' => ∃ f, v = .bool f ∧ Γ' = Γ ∧ (f = true → ks.length ≤ 300 ∧ ∀ k ∈ ks, k.length ≤ 200) := by
  refine Fn.enter Try.func33 rfl rfl rfl fun E => ?_
  by_cases hlen : 300 < ks.length
  · refine m_run ?_
    (apply TK.ret1; exact rfl; (exact m_val))
    exact ⟨_, rfl, false, rfl, rfl, by simp⟩
  · refine m_run ?_
    apply TK.iter (fun j ρ' Γ' => ∃ i : Nat, i + j = ks.length ∧ (∀ x ∈ ks.take i, x.length ≤ 200) ∧ lk ρ' 0 = .slice A ks.length c ∧ lk ρ' 3 = .int .i64 i ∧ Γ' = Γ) ks.length
    · exact ⟨0, by omega, by simp, rfl, rfl, rfl⟩
    rintro j IH ρ' Γ' ⟨i, hij, hall, e0, e3, rfl⟩
    refine TK.know2 e0 e3 ?_
    by_cases hi : i < ks.length
    · have hx : ks[i]? = some ks[i] := by simp [hi]
      have hall' : ks[i].length ≤ 200 → ∀ x ∈ ks.take (i + 1), x.length ≤ 200 := fun h5 x hx => by
        rw [List.take_succ_eq_append_getElem hi] at hx
        rcases List.mem_append.1 hx with hx | hx
        · exact hall x hx
        · simp at hx; subst hx; exact h5
      generalize ks[i] = x at hx hall'
      refine TK.fact (fun m hm => src_some1 (hs m hm) (by rw [strs_length]; omega)) ?_
      rintro ⟨b, o, rfl⟩
      have hc := has_str hs hx
      by_cases h200 : 200 < x.length
      · refine m_run ?_
        (apply TK.ret1; exact rfl; (exact m_val))
        exact ⟨_, rfl, false, rfl, rfl, by simp⟩
      · refine m_run ?_
        refine IH (j - 1) _ _ (by omega) ⟨i + 1, by omega, hall' (by omega), rfl, congrArg (Value.int .i64) (i64_succ i (by omega)), rfl⟩
    · rw [List.take_of_length_le (by omega)] at hall
      refine m_run ?_
      (apply TK.ret1; exact rfl; (exact m_val))
      exact ⟨_, rfl, true, rfl, rfl, fun _ => ⟨by omega, hall⟩⟩
end Go.Proofs.Ytoccilnobgoncaa.E
