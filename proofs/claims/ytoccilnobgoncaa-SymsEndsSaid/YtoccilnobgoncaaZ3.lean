/- SymsStay, whatever names are handed in: the walk: it answers true. -/
import Derived.Test.YtoccilnobgoncaaZ1
namespace Go.Proofs.Ytoccilnobgoncaa.E
open Go Go.RowKit Go.Proofs
attribute [local irreducible] TK TL TQ TA Fn PV
/-- What names a table may hold. -/
def Tab (M : List (List UInt8)) : Prop := M.Nodup ∧ ∀ y ∈ M, mayB y = true
theorem Tab.nil : Tab [] := ⟨by simp, by simp⟩
theorem putM_cases (L : List (List UInt8)) (x : List UInt8) (hT : Tab L) (hL : L.length < 4096) :
    (mayB x = false ∧ findName L x = none ∧ putM L x = (0, 8, L)) ∨ (mayB x = true ∧ ∃ n, findName L x = some n ∧ putM L x = (n, 0, L)) ∨ (mayB x = true ∧ x ∉ L ∧ putM L x = (L.length, 0, L ++ [x])) := by
  cases hm : mayB x with
  | false =>
    refine .inl ⟨rfl, ?_, by rw [putM, hm]; rfl⟩
    cases hf : findName L x with
    | none => rfl
    | some n =>
      have := hT.2 x (List.mem_of_getElem? (findName_some hf).2.1)
      rw [hm] at this; cases this
  | true =>
    cases hf : findName L x with
    | some n => exact .inr (.inl ⟨rfl, n, rfl, by rw [putM, hm, hf]; rfl⟩)
    | none => exact .inr (.inr ⟨rfl, findName_none hf, by rw [putM, hm, hf]; exact if_neg (by omega)⟩)
theorem Tab.snoc {L : List (List UInt8)} {x : List UInt8} (h : Tab L) (hm : mayB x = true) (hx : x ∉ L) : Tab (L ++ [x]) := by
  refine ⟨?_, ?_⟩
  · rw [List.nodup_append]
    exact ⟨h.1, by simp, fun a ha b hb => by simp at hb; subst hb; exact fun e => hx (e ▸ ha)⟩
  · intro y hy
    rcases List.mem_append.1 hy with hy | hy
    · exact h.2 y hy
    · simp at hy; subst hy; exact hm
theorem putM_tab {L : List (List UInt8)} {x : List UInt8} (h : Tab L) (hL : L.length < 4096) : Tab (putM L x).2.2 ∧ (putM L x).2.2.length ≤ L.length + 1 ∧ L <+: (putM L x).2.2 := by
  rcases putM_cases L x h hL with ⟨_, _, e⟩ | ⟨_, n, _, e⟩ | ⟨hm, hx, e⟩ <;> rw [e]
  · exact ⟨h, Nat.le_succ _, List.prefix_refl _⟩
  · exact ⟨h, Nat.le_succ _, List.prefix_refl _⟩
  · exact ⟨h.snoc hm hx, by simp, List.prefix_append _ _⟩
theorem ofM_all : ∀ (B A : List (List UInt8)), Tab (A ++ B) → (A ++ B).length ≤ 4096 → ofM A B = (some (A ++ B), 0)
  | [], A, _, _ => by simp [ofM]
  | x :: B, A, hT, hL => by
    have hm : mayB x = true := hT.2 x (by simp)
    have hx : x ∉ A := by
      have := hT.1
      rw [List.nodup_append] at this
      exact fun h => this.2.2 x h x (by simp) rfl
    have hA : Tab A := by
      refine ⟨?_, fun y hy => hT.2 y (by simp [hy])⟩
      have := hT.1
      rw [List.nodup_append] at this
      exact this.1
    have hlt : A.length < 4096 := by simp at hL; omega
    have hp : putM A x = (A.length, 0, A ++ [x]) := by
      rcases putM_cases A x hA hlt with ⟨h, _, _⟩ | ⟨_, n, h, _⟩ | ⟨_, _, h⟩
      · rw [hm] at h; cases h
      · exact (hx (List.mem_of_getElem? (findName_some h).2.1)).elim
      · exact h
    rw [ofM_cons, hp]
    have := ofM_all B (A ++ [x]) (by simpa using hT) (by simpa using hL)
    simpa using this
theorem perm13 {α : Type} (a b c d : α) (l : List α) : (a :: b :: c :: d :: l).Perm (b :: c :: d :: a :: l) := by
  have := (List.perm_append_comm (l₁ := [a]) (l₂ := [b, c, d])).append_right l
  simpa using this
set_option maxRecDepth 100000 in
theorem stay4_t (A0 A1 : Option Addr) (c0 c1 : Nat) (L0 L1 : List (List UInt8)) (Γ : List HP) (h0 : has Γ (srcAt 1 A0 L0.length (strs L0))) (h1 : has Γ (srcAt 1 A1 L1.length (strs L1))) :
    FnV Try.prog 8 [.slice A0 L0.length c0, .slice A1 L1.length c1] Γ fun r Γ' => r = .bool true ∧ Γ' = Γ := by
  refine Fn.enter Try.func8 rfl rfl rfl fun E => ?_
  refine m_run ?_
  (apply TL.callV; exact rfl; exact callB_of (by kernel_rfl); exact rfl; exact fun _ h => h)
  exact few4_t A0 c0 L0 _ h0
  rintro _ _ ⟨f0, rfl, hΓ, hf0⟩
  obtain rfl := hΓ.symm
  clear hΓ
  cases f0 with
  | false =>
    refine m_run ?_
    (apply TL.callV; exact rfl; exact callB_of (by kernel_rfl); exact rfl; exact fun _ h => h)
    exact works4_t _
    rintro _ _ ⟨rfl, rfl⟩
    refine m_run ?_
    (apply TK.ret1; exact rfl; (exact m_val))
    exact ⟨_, rfl, rfl, rfl⟩
  | true =>
  refine m_run ?_
  (apply TL.callV; exact rfl; exact callB_of (by kernel_rfl); exact rfl; exact fun _ h => h)
  exact few4_t A1 c1 L1 _ h1
  rintro _ _ ⟨f1, rfl, hΓ, hf1⟩
  obtain rfl := hΓ.symm
  clear hΓ
  cases f1 with
  | false =>
    refine m_run ?_
    (apply TL.callV; exact rfl; exact callB_of (by kernel_rfl); exact rfl; exact fun _ h => h)
    exact works4_t _
    rintro _ _ ⟨rfl, rfl⟩
    refine m_run ?_
    (apply TK.ret1; exact rfl; (exact m_val))
    exact ⟨_, rfl, rfl, rfl⟩
  | true =>
  obtain ⟨hl0, hk0⟩ := hf0 rfl
  obtain ⟨hl1, hk1⟩ := hf1 rfl
  clear hf0 hf1
  refine m_run ?_
  (apply TL.callV; exact rfl; exact callB_of (by kernel_rfl); exact rfl; exact fun _ h => h)
  exact new_tab _
  rintro _ _ ⟨bt, mb, rfl, rfl⟩
  refine m_run ?_
  apply TK.iter (fun j ρ' Γ' => ∃ (i : Nat) (M : List (List UInt8)) (v : Value), i + j = L0.length ∧ M.length ≤ i ∧ Tab M ∧ lk ρ' 0 = .slice A0 L0.length c0 ∧ lk ρ' 1 = .slice A1 L1.length c1 ∧ lk ρ' 5 = .pointer (some ⟨bt, 0, none⟩) ∧ lk ρ' 6 = .int .i64 i ∧ Γ' = tabAt bt mb v M Γ) L0.length
  · exact ⟨0, [], _, by omega, by simp, Tab.nil, rfl, rfl, rfl, rfl, rfl⟩
  rintro j IH ρ' Γ' ⟨i, M, v, hij, hMi, hT, e0, e1, e5, e6, rfl⟩
  refine TK.know4 e0 e1 e5 e6 ?_
  by_cases hi : i < L0.length
  · have hx : L0[i]? = some L0[i] := by simp [hi]
    have hxm : L0[i] ∈ L0 := by simp
    generalize L0[i] = x at hx hxm
    have hx200 := hk0 x hxm
    refine TK.fact (fun m hm => src_some1 ((has_tls (has_tls (has_tls h0)) : has (tabAt bt mb v M Γ) _) m hm) (by rw [strs_length]; omega)) ?_
    rintro ⟨b1, o1, rfl⟩
    have hc := has_str h0 hx
    refine m_run ?_
    (apply TL.callV; exact rfl; exact callB_of (by kernel_rfl); exact rfl; exact fun _ h => h)
    exact put_tab bt mb v M x Γ (by omega) (by omega)
    rintro _ _ ⟨v', rfl, rfl⟩
    obtain ⟨hT', hlen', _⟩ := putM_tab (x := x) hT (by omega)
    refine m_run ?_
    refine IH (j - 1) _ _ (by omega) ⟨i + 1, _, v', by omega, by omega, hT', rfl, rfl, rfl, congrArg (Value.int .i64) (i64_succ i (by omega)), rfl⟩
  · refine m_run ?_
    (apply TL.callV; exact rfl; exact callB_of (by kernel_rfl); exact rfl; exact fun _ h => h)
    exact list_at bt mb v M Γ (by omega)
    rintro _ _ ⟨Aw, cw, hcw, rfl, rfl⟩
    refine m_run ?_
    refine TK.perm (perm13 _ _ _ _ _) ?_
    generalize hW : M = W at hT hMi
    subst hW
    apply TK.iter (fun j ρ' Γ' => ∃ (q : Nat) (N : List (List UInt8)) (v : Value), q + j = L1.length ∧ N.length ≤ 300 + q ∧ Tab N ∧ M <+: N ∧ lk ρ' 1 = .slice A1 L1.length c1 ∧ lk ρ' 5 = .pointer (some ⟨bt, 0, none⟩) ∧ lk ρ' 7 = .slice Aw M.length cw ∧ lk ρ' 8 = .int .i64 q ∧ Γ' = tabAt bt mb v N (own 9 1 (.slice Aw M.length cw) M.length (strs M) :: Γ)) L1.length
    · exact ⟨0, M, v, by omega, by omega, hT, List.prefix_refl _, rfl, rfl, rfl, rfl, rfl⟩
    rintro j2 IH2 ρ2 Γ2 ⟨q, N, v2, hqj, hNq, hTN, hpre, e1, e5, e7, e8, rfl⟩
    refine TK.know4 e1 e5 e7 e8 ?_
    by_cases hq : q < L1.length
    · have hx : L1[q]? = some L1[q] := by simp [hq]
      have hxm : L1[q] ∈ L1 := by simp
      generalize L1[q] = x at hx hxm
      have hx200 := hk1 x hxm
      refine TK.fact (fun m hm => src_some1 ((has_tls (has_tls (has_tls (has_tls h1))) : has (tabAt bt mb v2 N (own 9 1 (.slice Aw M.length cw) M.length (strs M) :: Γ)) _) m hm) (by rw [strs_length]; omega)) ?_
      rintro ⟨b1, o1, rfl⟩
      have hc := has_str h1 hx
      obtain ⟨hT', hlen', hpre'⟩ := putM_tab (x := x) hTN (by omega)
      have hput := put_tab bt mb v2 N x (own 9 1 (.slice Aw M.length cw) M.length (strs M) :: Γ) (by omega) (by omega)
      rcases putM_cases N x hTN (by omega) with ⟨hmay, hf, hp⟩ | ⟨hmay, n, hf, hp⟩ | ⟨hmay, hxN, hp⟩
      · rw [hp] at hput
        refine m_run ?_
        (apply TL.callV; exact rfl; exact callB_of (by kernel_rfl); exact rfl; exact fun _ h => h)
        exact hput
        rintro _ _ ⟨v3, rfl, rfl⟩
        have hfind := find_at bt mb v3 N x (own 9 1 (.slice Aw M.length cw) M.length (strs M) :: Γ)
        rw [hf] at hfind
        simp only [Option.getD_none, Option.isSome_none] at hfind
        refine m_run ?_
        (apply TL.callV; exact rfl; exact callB_of (by kernel_rfl); exact rfl; exact fun _ h => h)
        exact hfind
        rintro _ _ ⟨rfl, rfl⟩
        refine m_run ?_
        (apply TL.callV; exact rfl; exact callB_of (by kernel_rfl); exact rfl; exact fun _ h => h)
        exact name_at bt mb v3 N 0 (own 9 1 (.slice Aw M.length cw) M.length (strs M) :: Γ) (by omega) (by omega)
        rintro _ _ ⟨rfl, rfl⟩
        refine m_run ?_
        (apply TL.callV; exact rfl; exact callB_of (by kernel_rfl); exact rfl; exact fun _ h => h)
        exact may_t x _ (by omega)
        rintro _ _ ⟨rfl, rfl⟩
        rw [hmay]
        refine m_run ?_
        refine IH2 (j2 - 1) _ _ (by omega) ⟨q + 1, N, v3, by omega, by omega, hTN, hpre, rfl, rfl, rfl, congrArg (Value.int .i64) (i64_succ q (by omega)), rfl⟩
      · rw [hp] at hput
        obtain ⟨hnl, hnx, _⟩ := findName_some hf
        refine m_run ?_
        (apply TL.callV; exact rfl; exact callB_of (by kernel_rfl); exact rfl; exact fun _ h => h)
        exact hput
        rintro _ _ ⟨v3, rfl, rfl⟩
        have hfind := find_at bt mb v3 N x (own 9 1 (.slice Aw M.length cw) M.length (strs M) :: Γ)
        rw [hf] at hfind
        simp only [Option.getD_some, Option.isSome_some] at hfind
        have hname := name_at bt mb v3 N n (own 9 1 (.slice Aw M.length cw) M.length (strs M) :: Γ) (by omega) (by omega)
        rw [show nameM N n = (x, true) by rw [nameM, hnx]] at hname
        refine m_run ?_
        (apply TL.callV; exact rfl; exact callB_of (by kernel_rfl); exact rfl; exact fun _ h => h)
        exact hfind
        rintro _ _ ⟨rfl, rfl⟩
        refine m_run ?_
        (apply TL.callV; exact rfl; exact callB_of (by kernel_rfl); exact rfl; exact fun _ h => h)
        exact hname
        rintro _ _ ⟨rfl, rfl⟩
        refine m_run ?_
        (apply TL.callV; exact rfl; exact callB_of (by kernel_rfl); exact rfl; exact fun _ h => h)
        exact may_t x _ (by omega)
        rintro _ _ ⟨rfl, rfl⟩
        rw [hmay]
        refine m_run ?_
        refine IH2 (j2 - 1) _ _ (by omega) ⟨q + 1, N, v3, by omega, by omega, hTN, hpre, rfl, rfl, rfl, congrArg (Value.int .i64) (i64_succ q (by omega)), rfl⟩
      · rw [hp] at hput
        rw [hp] at hT' hlen' hpre'
        have hnx : (N ++ [x])[N.length]? = some x := by simp
        have hf := findName_nodup hT'.1 hnx
        have hll : (N ++ [x]).length = N.length + 1 := by simp
        refine m_run ?_
        (apply TL.callV; exact rfl; exact callB_of (by kernel_rfl); exact rfl; exact fun _ h => h)
        exact hput
        rintro _ _ ⟨v3, rfl, rfl⟩
        have hfind := find_at bt mb v3 (N ++ [x]) x (own 9 1 (.slice Aw M.length cw) M.length (strs M) :: Γ)
        rw [hf] at hfind
        simp only [Option.getD_some, Option.isSome_some] at hfind
        have hname := name_at bt mb v3 (N ++ [x]) N.length (own 9 1 (.slice Aw M.length cw) M.length (strs M) :: Γ) (by omega) (by omega)
        rw [show nameM (N ++ [x]) N.length = (x, true) by rw [nameM, hnx]] at hname
        refine m_run ?_
        (apply TL.callV; exact rfl; exact callB_of (by kernel_rfl); exact rfl; exact fun _ h => h)
        exact hfind
        rintro _ _ ⟨rfl, rfl⟩
        refine m_run ?_
        (apply TL.callV; exact rfl; exact callB_of (by kernel_rfl); exact rfl; exact fun _ h => h)
        exact hname
        rintro _ _ ⟨rfl, rfl⟩
        refine m_run ?_
        (apply TL.callV; exact rfl; exact callB_of (by kernel_rfl); exact rfl; exact fun _ h => h)
        exact may_t x _ (by omega)
        rintro _ _ ⟨rfl, rfl⟩
        rw [hmay]
        refine m_run ?_
        refine IH2 (j2 - 1) _ _ (by omega) ⟨q + 1, N ++ [x], v3, by omega, by omega, hT', hpre.trans hpre', rfl, rfl, rfl, congrArg (Value.int .i64) (i64_succ q (by omega)), rfl⟩
    · refine TK.fact (all_at 1 rfl fun _ h => own_shape h) ?_
      rintro ⟨Av, cv, rfl, hcv⟩
      have hle : M.length ≤ N.length := hpre.length_le
      refine m_run ?_
      (apply TL.callV; exact rfl; exact callB_of (by kernel_rfl); exact rfl; exact fun _ h => h)
      exact list_at bt mb (.slice Av N.length cv) N (own 9 1 (.slice Aw M.length cw) M.length (strs M) :: Γ) (by omega)
      rintro _ _ ⟨An, cn, hcn, rfl, rfl⟩
      have hnow : has (own 9 1 (.slice An N.length cn) N.length (strs N) :: tabAt bt mb (.slice Av N.length cv) N (own 9 1 (.slice Aw M.length cw) M.length (strs M) :: Γ)) (srcAt 1 An N.length (strs N)) := has_at (up_src _ _ _ _) 0 rfl fun _ h => own_src h
      have hwas : has (own 9 1 (.slice An N.length cn) N.length (strs N) :: tabAt bt mb (.slice Av N.length cv) N (own 9 1 (.slice Aw M.length cw) M.length (strs M) :: Γ)) (srcAt 1 Aw M.length (strs M)) := has_at (up_src _ _ _ _) 4 rfl fun _ h => own_src h
      have hpart : has (own 9 1 (.slice An N.length cn) N.length (strs N) :: tabAt bt mb (.slice Av N.length cv) N (own 9 1 (.slice Aw M.length cw) M.length (strs M) :: Γ)) (srcAt 1 An M.length (strs M)) := fun m hm => by
        have := src_take (hnow m hm) hle
        rw [Nat.mul_one] at this
        rwa [show (strs N).take M.length = strs M by rw [strs, ← List.map_take, ← List.prefix_iff_eq_take.1 hpre]; rfl] at this
      refine m_run ?_
      (apply TL.sliceHi; exact rfl; exact rfl; exact rfl; exact tb rfl; exact rfl; exact tb rfl; omega; omega)
      refine m_run ?_
      (apply TL.callV; exact rfl; exact callB_of (by kernel_rfl); exact rfl; exact fun _ h => h)
      exact samestr_t An Aw cn cw M _ hpart hwas (by omega)
      rintro _ _ ⟨rfl, rfl⟩
      refine m_run ?_
      (apply TL.callV; exact rfl; exact callB_of (by kernel_rfl); exact rfl; exact fun _ h => h)
      exact len_tab bt Av N.length cv _ (has_row 1 rfl rfl)
      rintro _ _ ⟨rfl, rfl⟩
      refine m_run ?_
      apply TK.iter (fun j ρ' Γ' => ∃ i : Nat, i + j = N.length ∧ lk ρ' 15 = .slice An N.length cn ∧ lk ρ' 16 = .int .i64 i ∧ Γ' = own 9 1 (.slice An N.length cn) N.length (strs N) :: tabAt bt mb (.slice Av N.length cv) N (own 9 1 (.slice Aw M.length cw) M.length (strs M) :: Γ)) N.length
      · exact ⟨0, by omega, rfl, rfl, rfl⟩
      rintro j3 IH3 ρ3 Γ3 ⟨i3, hij3, e15, e16, rfl⟩
      refine TK.know2 e15 e16 ?_
      by_cases hi3 : i3 < N.length
      · refine m_run ?_
        apply TK.iter (fun j ρ' Γ' => ∃ k : Nat, k + j = i3 ∧ lk ρ' 15 = .slice An N.length cn ∧ lk ρ' 16 = .int .i64 i3 ∧ lk ρ' 17 = .int .i64 k ∧ Γ' = own 9 1 (.slice An N.length cn) N.length (strs N) :: tabAt bt mb (.slice Av N.length cv) N (own 9 1 (.slice Aw M.length cw) M.length (strs M) :: Γ)) i3
        · exact ⟨0, by omega, rfl, rfl, rfl, rfl⟩
        rintro j4 IH4 ρ4 Γ4 ⟨k4, hkj4, e15, e16, e17, rfl⟩
        refine TK.know3 e15 e16 e17 ?_
        by_cases hk4 : k4 < i3
        · have hy : N[i3]? = some N[i3] := by simp [hi3]
          have hz : N[k4]? = some (N[k4]'(by omega)) := by simp
          have hne : ¬ N[i3] = (N[k4]'(by omega)) := fun e => (List.pairwise_iff_getElem.1 hTN.1) k4 i3 (by omega) hi3 hk4 e.symm
          generalize N[i3] = y at hy hne
          generalize (N[k4]'(by omega)) = z at hz hne
          refine TK.fact (fun m hm => src_some1 (hnow m hm) (by rw [strs_length]; omega)) ?_
          rintro ⟨bn, on, rfl⟩
          have hcy := has_str hnow hy
          have hcz := has_str hnow hz
          refine m_run ?_
          refine m_quiet ?_
          refine m_run ?_
          refine IH4 (j4 - 1) _ _ (by omega) ⟨k4 + 1, by omega, rfl, rfl, congrArg (Value.int .i64) (i64_succ k4 (by omega)), rfl⟩
        · refine m_run ?_
          refine IH3 (j3 - 1) _ _ (by omega) ⟨i3 + 1, by omega, rfl, congrArg (Value.int .i64) (i64_succ i3 (by omega)), rfl⟩
      · refine m_run ?_
        (apply TL.callV; exact rfl; exact callB_of (by kernel_rfl); exact rfl; exact fun _ h => h)
        exact of_t An cn N _ hnow (by omega) (fun k hk => by have := hTN.2 k hk; simp [mayB] at this; omega)
        have hall := ofM_all N [] (by simpa using hTN) (by simp; omega)
        rw [List.nil_append] at hall
        rintro _ _ (⟨M2, bt2, mb2, v3, hof, rfl, rfl⟩ | ⟨e, he, hof, rfl, rfl⟩)
        · rw [hall] at hof
          injection hof with hof _
          injection hof with hof
          subst hof
          refine m_run ?_
          (apply TL.callV; exact rfl; exact callB_of (by kernel_rfl); exact rfl; exact fun _ h => h)
          exact list_at bt2 mb2 v3 N _ (by omega)
          rintro _ _ ⟨Au, cu, hcu, rfl, rfl⟩
          refine m_run ?_
          (apply TL.callV; exact rfl; exact callB_of (by kernel_rfl); exact rfl; exact fun _ h => h)
          exact samestr_t Au An cu cn N _ (has_at (up_src _ _ _ _) 0 rfl fun _ h => own_src h) (has_tls (has_tls (has_tls (has_tls hnow)))) (by omega)
          rintro _ _ ⟨rfl, rfl⟩
          refine m_run ?_
          (apply TL.callV; exact rfl; exact callB_of (by kernel_rfl); exact rfl; exact fun _ h => h)
          exact works4_t _
          rintro _ _ ⟨rfl, rfl⟩
          refine m_run ?_
          (apply TK.retS1; exact rfl; (exact m_val))
          · exact ⟨_, rfl, rfl, rfl⟩
          · (repeat (first | exact List.Sublist.refl _ | apply List.Sublist.cons_cons | apply List.Sublist.cons))
        · rw [hall] at hof
          injection hof with hof _
          cases hof
end Go.Proofs.Ytoccilnobgoncaa.E
