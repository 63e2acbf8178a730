/- SymsOrder, whatever names and numbers are handed in: the walk: it answers true. -/
import Derived.Test.YtoccilnobgoncaaZ3
namespace Go.Proofs.Ytoccilnobgoncaa.E
open Go Go.RowKit Go.Proofs
attribute [local irreducible] TK TL TQ TA Fn PV
theorem perm31 {α : Type} (a b c d : α) (l : List α) : (a :: b :: c :: d :: l).Perm (b :: c :: d :: a :: l) := perm13 a b c d l
theorem perm33 {α : Type} (a b c d e f : α) (l : List α) : (a :: b :: c :: d :: e :: f :: l).Perm (d :: e :: f :: a :: b :: c :: l) := by
  have := (List.perm_append_comm (l₁ := [a, b, c]) (l₂ := [d, e, f])).append_right l
  simpa using this
/-- Where the search stands: what it has found among the first k. -/
def seen (o : Option Nat) (k : Nat) : Int := match o with | some n => if n < k then (n : Int) else -1 | none => -1
abbrev ordAt (bt mb : Nat) (v u : Value) (M N : List (List UInt8)) (Γ : List HP) : List HP := tabAt bt mb v M (own 9 1 u N.length (strs N) :: Γ)
set_option maxRecDepth 100000 in
theorem order4_t (A0 A1 : Option Addr) (c0 c1 : Nat) (L0 : List (List UInt8)) (ns : List Int) (Γ : List HP) (h0 : has Γ (srcAt 1 A0 L0.length (strs L0))) (h1 : has Γ (srcAt 1 A1 ns.length (nums .u8 ns))) (has8 : ∀ a ∈ ns, 0 ≤ a ∧ a ≤ 255) :
    FnV Try.prog 9 [.slice A0 L0.length c0, .slice A1 ns.length c1] Γ fun r Γ' => r = .bool true ∧ Γ' = Γ := by
  refine Fn.enter Try.func9 rfl rfl rfl fun E => ?_
  refine m_run ?_
  (apply TL.callV; exact rfl; exact callB_of (by kernel_rfl); exact rfl; exact fun _ h => h)
  exact few4_t A0 c0 L0 _ h0
  rintro _ _ ⟨f0, rfl, hΓ, hf0⟩
  obtain rfl := hΓ.symm
  clear hΓ
  cases f0 with
  | false =>
    refine m_run ?_
    (apply TL.callV; exact rfl; exact callB_of (by kernel_rfl); exact rfl; exact fun _ h => h)
    exact works4_t _
    rintro _ _ ⟨rfl, rfl⟩
    refine m_run ?_
    (apply TK.ret1; exact rfl; (exact m_val))
    exact ⟨_, rfl, rfl, rfl⟩
  | true =>
  by_cases h60 : 60 < ns.length
  · refine m_run ?_
    (apply TL.callV; exact rfl; exact callB_of (by kernel_rfl); exact rfl; exact fun _ h => h)
    exact works4_t _
    rintro _ _ ⟨rfl, rfl⟩
    refine m_run ?_
    (apply TK.ret1; exact rfl; (exact m_val))
    exact ⟨_, rfl, rfl, rfl⟩
  obtain ⟨hl0, hk0⟩ := hf0 rfl
  clear hf0
  refine m_run ?_
  refine TL.free (H := own 9 1 (.slice none 0 0) 0 []) (fun m hm => own_nil _ _ hm) ?_
  (apply TL.callV; exact rfl; exact callB_of (by kernel_rfl); exact rfl; exact fun _ h => h)
  exact new_tab _
  rintro _ _ ⟨bt, mb, rfl, rfl⟩
  refine m_run ?_
  apply TK.iter (fun j ρ' Γ' => ∃ (i : Nat) (M : List (List UInt8)) (v : Value) (An : Option Addr) (cn : Nat), i + j = L0.length ∧ M.length ≤ i ∧ Tab M ∧ lk ρ' 0 = .slice A0 L0.length c0 ∧ lk ρ' 1 = .slice A1 ns.length c1 ∧ lk ρ' 5 = .pointer (some ⟨bt, 0, none⟩) ∧ lk ρ' 6 = .slice An M.length cn ∧ lk ρ' 7 = .int .i64 i ∧ Γ' = ordAt bt mb v (.slice An M.length cn) M M Γ) L0.length
  · exact ⟨0, [], _, none, 0, by omega, by simp, Tab.nil, rfl, rfl, rfl, rfl, rfl, rfl⟩
  rintro j IH ρ' Γ' ⟨i, M, v, An, cn, hij, hMi, hT, e0, e1, e5, e6, e7, rfl⟩
  refine TK.know5 e0 e1 e5 e6 e7 ?_
  by_cases hi : i < L0.length
  · have hx : L0[i]? = some L0[i] := by simp [hi]
    have hxm : L0[i] ∈ L0 := by simp
    generalize L0[i] = x at hx hxm
    have hx200 := hk0 x hxm
    refine TK.fact (fun m hm => src_some1 ((has_tls (has_tls (has_tls (has_tls h0))) : has (ordAt bt mb v (.slice An M.length cn) M M Γ) _) m hm) (by rw [strs_length]; omega)) ?_
    rintro ⟨b1, o1, rfl⟩
    have hc := has_str h0 hx
    have hput := put_tab bt mb v M x (own 9 1 (.slice An M.length cn) M.length (strs M) :: Γ) (by omega) (by omega)
    cases hmay : mayB x with
    | false =>
      have hp : putM M x = (0, 8, M) := by rw [putM, hmay]; rfl
      rw [hp] at hput
      refine m_run ?_
      (apply TL.callV; exact rfl; exact callB_of (by kernel_rfl); exact rfl; exact fun _ h => h)
      exact hput
      rintro _ _ ⟨v3, rfl, rfl⟩
      refine m_run ?_
      (apply TL.callV; exact rfl; exact callB_of (by kernel_rfl); exact rfl; exact fun _ h => h)
      exact may_t x _ (by omega)
      rintro _ _ ⟨rfl, rfl⟩
      rw [hmay]
      refine m_run ?_
      refine IH (j - 1) _ _ (by omega) ⟨i + 1, M, v3, An, cn, by omega, by omega, hT, rfl, rfl, rfl, rfl, congrArg (Value.int .i64) (i64_succ i (by omega)), rfl⟩
    | true =>
      obtain ⟨rn, M', hp, hcase⟩ : ∃ rn M', putM M x = (rn, 0, M') ∧ ((findName M x = some rn ∧ M' = M) ∨ (findName M x = none ∧ x ∉ M ∧ rn = M.length ∧ M' = M ++ [x])) := by
        rcases putM_cases M x hT (by omega) with ⟨h, _, _⟩ | ⟨_, n, hf, hp⟩ | ⟨_, hxM, hp⟩
        · rw [hmay] at h; cases h
        · exact ⟨n, M, hp, .inl ⟨hf, rfl⟩⟩
        · refine ⟨M.length, M ++ [x], hp, .inr ⟨?_, hxM, rfl, rfl⟩⟩
          cases hf : findName M x with
          | none => rfl
          | some n => exact (hxM (List.mem_of_getElem? (findName_some hf).2.1)).elim
      rw [hp] at hput
      refine m_run ?_
      (apply TL.callV; exact rfl; exact callB_of (by kernel_rfl); exact rfl; exact fun _ h => h)
      exact hput
      rintro _ _ ⟨v3, rfl, rfl⟩
      refine m_run ?_
      have hnames : has (ordAt bt mb v3 (.slice An M.length cn) M' M Γ) (srcAt 1 An M.length (strs M)) := has_at (up_src _ _ _ _) 3 rfl fun _ h => own_src h
      have hc2 : has (ordAt bt mb v3 (.slice An M.length cn) M' M Γ) (fun m => cellAt m b1 (o1 + i) (strV x)) := has_tlc (has_tlc (has_tlc (has_tlc hc)))
      apply TK.iter (fun j ρ' Γ' => ∃ k : Nat, k + j = M.length ∧ lk ρ' 0 = .slice (some ⟨b1, o1, none⟩) L0.length c0 ∧ lk ρ' 1 = .slice A1 ns.length c1 ∧ lk ρ' 5 = .pointer (some ⟨bt, 0, none⟩) ∧ lk ρ' 6 = .slice An M.length cn ∧ lk ρ' 7 = .int .i64 i ∧ lk ρ' 8 = numV rn ∧ lk ρ' 10 = .int .i64 (seen (findName M x) k) ∧ lk ρ' 11 = .int .i64 k ∧ Γ' = ordAt bt mb v3 (.slice An M.length cn) M' M Γ) M.length
      · refine ⟨0, by omega, rfl, rfl, rfl, rfl, rfl, rfl, congrArg (Value.int .i64) ?_, rfl, rfl⟩
        unfold seen
        cases findName M x <;> rfl
      rintro j2 IH2 ρ2 Γ2 ⟨k, hkj, e0, e1, e5, e6, e7, e8, e10, e11, rfl⟩
      by_cases hk : k < M.length
      · refine TK.know8 e0 e1 e5 e6 e7 e8 e10 e11 ?_
        have hy : M[k]? = some M[k] := by simp [hk]
        generalize M[k] = y at hy
        refine TK.fact (fun m hm => src_some1 (hnames m hm) (by rw [strs_length]; omega)) ?_
        rintro ⟨bn, on, rfl⟩
        have hcy := has_str hnames hy
        by_cases hyx : y = x
        · have hf : findName M x = some k := findName_nodup hT.1 (hyx ▸ hy)
          refine m_run ?_
          refine m_quiet ?_
          refine m_run ?_
          refine IH2 (j2 - 1) _ _ (by omega) ⟨k + 1, by omega, rfl, rfl, rfl, rfl, rfl, rfl, congrArg (Value.int .i64) ?_, congrArg (Value.int .i64) (i64_succ k (by omega)), rfl⟩
          rw [hf]
          exact (if_pos (Nat.lt_succ_self k)).symm
        · refine m_run ?_
          refine m_quiet ?_
          refine m_run ?_
          refine IH2 (j2 - 1) _ _ (by omega) ⟨k + 1, by omega, rfl, rfl, rfl, rfl, rfl, rfl, congrArg (Value.int .i64) ?_, congrArg (Value.int .i64) (i64_succ k (by omega)), rfl⟩
          cases hf : findName M x with
          | none => rfl
          | some n =>
            obtain ⟨_, hnx, _⟩ := findName_some hf
            have hnk : n ≠ k := fun e => hyx (by rw [e, hy] at hnx; injection hnx)
            show (if n < k then (n : Int) else -1) = if n < k + 1 then (n : Int) else -1
            by_cases h : n < k
            · rw [if_pos h, if_pos (by omega)]
            · rw [if_neg h, if_neg (by omega)]
      · obtain rfl : k = M.length := by omega
        rcases hcase with ⟨hf, rfl⟩ | ⟨hf, hxM, rfl, rfl⟩
        · obtain ⟨hrn, _, _⟩ := findName_some hf
          rw [show seen (findName M' x) M'.length = (rn : Int) by rw [hf]; exact if_pos hrn] at e10
          refine TK.know8 e0 e1 e5 e6 e7 e8 e10 e11 ?_
          have ew : IntKind.i64.wrap (rn : Int) = rn := i64_in (by omega) (by omega)
          refine m_run ?_
          refine IH (j - 1) _ _ (by omega) ⟨i + 1, M', v3, An, cn, by omega, by omega, hT, rfl, rfl, rfl, rfl, congrArg (Value.int .i64) (i64_succ i (by omega)), rfl⟩
        · rw [show seen (findName M x) M.length = -1 by rw [hf]; rfl] at e10
          refine TK.know8 e0 e1 e5 e6 e7 e8 e10 e11 ?_
          have ew : IntKind.i64.wrap (M.length : Int) = M.length := i64_in (by omega) (by omega)
          refine m_run ?_
          (apply TL.buildSlice; exact rfl; exact tb rfl; exact rfl; exact tb rfl; exact rfl; exact rfl; exact rfl; exact rfl; (exact m_lst))
          intro b8
          refine m_run ?_
          (apply TL.appendE 4; exact rfl; exact rfl; exact tb rfl; exact rfl; exact tb rfl; exact rfl; exact rfl; exact rfl)
          exact fun m hm => hm
          exact rfl
          exact has_src_row 0 rfl rfl
          exact one_of rfl
          · exact Nat.le_trans (Nat.mul_le_mul_right _ (by omega : M.length + 1 ≤ 4096)) (by decide)
          · unfold maxLen; omega
          · exact (show M.length + 1 = (M ++ [x]).length by simp)
          · exact (show strs M ++ [strV x] = strs (M ++ [x]) by simp [strs])
          exact fun _ => (rfl : _ = _ :: _ :: _ :: _ :: _ :: _)
          intro A2 c2 hc2'
          refine m_run ?_
          refine TK.sub (Δ := ordAt bt mb v3 (.slice A2 (M ++ [x]).length c2) (M ++ [x]) (M ++ [x]) Γ) (by (repeat (first | exact List.Sublist.refl _ | apply List.Sublist.cons_cons | apply List.Sublist.cons))) ?_
          refine IH (j - 1) _ _ (by omega) ⟨i + 1, M ++ [x], v3, A2, c2, by omega, by simp; omega, hT.snoc hmay hxM, rfl, rfl, rfl, rfl, congrArg (Value.int .i64) (i64_succ i (by omega)), rfl⟩
  · refine TK.fact (all_at 1 rfl fun _ h => own_shape h) ?_
    rintro ⟨Av, cv, rfl, hcv⟩
    have hnames : has (ordAt bt mb (.slice Av M.length cv) (.slice An M.length cn) M M Γ) (srcAt 1 An M.length (strs M)) := has_at (up_src _ _ _ _) 3 rfl fun _ h => own_src h
    have hall := ofM_all M [] (by simpa using hT) (by simp; omega)
    rw [List.nil_append] at hall
    refine m_run ?_
    (apply TL.callV; exact rfl; exact callB_of (by kernel_rfl); exact rfl; exact fun _ h => h)
    exact of_t An cn M _ hnames (by omega) (fun k hk => by have := hT.2 k hk; simp [mayB] at this; omega)
    rintro _ _ (⟨M2, bt2, mb2, v2, hof, rfl, rfl⟩ | ⟨e, he, hof, rfl, rfl⟩)
    · rw [hall] at hof
      injection hof with hof _
      injection hof with hof
      subst hof
      refine TL.fact (all_at 1 rfl fun _ h => own_shape h) ?_
      rintro ⟨Au, cu, rfl, hcu⟩
      refine m_run ?_
      (apply TL.callV; exact rfl; exact callB_of (by kernel_rfl); exact rfl; exact fun _ h => h)
      exact len_at bt2 mb2 _ M _
      rintro _ _ ⟨rfl, rfl⟩
      refine m_run ?_
      (apply TL.callV; exact rfl; exact callB_of (by kernel_rfl); exact rfl; exact fun _ h => h)
      exact len_tab bt Av M.length cv _ (has_row 3 rfl rfl)
      rintro _ _ ⟨rfl, rfl⟩
      refine m_run ?_
      refine TK.perm (perm33 _ _ _ _ _ _ _) ?_
      apply TK.iter (fun j ρ' Γ' => ∃ (q : Nat) (v3 : Value), q + j = ns.length ∧ lk ρ' 1 = .slice A1 ns.length c1 ∧ lk ρ' 5 = .pointer (some ⟨bt, 0, none⟩) ∧ lk ρ' 6 = .slice An M.length cn ∧ lk ρ' 12 = .pointer (some ⟨bt2, 0, none⟩) ∧ lk ρ' 14 = .int .i64 q ∧ Γ' = tabAt bt mb v3 M (tabAt bt2 mb2 (.slice Au M.length cu) M (own 9 1 (.slice An M.length cn) M.length (strs M) :: Γ))) ns.length
      · exact ⟨0, _, by omega, rfl, rfl, rfl, rfl, rfl, rfl⟩
      rintro j3 IH3 ρ3 Γ3 ⟨q, v3, hqj, e1, e5, e6, e12, e14, rfl⟩
      refine TK.know5 e1 e5 e6 e12 e14 ?_
      by_cases hq : q < ns.length ∧ 0 < M.length
      · obtain ⟨hq, hM⟩ := hq
        have hx8 := has8 ns[q] (by simp)
        refine TK.fact (fun m hm => src_some1 ((has_tls (has_tls (has_tls (has_tls (has_tls (has_tls (has_tls h1)))))) : has (tabAt bt mb v3 M (tabAt bt2 mb2 (.slice Au M.length cu) M (own 9 1 (.slice An M.length cn) M.length (strs M) :: Γ))) _) m hm) (by rw [nums_length]; omega)) ?_
        rintro ⟨ba, oa, rfl⟩
        have hca := has_num h1 hq
        generalize ns[q] = a at hx8 hca
        have hn7 : has (tabAt bt mb v3 M (tabAt bt2 mb2 (.slice Au M.length cu) M (own 9 1 (.slice An M.length cn) M.length (strs M) :: Γ))) (srcAt 1 An M.length (strs M)) := has_at (up_src _ _ _ _) 6 rfl fun _ h => own_src h
        refine TK.fact (fun m hm => src_some1 (hn7 m hm) (by rw [strs_length]; omega)) ?_
        rintro ⟨bn, on, rfl⟩
        obtain ⟨k, hk⟩ : ∃ k, a.toNat % M.length = k := ⟨_, rfl⟩
        have hkM : k < M.length := hk ▸ Nat.mod_lt _ hM
        have hy : M[k]? = some M[k] := by simp [hkM]
        generalize M[k] = y at hy
        have hcy := has_str hn7 hy
        have hp : putM M y = (k, 0, M) := by
          rcases putM_cases M y hT (by omega) with ⟨h, _, _⟩ | ⟨_, n, hf, hp⟩ | ⟨_, h, _⟩
          · rw [hT.2 y (List.mem_of_getElem? hy)] at h; cases h
          · rw [findName_nodup hT.1 hy] at hf
            injection hf with hf
            rw [hp, hf]
          · exact (h (List.mem_of_getElem? hy)).elim
        have hput := put_tab bt mb v3 M y (tabAt bt2 mb2 (.slice Au M.length cu) M (own 9 1 (.slice (some ⟨bn, on, none⟩) M.length cn) M.length (strs M) :: Γ)) (by have := hT.2 y (List.mem_of_getElem? hy); simp [mayB] at this; omega) (by omega)
        rw [hp] at hput
        have ew : IntKind.i64.wrap (k : Int) = k := i64_in (by omega) (by omega)
        refine m_run ?_
        refine TL.know (t := 126) (v := .int .i64 ((a.toNat : Nat) : Int)) (congrArg (Value.int .i64) (by rw [i64_in (by omega) (by omega)]; omega)) ?_
        (apply TL.pv; exact rfl; (apply PV.remN (n := a.toNat) (m := M.length); exact rfl; exact rfl; exact rfl; omega))
        rw [hk]
        refine m_run ?_
        (apply TL.callV; exact rfl; exact callB_of (by kernel_rfl); exact rfl; exact fun _ h => h)
        exact hput
        rintro _ _ ⟨v4, rfl, rfl⟩
        refine m_run ?_
        refine IH3 (j3 - 1) _ _ (by omega) ⟨q + 1, v4, by omega, rfl, rfl, rfl, rfl, congrArg (Value.int .i64) (i64_succ q (by omega)), rfl⟩
      · apply cutAny (fun ρ' Γ' => ∃ (v3 : Value) (Al : Option Addr) (cl : Nat) (Ak : Option Addr) (ck : Nat), lk ρ' 6 = .slice An M.length cn ∧ lk ρ' 12 = .pointer (some ⟨bt2, 0, none⟩) ∧ lk ρ' 18 = .slice Al M.length cl ∧ lk ρ' 19 = .slice Ak M.length ck ∧ lk ρ' 20 = .int .i64 0 ∧
          Γ' = own 9 1 (.slice Ak M.length ck) M.length (strs M) :: own 9 1 (.slice Al M.length cl) M.length (strs M) :: tabAt bt mb v3 M (tabAt bt2 mb2 (.slice Au M.length cu) M (own 9 1 (.slice An M.length cn) M.length (strs M) :: Γ)))
        · intro H
          by_cases hq2 : q < ns.length
          · refine m_run ?_
            (apply TL.callV; exact rfl; exact callB_of (by kernel_rfl); exact rfl; exact fun _ h => h)
            exact list_at bt mb v3 M (tabAt bt2 mb2 (.slice Au M.length cu) M (own 9 1 (.slice An M.length cn) M.length (strs M) :: Γ)) (by omega)
            rintro _ _ ⟨Al, cl, hcl, rfl, rfl⟩
            refine m_run ?_
            (apply TL.callV; exact rfl; exact callB_of (by kernel_rfl); exact rfl; exact fun _ h => h)
            exact list_tab bt2 Au cu M _ (has_row 4 rfl rfl) (has_at (up_src _ _ _ _) 5 rfl fun _ h => own_src h) (by omega)
            rintro _ _ ⟨Ak, ck, hck, rfl, rfl⟩
            refine m_run ?_
            exact H _ _ ⟨v3, Al, cl, Ak, ck, rfl, rfl, rfl, rfl, rfl, rfl⟩
          · refine m_run ?_
            (apply TL.callV; exact rfl; exact callB_of (by kernel_rfl); exact rfl; exact fun _ h => h)
            exact list_at bt mb v3 M (tabAt bt2 mb2 (.slice Au M.length cu) M (own 9 1 (.slice An M.length cn) M.length (strs M) :: Γ)) (by omega)
            rintro _ _ ⟨Al, cl, hcl, rfl, rfl⟩
            refine m_run ?_
            (apply TL.callV; exact rfl; exact callB_of (by kernel_rfl); exact rfl; exact fun _ h => h)
            exact list_tab bt2 Au cu M _ (has_row 4 rfl rfl) (has_at (up_src _ _ _ _) 5 rfl fun _ h => own_src h) (by omega)
            rintro _ _ ⟨Ak, ck, hck, rfl, rfl⟩
            refine m_run ?_
            exact H _ _ ⟨v3, Al, cl, Ak, ck, rfl, rfl, rfl, rfl, rfl, rfl⟩
        · rintro ρ4 Γ4 ⟨v3, Al, cl, Ak, ck, e6, e12, e18, e19, e20, rfl⟩
          apply TK.iter (fun j ρ' Γ' => ∃ q : Nat, q + j = M.length ∧ lk ρ' 6 = .slice An M.length cn ∧ lk ρ' 12 = .pointer (some ⟨bt2, 0, none⟩) ∧ lk ρ' 18 = .slice Al M.length cl ∧ lk ρ' 19 = .slice Ak M.length ck ∧ lk ρ' 20 = .int .i64 q ∧
            Γ' = own 9 1 (.slice Ak M.length ck) M.length (strs M) :: own 9 1 (.slice Al M.length cl) M.length (strs M) :: tabAt bt mb v3 M (tabAt bt2 mb2 (.slice Au M.length cu) M (own 9 1 (.slice An M.length cn) M.length (strs M) :: Γ))) M.length
          · exact ⟨0, by omega, e6, e12, e18, e19, e20, rfl⟩
          clear e6 e12 e18 e19 e20
          rintro j5 IH5 ρ5 Γ5 ⟨q5, hqj5, e6, e12, e18, e19, e20, rfl⟩
          refine TK.know5 e6 e12 e18 e19 e20 ?_
          by_cases hq5 : q5 < M.length
          · have hy : M[q5]? = some M[q5] := by simp [hq5]
            generalize M[q5] = y at hy
            have ha : has (own 9 1 (.slice Ak M.length ck) M.length (strs M) :: own 9 1 (.slice Al M.length cl) M.length (strs M) :: tabAt bt mb v3 M (tabAt bt2 mb2 (.slice Au M.length cu) M (own 9 1 (.slice An M.length cn) M.length (strs M) :: Γ))) (srcAt 1 Ak M.length (strs M)) := has_at (up_src _ _ _ _) 0 rfl fun _ h => own_src h
            have hb : has (own 9 1 (.slice Ak M.length ck) M.length (strs M) :: own 9 1 (.slice Al M.length cl) M.length (strs M) :: tabAt bt mb v3 M (tabAt bt2 mb2 (.slice Au M.length cu) M (own 9 1 (.slice An M.length cn) M.length (strs M) :: Γ))) (srcAt 1 Al M.length (strs M)) := has_at (up_src _ _ _ _) 1 rfl fun _ h => own_src h
            have hc : has (own 9 1 (.slice Ak M.length ck) M.length (strs M) :: own 9 1 (.slice Al M.length cl) M.length (strs M) :: tabAt bt mb v3 M (tabAt bt2 mb2 (.slice Au M.length cu) M (own 9 1 (.slice An M.length cn) M.length (strs M) :: Γ))) (srcAt 1 An M.length (strs M)) := has_at (up_src _ _ _ _) 8 rfl fun _ h => own_src h
            refine TK.fact (fun m hm => src_some1 (ha m hm) (by rw [strs_length]; omega)) ?_
            rintro ⟨b6, o6, rfl⟩
            refine TK.fact (fun m hm => src_some1 (hb m hm) (by rw [strs_length]; omega)) ?_
            rintro ⟨b7, o7, rfl⟩
            refine TK.fact (fun m hm => src_some1 (hc m hm) (by rw [strs_length]; omega)) ?_
            rintro ⟨b8, o8, rfl⟩
            have hya := has_str ha hy
            have hyb := has_str hb hy
            have hyc := has_str hc hy
            have hname := name_tab bt2 Au cu M q5 _ (has_row (Γ := own 9 1 (.slice (some ⟨b6, o6, none⟩) M.length ck) M.length (strs M) :: own 9 1 (.slice (some ⟨b7, o7, none⟩) M.length cl) M.length (strs M) :: tabAt bt mb v3 M (tabAt bt2 mb2 (.slice Au M.length cu) M (own 9 1 (.slice (some ⟨b8, o8, none⟩) M.length cn) M.length (strs M) :: Γ))) 5 rfl rfl) (has_at (up_src _ _ _ _) 6 rfl fun _ h => own_src h) (by omega) (by omega)
            rw [show nameM M q5 = (y, true) by rw [nameM, hy]] at hname
            refine m_run ?_
            refine TL.know (t := 172) (v := numV q5) (congrArg (Value.int .u32) (u32_in (by omega) (by omega))) ?_
            (apply TL.callV; exact rfl; exact callB_of (by kernel_rfl); exact rfl; exact fun _ h => h)
            exact hname
            rintro _ _ ⟨rfl, rfl⟩
            refine m_run ?_
            refine m_quiet ?_
            refine m_run ?_
            refine IH5 (j5 - 1) _ _ (by omega) ⟨q5 + 1, by omega, rfl, rfl, rfl, rfl, congrArg (Value.int .i64) (i64_succ q5 (by omega)), rfl⟩
          · refine m_run ?_
            (apply TL.callV; exact rfl; exact callB_of (by kernel_rfl); exact rfl; exact fun _ h => h)
            exact works4_t _
            rintro _ _ ⟨rfl, rfl⟩
            refine m_run ?_
            (apply TK.retS1; exact rfl; (exact m_val))
            · exact ⟨_, rfl, rfl, rfl⟩
            · (repeat (first | exact List.Sublist.refl _ | apply List.Sublist.cons_cons | apply List.Sublist.cons))
    · rw [hall] at hof
      injection hof with hof _
      cases hof
end Go.Proofs.Ytoccilnobgoncaa.E
