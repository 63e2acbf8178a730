/- 'alike': where both tables hold the same names it answers true. -/
import Derived.Test.YtoccilnobgoncaaY8
namespace Go.Proofs.Ytoccilnobgoncaa.E
open Go Go.RowKit Go.Proofs
attribute [local irreducible] TK TL TQ TA Fn PV
theorem findName_nodup {L : List (List UInt8)} (hn : L.Nodup) {i : Nat} {k : List UInt8} (h : L[i]? = some k) : findName L k = some i := by
  refine findName_first h fun m hm hk => ?_
  have h1 := (List.getElem?_eq_some_iff.1 h)
  have h2 := (List.getElem?_eq_some_iff.1 hk)
  have := (List.pairwise_iff_getElem.1 hn) m i h2.1 h1.1 hm
  exact this (h2.2.trans h1.2.symm)
theorem putM_nodup {L : List (List UInt8)} {k : List UInt8} (h : L.Nodup) : (putM L k).2.2.Nodup := by
  unfold putM
  cases mayB k with
  | false => exact h
  | true =>
    show (match findName L k with | some n => (n, (0 : Int), L) | none => if 4096 ≤ L.length then (0, 6, L) else (L.length, 0, L ++ [k])).2.2.Nodup
    cases hf : findName L k with
    | some n => exact h
    | none =>
      show (if 4096 ≤ L.length then (0, (6 : Int), L) else (L.length, 0, L ++ [k])).2.2.Nodup
      split
      · exact h
      · rw [List.nodup_append]
        exact ⟨h, by simp, fun a ha b hb => by simp at hb; subst hb; exact fun e => findName_none hf (e ▸ ha)⟩
theorem ofM_nodup : ∀ (ks L M : List (List UInt8)), L.Nodup → (ofM L ks).1 = some M → M.Nodup
  | [], L, M, h, hm => by simp [ofM] at hm; subst hm; exact h
  | k :: ks, L, M, h, hm => by
    rw [ofM_cons] at hm
    split at hm
    · exact ofM_nodup ks _ M (putM_nodup h) hm
    · cases hm
theorem alike_t (bt mb rt : Nat) (v w : Value) (L : List (List UInt8)) (O : Option Addr) (oc : Nat) (os : List (List UInt8)) (Γ : List HP) (hL : L.length ≤ 4096) (hnd : L.Nodup) (ho : has Γ (srcAt 1 O os.length (strs os))) (hos : os.length ≤ 1000000) :
    FnV Try.prog 37 [.pointer (some ⟨bt, 0, none⟩), .pointer (some ⟨rt, 0, none⟩), .slice O os.length oc] (tabAt bt mb v L (refAt rt w L Γ)) fun r Γ' => r = .bool true ∧ Γ' = tabAt bt mb v L (refAt rt w L Γ) := by
  refine Fn.enter Try.func37 rfl rfl rfl fun E => ?_
  refine TK.fact (all_at 1 rfl fun _ h => own_shape h) ?_
  rintro ⟨A, c, rfl, hLc⟩
  refine TK.fact (all_at 4 rfl fun _ h => own_shape h) ?_
  rintro ⟨B, d, rfl, hLd⟩
  have hr0 : has (tabAt bt mb (.slice A L.length c) L (refAt rt (.slice B L.length d) L Γ)) (fun m => cellAt m rt 0 (.slice B L.length d)) := has_row 3 rfl rfl
  have hrs : has (tabAt bt mb (.slice A L.length c) L (refAt rt (.slice B L.length d) L Γ)) (srcAt 1 B L.length (strs L)) := has_at (up_src _ _ _ _) 4 rfl fun _ h => own_src h
  have hoo : has (tabAt bt mb (.slice A L.length c) L (refAt rt (.slice B L.length d) L Γ)) (srcAt 1 O os.length (strs os)) := has_tls (has_tls (has_tls (has_tls (has_tls ho))))
  refine m_run ?_
  refine TK.drawS mixed ?_
  refine m_take (At.mk : At 0) ?_; refine m_take (At.mk : At 2) ?_; refine m_take (At.mk : At 3) ?_; refine m_take (At.mk : At 4) ?_; refine m_take (At.mk : At 5) ?_; refine m_take (At.mk : At 6) ?_
  (apply TA.one 1; kernel_rfl; exact rfl)
  (apply TL.callV; exact rfl; exact callB_of (by kernel_rfl); exact rfl; exact fun _ h => h)
  exact len_at bt mb _ L _
  rintro _ _ ⟨rfl, rfl⟩
  refine TL.back (by (focus ((repeat (first | assumption | exact Ent.refl _ | apply Ent.tail)); done))) ?_
  refine m_take (At.mk : At 7) ?_; refine m_take (At.mk : At 8) ?_
  refine TA.isF 26 rfl (by simp) ?_
  refine m_take (At.mk : At 9) ?_; refine m_take (At.mk : At 11) ?_; refine m_take (At.mk : At 12) ?_; refine m_take (At.mk : At 13) ?_; refine m_take (At.mk : At 14) ?_
  (apply TA.one 10; kernel_rfl; exact rfl)
  refine TL.guard_yes rfl rfl rfl rfl ?_
  (apply TL.callV; exact rfl; exact callB_of (by kernel_rfl); exact rfl; exact fun _ h => h)
  exact list_at bt mb _ L _ (by omega)
  rintro _ _ ⟨A', c', hc', rfl, rfl⟩
  refine TL.back (by (focus ((repeat (first | assumption | exact Ent.refl _ | apply Ent.tail)); done))) ?_
  (apply TA.one 15; kernel_rfl; exact rfl)
  refine TL.guard_yes rfl rfl rfl rfl ?_
  (apply TL.callV; exact rfl; exact callB_of (by kernel_rfl); exact rfl; exact fun _ h => h)
  exact samestr_t A' B c' d L _ (has_at (up_src _ _ _ _) 0 rfl fun _ h => own_src h) (has_tls hrs) (by omega)
  rintro _ _ ⟨rfl, rfl⟩
  refine TL.back (by (focus ((repeat (first | assumption | exact Ent.refl _ | apply Ent.tail)); done))) ?_
  refine m_take (At.mk : At 16) ?_; refine m_take (At.mk : At 17) ?_
  refine TA.done (by kernel_rfl) ?_
  refine TK.sub (Δ := tabAt bt mb (.slice A L.length c) L (refAt rt (.slice B L.length d) L Γ)) (by (repeat (first | exact List.Sublist.refl _ | apply List.Sublist.cons_cons | apply List.Sublist.cons))) ?_
  refine m_run ?_
  apply TK.iter (fun j ρ' Γ' => ∃ i : Nat, i + j = L.length ∧ lk ρ' 0 = .pointer (some ⟨bt, 0, none⟩) ∧ lk ρ' 1 = .pointer (some ⟨rt, 0, none⟩) ∧ lk ρ' 2 = .slice O os.length oc ∧ lk ρ' 7 = .int .i64 i ∧ Γ' = tabAt bt mb (.slice A L.length c) L (refAt rt (.slice B L.length d) L Γ)) L.length
  · exact ⟨0, by omega, rfl, rfl, rfl, rfl, rfl⟩
  rintro j IH ρ' Γ' ⟨i, hij, e0, e1, e2, e7, rfl⟩
  refine TK.know4 e0 e1 e2 e7 ?_
  by_cases hi : i < L.length
  · have hx : L[i]? = some L[i] := by simp [hi]
    generalize L[i] = x at hx
    refine TK.fact (fun m hm => src_some1 (hrs m hm) (by rw [strs_length]; omega)) ?_
    rintro ⟨bb, ob, rfl⟩
    have hc := has_str hrs hx
    have hn := name_at bt mb (.slice A L.length c) L i (refAt rt (.slice (some ⟨bb, ob, none⟩) L.length d) L Γ) (by omega) (by omega)
    rw [show nameM L i = (x, true) by rw [nameM, hx]] at hn
    have hf := find_at bt mb (.slice A L.length c) L x (refAt rt (.slice (some ⟨bb, ob, none⟩) L.length d) L Γ)
    rw [findName_nodup hnd hx] at hf
    have e4 : IntKind.u32.wrap (i : Int) = i := u32_in (by omega) (by omega)
    refine m_run ?_
    refine TL.know (t := 48) (v := numV i) (congrArg (Value.int .u32) e4) ?_
    (apply TL.callV; exact rfl; exact callB_of (by kernel_rfl); exact rfl; exact fun _ h => h)
    exact hn
    rintro _ _ ⟨rfl, rfl⟩
    refine m_run ?_
    (apply TL.callV; exact rfl; exact callB_of (by kernel_rfl); exact rfl; exact fun _ h => h)
    exact hf
    rintro _ _ ⟨rfl, rfl⟩
    simp only [Option.getD_some, Option.isSome_some]
    refine m_run ?_
    refine IH (j - 1) _ _ (by omega) ⟨i + 1, by omega, rfl, rfl, rfl, congrArg (Value.int .i64) (i64_succ i (by omega)), rfl⟩
  · refine m_run ?_
    apply TK.iter (fun j ρ' Γ' => ∃ i : Nat, i + j = os.length ∧ lk ρ' 0 = .pointer (some ⟨bt, 0, none⟩) ∧ lk ρ' 1 = .pointer (some ⟨rt, 0, none⟩) ∧ lk ρ' 2 = .slice O os.length oc ∧ lk ρ' 12 = .int .i64 i ∧ Γ' = tabAt bt mb (.slice A L.length c) L (refAt rt (.slice B L.length d) L Γ)) os.length
    · exact ⟨0, by omega, rfl, rfl, rfl, rfl, rfl⟩
    rintro j2 IH2 ρ2 Γ2 ⟨q, hqj, e0, e1, e2, e12, rfl⟩
    refine TK.know4 e0 e1 e2 e12 ?_
    by_cases hq : q < os.length
    · have hx : os[q]? = some os[q] := by simp [hq]
      generalize os[q] = x at hx
      refine TK.fact (fun m hm => src_some1 (hoo m hm) (by rw [strs_length]; omega)) ?_
      rintro ⟨bo, oo, rfl⟩
      have hc := has_str hoo hx
      have hf := find_at bt mb (.slice A L.length c) L x (refAt rt (.slice B L.length d) L Γ)
      have hr := reffind_t rt B d L x _ hr0 hrs (by omega)
      cases hfn : findName L x with
      | none =>
        rw [hfn] at hf
        rw [show findI L x = -1 by rw [findI, hfn]] at hr
        refine m_run ?_
        (apply TL.callV; exact rfl; exact callB_of (by kernel_rfl); exact rfl; exact fun _ h => h)
        exact hf
        rintro _ _ ⟨rfl, rfl⟩
        simp only [Option.getD_none, Option.isSome_none]
        refine m_run ?_
        (apply TL.callV; exact rfl; exact callB_of (by kernel_rfl); exact rfl; exact fun _ h => h)
        exact hr
        rintro _ _ ⟨rfl, rfl⟩
        refine m_run ?_
        refine IH2 (j2 - 1) _ _ (by omega) ⟨q + 1, by omega, rfl, rfl, rfl, congrArg (Value.int .i64) (i64_succ q (by omega)), rfl⟩
      | some n =>
        rw [hfn] at hf
        rw [show findI L x = (n : Int) by rw [findI, hfn]] at hr
        refine m_run ?_
        (apply TL.callV; exact rfl; exact callB_of (by kernel_rfl); exact rfl; exact fun _ h => h)
        exact hf
        rintro _ _ ⟨rfl, rfl⟩
        simp only [Option.getD_some, Option.isSome_some]
        refine m_run ?_
        (apply TL.callV; exact rfl; exact callB_of (by kernel_rfl); exact rfl; exact fun _ h => h)
        exact hr
        rintro _ _ ⟨rfl, rfl⟩
        refine m_run ?_
        obtain ⟨hnl, _⟩ := findName_some hfn
        refine TK.know (t := 118) (v := .bool false) (congrArg Value.bool (show ((n : Int) != IntKind.u32.wrap (if (0 : Int) > (n : Int) then 0 else (n : Int))) = false by rw [if_neg (by omega), u32_in (by omega) (by omega)]; simp)) ?_
        refine m_run ?_
        refine IH2 (j2 - 1) _ _ (by omega) ⟨q + 1, by omega, rfl, rfl, rfl, congrArg (Value.int .i64) (i64_succ q (by omega)), rfl⟩
    · have hn := name_at bt mb (.slice A L.length c) L L.length (refAt rt (.slice B L.length d) L Γ) (by omega) (by omega)
      rw [show nameM L L.length = ([], false) by rw [nameM, List.getElem?_eq_none (Nat.le_refl _)]] at hn
      refine m_run ?_
      refine TL.know (t := 126) (v := numV L.length) (congrArg (Value.int .u32) (u32_in (by omega) (by omega))) ?_
      (apply TL.callV; exact rfl; exact callB_of (by kernel_rfl); exact rfl; exact fun _ h => h)
      exact hn
      rintro _ _ ⟨rfl, rfl⟩
      refine m_run ?_
      (apply TK.ret1; exact rfl; (exact m_val))
      exact ⟨_, rfl, rfl, rfl⟩
end Go.Proofs.Ytoccilnobgoncaa.E
