/- The document on who is reached: link, reached, from, walked. Printed by gen_yp.py. -/
import Derived.Test.YthbcfamfaicneaaYo
namespace Go.Proofs.Ythbcfamfaicneaa.E
open Go Go.RowKit Go.Proofs
attribute [local irreducible] TK TL TQ TA TB Fn PV
set_option maxRecDepth 100000 in
set_option maxHeartbeats 4000000 in
theorem rlink_t (x : Cr) (p : Nat) (args : Int) (Γ : List HP) (hxo : x.ok Γ) (hxf : x.few) : FnV Try.prog 73 [.agg x.cells.toArray, .int .u32 (p : Int), .int .i64 args] Γ fun v Γ' => v = .bool (linkB p args x) ∧ Γ' = Γ := by
  refine Fn.enter Try.func73 rfl rfl rfl fun E => ?_
  refine m_run ?_
  (apply TL.box; exact rfl; exact rfl; (exact m_lst))
  intro b3
  refine TL.imp (Δ := crRow b3 x :: Γ) (fun _ h => h) ?_
  have hb3 : has (crRow b3 x :: Γ) (fun m => cellsAt m b3 0 x.cells) := has_rows 0 rfl rfl
  by_cases h1 : x.kind = 2
  rotate_left
  · refine m_run ?_
    (apply TK.retS1; exact rfl; exact rfl; (exact m_val))
    exact ⟨_, rfl, by simp [linkB, h1], rfl⟩
    (repeat (first | exact List.Sublist.refl _ | apply List.Sublist.cons_cons | apply List.Sublist.cons))
  refine m_run ?_
  (apply TL.callV; exact rfl; exact callB_of (by kernel_rfl); exact rfl; exact fun _ h => h)
  exact rcredMay_t x _ (Cr.ok_tl hxo) hxf
  rintro _ _ ⟨rfl, rfl⟩
  cases hm : mayCr x with
  | false =>
    refine m_run ?_
    (apply TK.retS1; exact rfl; exact rfl; (exact m_val))
    exact ⟨_, rfl, by simp [linkB, hm], rfl⟩
    (repeat (first | exact List.Sublist.refl _ | apply List.Sublist.cons_cons | apply List.Sublist.cons))
  | true =>
  by_cases h2 : x.p = p
  rotate_left
  · refine m_run ?_
    (apply TK.retS1; exact rfl; exact rfl; (exact m_val))
    exact ⟨_, rfl, by simp [linkB, h2], rfl⟩
    (repeat (first | exact List.Sublist.refl _ | apply List.Sublist.cons_cons | apply List.Sublist.cons))
  by_cases h3 : x.args = args
  rotate_left
  · have h3' : (x.args == args) = false := by simpa using h3
    refine m_run ?_
    (apply TK.retS1; exact rfl; exact rfl; (exact m_val))
    exact ⟨_, rfl, by simp [linkB, h3], rfl⟩
    (repeat (first | exact List.Sublist.refl _ | apply List.Sublist.cons_cons | apply List.Sublist.cons))
  have h3' : (x.args == args) = true := by simpa using h3
  refine m_run ?_
  (apply TL.callV; exact rfl; exact callB_of (by kernel_rfl); exact rfl; exact fun _ h => h)
  exact takes_t p args _
  rintro _ _ ⟨rfl, rfl⟩
  refine m_run ?_
  (apply TK.retS1; exact rfl; exact rfl; (exact m_val))
  exact ⟨_, rfl, by simp [linkB, h1, h2, h3, hm], rfl⟩
  (repeat (first | exact List.Sublist.refl _ | apply List.Sublist.cons_cons | apply List.Sublist.cons))
abbrev wkRow (bw : Nat) (A : Option Addr) (n c p : Nat) (args : Int) (O : Option Addr) (m ko x : Nat) (f : Option Wy) : HP := row bw [.slice A n c, .int .u32 (p : Int), .int .i64 args, .slice O m ko, .int .u32 (x : Int), wayV f, .bool f.isSome] 88
/-- One chain, told. -/
def rchP (x : Nat) (st : List Nat × Option (List Nat)) (s : Rch.Stp) : List Nat × Option (List Nat) := (if s.1.1 ∈ st.1 then st.1 else st.1 ++ [s.1.1], if st.2.isSome then st.2 else if s.1.1 = x then some s.2 else none)
theorem rchP_len (x : Nat) : ∀ (L : List Rch.Stp) (st : List Nat × Option (List Nat)), (L.foldl (rchP x) st).1.length ≤ st.1.length + L.length
  | [], _ => Nat.le_refl _
  | s :: L, st => by
    rw [List.foldl_cons, List.length_cons]
    refine Nat.le_trans (rchP_len x L _) ?_
    unfold rchP
    simp only
    split
    · omega
    · rw [List.length_append, List.length_singleton]; omega
set_option maxRecDepth 100000 in
set_option maxHeartbeats 8000000 in
theorem reached_t (bw : Nat) (A : Option Addr) (c : Nat) (l : List Cr) (p : Nat) (args : Int) (x v : Nat) (y : Wy) (O : Option Addr) (ko : Nat) (out : List Nat) (f : Option Wy) (Γ : List HP) (hn : out.length ≤ 1000000) :
    FnV Try.prog 72 [.pointer (some ⟨bw, 0, none⟩), .int .u32 (v : Int), .slice y.A y.w.length y.c] (own 31 1 (.slice O out.length ko) out.length (u32s out) :: wkRow bw A l.length c p args O out.length ko x f :: Γ) fun r Γ' => r = .tuple #[] ∧ ∃ (O' : Option Addr) (ko' : Nat), Γ' = own 31 1 (.slice O' (if v ∈ out then out else out ++ [v]).length ko') (if v ∈ out then out else out ++ [v]).length (u32s (if v ∈ out then out else out ++ [v])) :: wkRow bw A l.length c p args O' (if v ∈ out then out else out ++ [v]).length ko' x (if f.isSome then f else if v = x then some y else none) :: Γ := by
  refine Fn.enter Try.func72 rfl rfl rfl fun E => ?_
  cases f with
  | some y0 =>
    rw [if_pos (show (some y0).isSome = true from rfl)]
    by_cases hx : v = x
    · refine m_run ?_
      apply TK.iter (fun j ρ' Γ' => ∃ i : Nat, i + j = out.length ∧ v ∉ out.take i ∧ lk ρ' 0 = .pointer (some ⟨bw, 0, none⟩) ∧ lk ρ' 1 = .int .u32 (v : Int) ∧ lk ρ' 6 = .int .i64 (i : Int) ∧ Γ' = own 31 1 (.slice O out.length ko) out.length (u32s out) :: wkRow bw A l.length c p args O out.length ko x (some y0) :: Γ) out.length
      · exact ⟨0, Nat.zero_add _, by simp, rfl, rfl, rfl, rfl⟩
      rintro j IH ρ' _ ⟨i, hij, hno, e0, e1, e6, rfl⟩
      refine TK.know3 e0 e1 e6 ?_
      by_cases hi : i < out.length
      · obtain ⟨z, hz⟩ : ∃ z, out[i]? = some z := ⟨out[i], List.getElem?_eq_getElem hi⟩
        have hs : has (own 31 1 (.slice O out.length ko) out.length (u32s out) :: wkRow bw A l.length c p args O out.length ko x (some y0) :: Γ) (srcAt 1 O out.length (u32s out)) := has_at (up_src _ _ _ _) 0 rfl fun _ h => own_src h
        refine TK.mem fun m0 hm0 => ?_
        obtain ⟨g, u, rfl⟩ := src_some (hs m0 hm0) (by rw [u32s_len]; omega)
        clear hm0 m0
        have hw := has_u32 hs hz
        by_cases hvz : z = v
        · subst hvz
          have hin : z ∈ out := List.mem_of_getElem? hz
          refine m_run ?_
          refine TK.ret0 rfl rfl ⟨_, rfl, rfl, some ⟨g, u, none⟩, ko, ?_⟩
          rw [if_pos hin]
        · refine m_run ?_
          refine IH (j - 1) _ _ (by omega) ⟨i + 1, by omega, ?_, rfl, rfl, congrArg (Value.int .i64) (i64_succ i (by omega)), rfl⟩
          rw [List.take_add_one, hz, List.mem_append, not_or]
          exact ⟨hno, by simpa using fun e => hvz e.symm⟩
      obtain rfl : i = out.length := by omega
      rw [List.take_length] at hno
      refine m_run ?_
      (apply TL.buildSlice (l := u32s [v]); exact rfl; exact tb rfl; exact rfl; exact tb rfl; exact rfl; exact rfl; exact rfl; exact rfl; exact rfl)
      intro b51
      refine m_run ?_
      (apply TL.append 1; exact rfl; exact rfl; exact tb rfl; exact rfl; exact tb rfl; exact rfl; exact rfl; exact rfl)
      · exact fun _ h => h
      · exact rfl
      · exact has_src_row 0 rfl rfl
      · exact u32s_one [v]
      · show (out.length + 1) * 4 ≤ _; omega
      · show out.length + 1 ≤ maxLen; unfold maxLen; omega
      · exact fun _ => (rfl : _ = _ :: _ :: _)
      intro O2 k2 hk2
      rw [show u32s out ++ u32s [v] = u32s (out ++ [v]) by simp [u32s], show out.length + 1 = (out ++ [v]).length by simp]
      refine m_run ?_
      refine TK.drop ?_
      refine TK.over0 rfl rfl ⟨_, rfl, rfl, O2, k2, ?_⟩
      rw [if_neg hno]
    · refine m_run ?_
      apply TK.iter (fun j ρ' Γ' => ∃ i : Nat, i + j = out.length ∧ v ∉ out.take i ∧ lk ρ' 0 = .pointer (some ⟨bw, 0, none⟩) ∧ lk ρ' 1 = .int .u32 (v : Int) ∧ lk ρ' 6 = .int .i64 (i : Int) ∧ Γ' = own 31 1 (.slice O out.length ko) out.length (u32s out) :: wkRow bw A l.length c p args O out.length ko x (some y0) :: Γ) out.length
      · exact ⟨0, Nat.zero_add _, by simp, rfl, rfl, rfl, rfl⟩
      rintro j IH ρ' _ ⟨i, hij, hno, e0, e1, e6, rfl⟩
      refine TK.know3 e0 e1 e6 ?_
      by_cases hi : i < out.length
      · obtain ⟨z, hz⟩ : ∃ z, out[i]? = some z := ⟨out[i], List.getElem?_eq_getElem hi⟩
        have hs : has (own 31 1 (.slice O out.length ko) out.length (u32s out) :: wkRow bw A l.length c p args O out.length ko x (some y0) :: Γ) (srcAt 1 O out.length (u32s out)) := has_at (up_src _ _ _ _) 0 rfl fun _ h => own_src h
        refine TK.mem fun m0 hm0 => ?_
        obtain ⟨g, u, rfl⟩ := src_some (hs m0 hm0) (by rw [u32s_len]; omega)
        clear hm0 m0
        have hw := has_u32 hs hz
        by_cases hvz : z = v
        · subst hvz
          have hin : z ∈ out := List.mem_of_getElem? hz
          refine m_run ?_
          refine TK.ret0 rfl rfl ⟨_, rfl, rfl, some ⟨g, u, none⟩, ko, ?_⟩
          rw [if_pos hin]
        · refine m_run ?_
          refine IH (j - 1) _ _ (by omega) ⟨i + 1, by omega, ?_, rfl, rfl, congrArg (Value.int .i64) (i64_succ i (by omega)), rfl⟩
          rw [List.take_add_one, hz, List.mem_append, not_or]
          exact ⟨hno, by simpa using fun e => hvz e.symm⟩
      obtain rfl : i = out.length := by omega
      rw [List.take_length] at hno
      refine m_run ?_
      (apply TL.buildSlice (l := u32s [v]); exact rfl; exact tb rfl; exact rfl; exact tb rfl; exact rfl; exact rfl; exact rfl; exact rfl; exact rfl)
      intro b51
      refine m_run ?_
      (apply TL.append 1; exact rfl; exact rfl; exact tb rfl; exact rfl; exact tb rfl; exact rfl; exact rfl; exact rfl)
      · exact fun _ h => h
      · exact rfl
      · exact has_src_row 0 rfl rfl
      · exact u32s_one [v]
      · show (out.length + 1) * 4 ≤ _; omega
      · show out.length + 1 ≤ maxLen; unfold maxLen; omega
      · exact fun _ => (rfl : _ = _ :: _ :: _)
      intro O2 k2 hk2
      rw [show u32s out ++ u32s [v] = u32s (out ++ [v]) by simp [u32s], show out.length + 1 = (out ++ [v]).length by simp]
      refine m_run ?_
      refine TK.drop ?_
      refine TK.over0 rfl rfl ⟨_, rfl, rfl, O2, k2, ?_⟩
      rw [if_neg hno]
  | none =>
    rw [if_neg (show ¬ (none : Option Wy).isSome = true by decide)]
    by_cases hx : v = x
    · rw [if_pos hx]
      refine m_run ?_
      apply TK.iter (fun j ρ' Γ' => ∃ i : Nat, i + j = out.length ∧ v ∉ out.take i ∧ lk ρ' 0 = .pointer (some ⟨bw, 0, none⟩) ∧ lk ρ' 1 = .int .u32 (v : Int) ∧ lk ρ' 6 = .int .i64 (i : Int) ∧ Γ' = own 31 1 (.slice O out.length ko) out.length (u32s out) :: wkRow bw A l.length c p args O out.length ko x (some y) :: Γ) out.length
      · exact ⟨0, Nat.zero_add _, by simp, rfl, rfl, rfl, rfl⟩
      rintro j IH ρ' _ ⟨i, hij, hno, e0, e1, e6, rfl⟩
      refine TK.know3 e0 e1 e6 ?_
      by_cases hi : i < out.length
      · obtain ⟨z, hz⟩ : ∃ z, out[i]? = some z := ⟨out[i], List.getElem?_eq_getElem hi⟩
        have hs : has (own 31 1 (.slice O out.length ko) out.length (u32s out) :: wkRow bw A l.length c p args O out.length ko x (some y) :: Γ) (srcAt 1 O out.length (u32s out)) := has_at (up_src _ _ _ _) 0 rfl fun _ h => own_src h
        refine TK.mem fun m0 hm0 => ?_
        obtain ⟨g, u, rfl⟩ := src_some (hs m0 hm0) (by rw [u32s_len]; omega)
        clear hm0 m0
        have hw := has_u32 hs hz
        by_cases hvz : z = v
        · subst hvz
          have hin : z ∈ out := List.mem_of_getElem? hz
          refine m_run ?_
          refine TK.ret0 rfl rfl ⟨_, rfl, rfl, some ⟨g, u, none⟩, ko, ?_⟩
          rw [if_pos hin]
        · refine m_run ?_
          refine IH (j - 1) _ _ (by omega) ⟨i + 1, by omega, ?_, rfl, rfl, congrArg (Value.int .i64) (i64_succ i (by omega)), rfl⟩
          rw [List.take_add_one, hz, List.mem_append, not_or]
          exact ⟨hno, by simpa using fun e => hvz e.symm⟩
      obtain rfl : i = out.length := by omega
      rw [List.take_length] at hno
      refine m_run ?_
      (apply TL.buildSlice (l := u32s [v]); exact rfl; exact tb rfl; exact rfl; exact tb rfl; exact rfl; exact rfl; exact rfl; exact rfl; exact rfl)
      intro b51
      refine m_run ?_
      (apply TL.append 1; exact rfl; exact rfl; exact tb rfl; exact rfl; exact tb rfl; exact rfl; exact rfl; exact rfl)
      · exact fun _ h => h
      · exact rfl
      · exact has_src_row 0 rfl rfl
      · exact u32s_one [v]
      · show (out.length + 1) * 4 ≤ _; omega
      · show out.length + 1 ≤ maxLen; unfold maxLen; omega
      · exact fun _ => (rfl : _ = _ :: _ :: _)
      intro O2 k2 hk2
      rw [show u32s out ++ u32s [v] = u32s (out ++ [v]) by simp [u32s], show out.length + 1 = (out ++ [v]).length by simp]
      refine m_run ?_
      refine TK.drop ?_
      refine TK.over0 rfl rfl ⟨_, rfl, rfl, O2, k2, ?_⟩
      rw [if_neg hno]
    · rw [if_neg hx]
      refine m_run ?_
      apply TK.iter (fun j ρ' Γ' => ∃ i : Nat, i + j = out.length ∧ v ∉ out.take i ∧ lk ρ' 0 = .pointer (some ⟨bw, 0, none⟩) ∧ lk ρ' 1 = .int .u32 (v : Int) ∧ lk ρ' 6 = .int .i64 (i : Int) ∧ Γ' = own 31 1 (.slice O out.length ko) out.length (u32s out) :: wkRow bw A l.length c p args O out.length ko x none :: Γ) out.length
      · exact ⟨0, Nat.zero_add _, by simp, rfl, rfl, rfl, rfl⟩
      rintro j IH ρ' _ ⟨i, hij, hno, e0, e1, e6, rfl⟩
      refine TK.know3 e0 e1 e6 ?_
      by_cases hi : i < out.length
      · obtain ⟨z, hz⟩ : ∃ z, out[i]? = some z := ⟨out[i], List.getElem?_eq_getElem hi⟩
        have hs : has (own 31 1 (.slice O out.length ko) out.length (u32s out) :: wkRow bw A l.length c p args O out.length ko x none :: Γ) (srcAt 1 O out.length (u32s out)) := has_at (up_src _ _ _ _) 0 rfl fun _ h => own_src h
        refine TK.mem fun m0 hm0 => ?_
        obtain ⟨g, u, rfl⟩ := src_some (hs m0 hm0) (by rw [u32s_len]; omega)
        clear hm0 m0
        have hw := has_u32 hs hz
        by_cases hvz : z = v
        · subst hvz
          have hin : z ∈ out := List.mem_of_getElem? hz
          refine m_run ?_
          refine TK.ret0 rfl rfl ⟨_, rfl, rfl, some ⟨g, u, none⟩, ko, ?_⟩
          rw [if_pos hin]
        · refine m_run ?_
          refine IH (j - 1) _ _ (by omega) ⟨i + 1, by omega, ?_, rfl, rfl, congrArg (Value.int .i64) (i64_succ i (by omega)), rfl⟩
          rw [List.take_add_one, hz, List.mem_append, not_or]
          exact ⟨hno, by simpa using fun e => hvz e.symm⟩
      obtain rfl : i = out.length := by omega
      rw [List.take_length] at hno
      refine m_run ?_
      (apply TL.buildSlice (l := u32s [v]); exact rfl; exact tb rfl; exact rfl; exact tb rfl; exact rfl; exact rfl; exact rfl; exact rfl; exact rfl)
      intro b51
      refine m_run ?_
      (apply TL.append 1; exact rfl; exact rfl; exact tb rfl; exact rfl; exact tb rfl; exact rfl; exact rfl; exact rfl)
      · exact fun _ h => h
      · exact rfl
      · exact has_src_row 0 rfl rfl
      · exact u32s_one [v]
      · show (out.length + 1) * 4 ≤ _; omega
      · show out.length + 1 ≤ maxLen; unfold maxLen; omega
      · exact fun _ => (rfl : _ = _ :: _ :: _)
      intro O2 k2 hk2
      rw [show u32s out ++ u32s [v] = u32s (out ++ [v]) by simp [u32s], show out.length + 1 = (out ++ [v]).length by simp]
      refine m_run ?_
      refine TK.drop ?_
      refine TK.over0 rfl rfl ⟨_, rfl, rfl, O2, k2, ?_⟩
      rw [if_neg hno]
end Go.Proofs.Ythbcfamfaicneaa.E
