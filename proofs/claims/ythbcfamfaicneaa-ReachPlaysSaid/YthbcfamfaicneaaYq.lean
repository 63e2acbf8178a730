/- The document on who is reached: from, walked. Printed by gen_yq.py. -/
import Derived.Test.YthbcfamfaicneaaYp
namespace Go.Proofs.Ythbcfamfaicneaa.E
open Go Go.RowKit Go.Proofs
attribute [local irreducible] TK TL TQ TA TB Fn PV
theorem linksOf_split (l : List Cr) (p : Nat) (args : Int) (i : Nat) : ∃ R, linksOf l p args = linksOf (l.take i) p args ++ R := by
  unfold linksOf
  refine ⟨((((l.drop i).zipIdx (0 + (l.take i).length)).filter fun x => linkB p args x.1).map (·.2)), ?_⟩
  rw [← List.map_append, ← List.filter_append, ← List.zipIdx_append, List.take_append_drop]
set_option maxRecDepth 100000 in
set_option maxHeartbeats 16000000 in
theorem from_t (bw : Nat) (A : Option Addr) (c : Nat) (l : List Cr) (p : Nat) (args : Int) (x : Nat) (Γ : List HP) (h : Crs A l Γ) :
    ∀ (links v k : Nat) (y : Wy) (O : Option Addr) (ko : Nat) (out : List Nat) (f : Option Wy) (Γ2 : List HP), Γ.Sublist Γ2 → y.ok Γ2 → y.w.length + links ≤ 10 → k ≤ 3 → links ≤ 3 → (∀ s, f = some s → s.ok Γ2) → out.length + (Rch.goes (linksOf l p args) (nxL l) links ((v, k), y.w)).length ≤ 1000000 →
    FnV Try.prog 54 [.pointer (some ⟨bw, 0, none⟩), .int .u32 (v : Int), .int .i64 (k : Int), .int .i64 (links : Int), .slice y.A y.w.length y.c] (own 31 1 (.slice O out.length ko) out.length (u32s out) :: wkRow bw A l.length c p args O out.length ko x f :: Γ2) fun r Γ' => r = .tuple #[] ∧ ∃ (O' : Option Addr) (ko' : Nat) (out' : List Nat) (f' : Option Wy) (Γ3 : List HP), Γ' = own 31 1 (.slice O' out'.length ko') out'.length (u32s out') :: wkRow bw A l.length c p args O' out'.length ko' x f' :: Γ3 ∧ Γ2.Sublist Γ3 ∧ (∀ s, f' = some s → s.ok Γ3) ∧ (out', f'.map (·.w)) = (Rch.goes (linksOf l p args) (nxL l) links ((v, k), y.w)).foldl (rchP x) (out, f.map (·.w)) := by
  intro links
  induction links with
  | zero =>
    intro v k y O ko out f Γ2 hsub hy hyw hk hlk hf hlen
    refine Fn.enter Try.func54 rfl rfl rfl fun E => ?_
    refine m_run ?_
    (apply TL.callV; exact rfl; exact callB_of (by kernel_rfl); exact rfl; exact fun _ h => h)
    exact reached_t bw A c l p args x v y O ko out f Γ2 (by omega)
    rintro _ _ ⟨rfl, O2, k2, rfl⟩
    refine m_run ?_
    refine TK.ret0 rfl rfl ⟨_, rfl, rfl, O2, k2, _, _, Γ2, rfl, .refl _, fun s hs => ?_, ?_⟩
    · split at hs
      · exact hf s hs
      · split at hs
        · injection hs with hs; rw [← hs]; exact hy
        · cases hs
    · show _ = rchP x (out, f.map (·.w)) ((v, k), y.w)
      unfold rchP
      cases f with
      | some y0 => rfl
      | none => by_cases hvx : v = x <;> simp [hvx]
  | succ links ih =>
    intro v k y O ko out f Γ2 hsub hy hyw hk hlk hf hlen
    refine Fn.enter Try.func54 rfl rfl rfl fun E => ?_
    have hll := h.len
    refine m_run ?_
    apply TK.iter (fun j ρ' Γ' => ∃ (i : Nat) (O1 : Option Addr) (k1 : Nat) (out1 : List Nat) (f1 : Option Wy) (Γ3 : List HP), i + j = l.length ∧ Γ2.Sublist Γ3 ∧ (∀ s, f1 = some s → s.ok Γ3) ∧ (out1, f1.map (·.w)) = (((linksOf (l.take i) p args).filterMap (Rch.step1 (nxL l) ((v, k), y.w))).flatMap (Rch.goes (linksOf l p args) (nxL l) links)).foldl (rchP x) (out, f.map (·.w)) ∧ lk ρ' 0 = .pointer (some ⟨bw, 0, none⟩) ∧ lk ρ' 1 = .int .u32 (v : Int) ∧ lk ρ' 2 = .int .i64 (k : Int) ∧ lk ρ' 3 = .int .i64 ((links + 1 : Nat) : Int) ∧ lk ρ' 4 = .slice y.A y.w.length y.c ∧ lk ρ' 10 = .int .i64 (i : Int) ∧ Γ' = own 31 1 (.slice O1 out1.length k1) out1.length (u32s out1) :: wkRow bw A l.length c p args O1 out1.length k1 x f1 :: Γ3) l.length
    · exact ⟨0, O, ko, out, f, Γ2, Nat.zero_add _, .refl _, hf, rfl, rfl, rfl, rfl, rfl, rfl, rfl, rfl⟩
    rintro j IH ρ' _ ⟨i, O1, k1, out1, f1, Γ3, hij, hsub3, hf1, hst, e0, e1, e2, e3, e4, e10, rfl⟩
    refine TK.know6 e0 e1 e2 e3 e4 e10 ?_
    by_cases hi : i < l.length
    rotate_left
    · obtain rfl : i = l.length := by omega
      rw [List.take_length] at hst
      refine m_run ?_
      exact TK.over0 rfl rfl ⟨_, rfl, rfl, O1, k1, out1, f1, Γ3, rfl, hsub3, hf1, hst⟩
    obtain ⟨X, hX⟩ : ∃ X, l[i]? = some X := ⟨l[i], List.getElem?_eq_getElem hi⟩
    have hXm := List.mem_of_getElem? hX
    have hA3 : has Γ3 (srcAt 15 A l.length (crsC l)) := has_sublist (up_src _ _ _ _) (hsub.trans hsub3) h.src
    have hXo : X.ok Γ3 := Cr.ok_sub (hsub.trans hsub3) (h.ok X hXm)
    have hXf := h.few X hXm
    have hy3 : y.ok Γ3 := ⟨has_sublist (up_src _ _ _ _) hsub3 hy.1, hy.2⟩
    have hsn := linksOf_take (p := p) (args := args) hX
    refine TK.mem fun m0 hm0 => ?_
    obtain ⟨g, u, rfl⟩ := src_some ((has_tls (has_tls hA3) : has (_ :: _ :: Γ3) _) m0 hm0) (by rw [crsC_len]; omega)
    clear hm0 m0
    have hel : has Γ3 (fun m => cellsAt m g (u + i * 15) [.int .u32 (X.iss : Int), .int .u64 (X.ser : Int), .int .u64 (X.frm : Int), .int .u64 (X.til : Int), .int .u8 (X.kind : Int), .bool X.r.h.s, .bool X.r.h.w.v, .int .u32 (X.r.h.w.n : Int), .int .u32 (X.r.h.a.p : Int), .slice X.r.h.a.A X.r.h.a.l.length X.r.h.a.c, .slice X.r.A X.r.l.length X.r.c, .int .u32 (X.p : Int), .int .i64 X.args, .int .u32 (X.to : Int), .int .i64 X.dep]) := has_el (sz := 15) (f := Cr.cells) (fun _ => rfl) (by decide) hA3 hX
    refine m_run ?_
    (apply TL.alloc; exact rfl; exact tb rfl; exact (rfl : _ = [_, _, _, _, _, _, _, _, _, _, _, _, _, _, _]))
    intro b11
    refine m_rrun ?_
    refine TL.nil ?_
    refine TK.imp (Δ := crRow b11 X :: own 31 1 (.slice O1 out1.length k1) out1.length (u32s out1) :: wkRow bw (some ⟨g, u, none⟩) l.length c p args O1 out1.length k1 x f1 :: Γ3) (fun _ h => h) ?_
    clear hel
    have hb11 : has (crRow b11 X :: own 31 1 (.slice O1 out1.length k1) out1.length (u32s out1) :: wkRow bw (some ⟨g, u, none⟩) l.length c p args O1 out1.length k1 x f1 :: Γ3) (fun m => cellsAt m b11 0 X.cells) := has_rows 0 rfl rfl
    refine m_run ?_
    refine TK.drawS mixed rfl ?_
    refine m_take (At.mk : At 0) ?_; refine m_take (At.mk : At 1) ?_; refine m_take (At.mk : At 2) ?_; refine m_take (At.mk : At 3) ?_; refine m_take (At.mk : At 4) ?_; refine m_take (At.mk : At 5) ?_; refine m_take (At.mk : At 6) ?_; refine m_take (At.mk : At 7) ?_; refine m_take (At.mk : At 8) ?_
    (apply TA.one 9; kernel_rfl; exact rfl)
    (apply TL.callV; exact rfl; exact callB_of (by kernel_rfl); exact rfl; exact fun _ h => h)
    exact rlink_t X p args _ (Cr.ok_tl (Cr.ok_tl (Cr.ok_tl hXo))) hXf
    rintro _ _ ⟨rfl, rfl⟩
    refine TL.back (by (focus ((repeat (first | assumption | exact Ent.refl _ | apply Ent.tail)); done))) ?_
    refine m_take (At.mk : At 10) ?_
    cases hlb : linkB p args X with
    | false =>
      refine m_take (At.mk : At 11) ?_; refine m_take (At.mk : At 12) ?_; refine m_take (At.mk : At 13) ?_; refine m_take (At.mk : At 14) ?_; refine m_take (At.mk : At 15) ?_; refine m_take (At.mk : At 16) ?_; refine m_take (At.mk : At 17) ?_; refine m_take (At.mk : At 18) ?_; refine m_take (At.mk : At 19) ?_
      refine TA.done (by kernel_rfl) ?_
      refine m_run ?_
      refine TK.drop ?_
      exact IH (j - 1) _ _ (by omega) ⟨i + 1, O1, k1, out1, f1, Γ3, by omega, hsub3, hf1, by rw [hsn, hlb]; simpa using hst, rfl, rfl, rfl, rfl, rfl, congrArg (Value.int .i64) (i64_succ i (by omega)), rfl⟩
    | true =>
    rw [hlb, if_pos rfl] at hsn
    refine m_take (At.mk : At 11) ?_; refine m_take (At.mk : At 12) ?_; refine m_take (At.mk : At 13) ?_; refine m_take (At.mk : At 14) ?_
    by_cases hiss : X.iss = v
    rotate_left
    · have hnx : Rch.step1 (nxL l) ((v, k), y.w) i = none := by
        unfold Rch.step1
        rw [nxL_none hX (.inl hiss)]
        rfl
      refine TA.isF 48 rfl (beq_eq_false_iff_ne.2 (by omega)) ?_
      refine m_take (At.mk : At 15) ?_; refine m_take (At.mk : At 16) ?_; refine m_take (At.mk : At 17) ?_; refine m_take (At.mk : At 18) ?_; refine m_take (At.mk : At 19) ?_
      refine TA.done (by kernel_rfl) ?_
      refine m_run ?_
      refine TK.drop ?_
      exact IH (j - 1) _ _ (by omega) ⟨i + 1, O1, k1, out1, f1, Γ3, by omega, hsub3, hf1, by rw [hsn, List.filterMap_append]; simp only [List.filterMap_cons, List.filterMap_nil, hnx, List.append_nil]; exact hst, rfl, rfl, rfl, rfl, rfl, congrArg (Value.int .i64) (i64_succ i (by omega)), rfl⟩
    refine TA.isT 48 rfl (beq_iff_eq.2 (by omega)) ?_
    refine m_take (At.mk : At 15) ?_; refine m_take (At.mk : At 16) ?_; refine m_take (At.mk : At 17) ?_; refine m_take (At.mk : At 18) ?_
    by_cases hk0 : 0 < k
    rotate_left
    · have hnx : Rch.step1 (nxL l) ((v, k), y.w) i = none := by
        unfold Rch.step1
        rw [nxL_none hX (.inr (by show k = 0; omega))]
        rfl
      refine TA.isF 52 rfl (decide_eq_false (by omega)) ?_
      refine m_take (At.mk : At 19) ?_
      refine TA.done (by kernel_rfl) ?_
      refine m_run ?_
      refine TK.drop ?_
      exact IH (j - 1) _ _ (by omega) ⟨i + 1, O1, k1, out1, f1, Γ3, by omega, hsub3, hf1, by rw [hsn, List.filterMap_append]; simp only [List.filterMap_cons, List.filterMap_nil, hnx, List.append_nil]; exact hst, rfl, rfl, rfl, rfl, rfl, congrArg (Value.int .i64) (i64_succ i (by omega)), rfl⟩
    refine TA.isT 52 rfl (decide_eq_true (by omega)) ?_
    refine m_take (At.mk : At 19) ?_
    refine TA.done (by kernel_rfl) ?_
    obtain ⟨hd0, hd3⟩ := linkB_dep hlb
    obtain ⟨to2, hto2⟩ : ∃ n, n = min (k - 1) X.dep.toNat := ⟨_, rfl⟩
    have hnx : Rch.step1 (nxL l) ((v, k), y.w) i = some ((X.to, to2), y.w ++ [i]) := by
      unfold Rch.step1
      rw [nxL_some hX (show X.iss = (((v, k), y.w) : Rch.Stp).1.1 from hiss) (show 0 < k from hk0), hto2]
      rfl
    have hmin : (if X.dep < IntKind.i64.wrap ((k : Int) - 1) then X.dep else IntKind.i64.wrap ((k : Int) - 1)) = (to2 : Int) := by
      rw [i64_in (by omega) (by omega), hto2]
      split <;> omega
    have hst2 : ((linksOf (l.take (i + 1)) p args).filterMap (Rch.step1 (nxL l) ((v, k), y.w))).flatMap (Rch.goes (linksOf l p args) (nxL l) links) = ((linksOf (l.take i) p args).filterMap (Rch.step1 (nxL l) ((v, k), y.w))).flatMap (Rch.goes (linksOf l p args) (nxL l) links) ++ Rch.goes (linksOf l p args) (nxL l) links ((X.to, to2), y.w ++ [i]) := by
      rw [hsn, List.filterMap_append, List.flatMap_append]
      simp only [List.filterMap_cons, List.filterMap_nil, hnx, List.flatMap_cons, List.flatMap_nil, List.append_nil]
    have hlen1 : out1.length + (Rch.goes (linksOf l p args) (nxL l) links ((X.to, to2), y.w ++ [i])).length ≤ 1000000 := by
      obtain ⟨R, hR⟩ := linksOf_split l p args (i + 1)
      have h1 : Rch.goes (linksOf l p args) (nxL l) (links + 1) ((v, k), y.w) = ((linksOf (l.take (i + 1)) p args).filterMap (Rch.step1 (nxL l) ((v, k), y.w))).flatMap (Rch.goes (linksOf l p args) (nxL l) links) ++ (R.filterMap (Rch.step1 (nxL l) ((v, k), y.w))).flatMap (Rch.goes (linksOf l p args) (nxL l) links) := by
        rw [← List.flatMap_append, ← List.filterMap_append, ← hR]
        rfl
      rw [h1, hst2, List.length_append, List.length_append] at hlen
      have h2 := rchP_len x (((linksOf (l.take i) p args).filterMap (Rch.step1 (nxL l) ((v, k), y.w))).flatMap (Rch.goes (linksOf l p args) (nxL l) links)) (out, f.map (·.w))
      rw [← hst] at h2
      simp only at h2
      omega
    refine m_run ?_
    refine TK.perm (Δ := own 31 1 (.slice O1 out1.length k1) out1.length (u32s out1) :: wkRow bw (some ⟨g, u, none⟩) l.length c p args O1 out1.length k1 x f1 :: crRow b11 X :: Γ3) (List.perm_middle (a := crRow b11 X) (l₁ := [own 31 1 (.slice O1 out1.length k1) out1.length (u32s out1), wkRow bw (some ⟨g, u, none⟩) l.length c p args O1 out1.length k1 x f1]) (l₂ := Γ3)).symm ?_
    have hb11 : has (crRow b11 X :: Γ3) (fun m => cellsAt m b11 0 X.cells) := has_rows 0 rfl rfl
    refine TK.drawE mixed rfl (crRow b11 X :: Γ3) ?_
    refine m_take (At.mk : At 0) ?_; refine m_take (At.mk : At 1) ?_; refine m_take (At.mk : At 2) ?_; refine m_take (At.mk : At 3) ?_; refine m_take (At.mk : At 4) ?_; refine m_take (At.mk : At 5) ?_; refine m_take (At.mk : At 6) ?_; refine m_take (At.mk : At 7) ?_; refine m_take (At.mk : At 8) ?_; refine m_take (At.mk : At 9) ?_; refine m_take (At.mk : At 11) ?_; refine m_take (At.mk : At 13) ?_
    refine TA.know (t := 61) (v := .int .i64 (to2 : Int)) (congrArg (Value.int .i64) hmin) ?_
    refine TA.know (t := 63) (v := .int .i64 (links : Int)) (congrArg (Value.int .i64) (by rw [i64_in (by omega) (by omega)]; omega)) ?_
    refine TA.cutJ [10, 12, 14] (fun ρ' Γ' => ∃ (W : Option Addr) (c2 b68 : Nat), y.w.length ≤ c2 ∧ lk ρ' 0 = .pointer (some ⟨bw, 0, none⟩) ∧ lk ρ' 1 = .int .u32 (v : Int) ∧ lk ρ' 2 = .int .i64 (k : Int) ∧ lk ρ' 3 = .int .i64 ((links + 1 : Nat) : Int) ∧ lk ρ' 4 = .slice y.A y.w.length y.c ∧ lk ρ' 10 = .int .i64 (i : Int) ∧ lk ρ' 54 = .pointer (some ⟨bw, 0, none⟩) ∧ lk ρ' 56 = .int .u32 (X.to : Int) ∧ lk ρ' 61 = .int .i64 (to2 : Int) ∧ lk ρ' 63 = .int .i64 (links : Int) ∧ lk ρ' 66 = .slice W y.w.length c2 ∧ lk ρ' 68 = .slice (some ⟨b68, 0, none⟩) 1 1 ∧ Γ' = row b68 (ints [i]) 3 :: own 3 1 (.slice W y.w.length c2) y.w.length (ints y.w) :: own 31 1 (.slice O1 out1.length k1) out1.length (u32s out1) :: wkRow bw (some ⟨g, u, none⟩) l.length c p args O1 out1.length k1 x f1 :: crRow b11 X :: Γ3) rfl ?_ ?_
    · intro tail
      refine TA.two 10 14 (by kernel_rfl) rfl rfl ?_ ?_
      · (apply TL.buildSlice (l := []); exact rfl; exact tb rfl; exact rfl; exact tb rfl; exact rfl; exact rfl; exact rfl; exact rfl; exact rfl)
        intro b64
        refine TL.back (by (focus ((repeat (first | assumption | exact Ent.refl _ | apply Ent.tail)); done))) ?_
        refine TA.two 12 14 (by kernel_rfl) rfl rfl ?_ ?_
        · skip
          (apply TL.append 0 (n := 0) (m := y.w.length) (cs := []) (news := ints y.w); exact rfl; exact rfl; exact tb rfl; exact rfl; exact tb rfl; exact rfl; exact rfl; exact rfl)
          · exact fun _ h => own_row (n := 0) rfl (by decide) h
          · exact rfl
          · exact has_tls (has_tls (has_tls (has_tls hy3.1)))
          · exact ints_one y.w
          · show (0 + y.w.length) * 8 ≤ _; omega
          · show 0 + y.w.length ≤ maxLen; unfold maxLen; omega
          · exact fun _ => (rfl : _ = _ :: _)
          intro W c2 hc2
          simp only [Nat.zero_add, List.nil_append] at hc2 ⊢
          refine TL.back (by (focus ((repeat (first | assumption | exact Ent.refl _ | apply Ent.tail)); done))) ?_
          (apply TA.one 14; kernel_rfl; exact rfl)
          (apply TL.buildSlice (l := ints [i]); exact rfl; exact tb rfl; exact rfl; exact tb rfl; exact rfl; exact rfl; exact rfl; exact rfl; exact rfl)
          intro b68
          refine TL.back (by (focus ((repeat (first | assumption | exact Ent.refl _ | apply Ent.tail)); done))) ?_
          refine TA.eqL ?_ (tail _ _ ⟨W, c2, b68, hc2, rfl, rfl, rfl, rfl, rfl, rfl, rfl, rfl, rfl, rfl, rfl, rfl, rfl⟩)
          kernel_rfl
        · (apply TL.buildSlice (l := ints [i]); exact rfl; exact tb rfl; exact rfl; exact tb rfl; exact rfl; exact rfl; exact rfl; exact rfl; exact rfl)
          intro b68
          refine TL.back (by (focus ((repeat (first | assumption | exact Ent.refl _ | apply Ent.tail)); done))) ?_
          (apply TA.one 12; kernel_rfl; exact rfl)
          (apply TL.append 1 (n := 0) (m := y.w.length) (cs := []) (news := ints y.w); exact rfl; exact rfl; exact tb rfl; exact rfl; exact tb rfl; exact rfl; exact rfl; exact rfl)
          · exact fun _ h => own_row (n := 0) rfl (by decide) h
          · exact rfl
          · exact has_tls (has_tls (has_tls (has_tls (has_tls hy3.1))))
          · exact ints_one y.w
          · show (0 + y.w.length) * 8 ≤ _; omega
          · show 0 + y.w.length ≤ maxLen; unfold maxLen; omega
          · exact fun _ => (rfl : _ = _ :: _ :: _)
          intro W c2 hc2
          simp only [Nat.zero_add, List.nil_append] at hc2 ⊢
          refine TL.back (by (focus ((repeat (first | assumption | exact Ent.refl _ | apply Ent.tail)); done))) ?_
          refine TA.eqL ?_ (tail _ _ ⟨W, c2, b68, hc2, rfl, rfl, rfl, rfl, rfl, rfl, rfl, rfl, rfl, rfl, rfl, rfl, rfl⟩)
          kernel_rfl
      · (apply TL.buildSlice (l := ints [i]); exact rfl; exact tb rfl; exact rfl; exact tb rfl; exact rfl; exact rfl; exact rfl; exact rfl; exact rfl)
        intro b68
        refine TL.back (by (focus ((repeat (first | assumption | exact Ent.refl _ | apply Ent.tail)); done))) ?_
        (apply TA.one 10; kernel_rfl; exact rfl)
        (apply TL.buildSlice (l := []); exact rfl; exact tb rfl; exact rfl; exact tb rfl; exact rfl; exact rfl; exact rfl; exact rfl; exact rfl)
        intro b64
        refine TL.back (by (focus ((repeat (first | assumption | exact Ent.refl _ | apply Ent.tail)); done))) ?_
        (apply TA.one 12; kernel_rfl; exact rfl)
        (apply TL.append 0 (n := 0) (m := y.w.length) (cs := []) (news := ints y.w); exact rfl; exact rfl; exact tb rfl; exact rfl; exact tb rfl; exact rfl; exact rfl; exact rfl)
        · exact fun _ h => own_row (n := 0) rfl (by decide) h
        · exact rfl
        · exact has_tls (has_tls (has_tls (has_tls (has_tls hy3.1))))
        · exact ints_one y.w
        · show (0 + y.w.length) * 8 ≤ _; omega
        · show 0 + y.w.length ≤ maxLen; unfold maxLen; omega
        · exact fun _ => (rfl : _ = _ :: _)
        intro W c2 hc2
        simp only [Nat.zero_add, List.nil_append] at hc2 ⊢
        refine TL.back (by (focus ((repeat (first | assumption | exact Ent.refl _ | apply Ent.tail)); done))) ?_
        refine TA.perm (.swap _ _ _) ?_
        refine TA.eqL ?_ (tail _ _ ⟨W, c2, b68, hc2, rfl, rfl, rfl, rfl, rfl, rfl, rfl, rfl, rfl, rfl, rfl, rfl, rfl⟩)
        kernel_rfl
    rintro ρ3 _ ⟨W, c2, b68, hc2, q0, q1, q2, q3, q4, q10, q54, q56, q61, q63, q66, q68, rfl⟩
    refine TA.know (t := 0) (v := .pointer (some ⟨bw, 0, none⟩)) q0 ?_
    refine TA.know (t := 1) (v := .int .u32 (v : Int)) q1 ?_
    refine TA.know (t := 2) (v := .int .i64 (k : Int)) q2 ?_
    refine TA.know (t := 3) (v := .int .i64 ((links + 1 : Nat) : Int)) q3 ?_
    refine TA.know (t := 4) (v := .slice y.A y.w.length y.c) q4 ?_
    refine TA.know (t := 10) (v := .int .i64 (i : Int)) q10 ?_
    refine TA.know (t := 54) (v := .pointer (some ⟨bw, 0, none⟩)) q54 ?_
    refine TA.know (t := 56) (v := .int .u32 (X.to : Int)) q56 ?_
    refine TA.know (t := 61) (v := .int .i64 (to2 : Int)) q61 ?_
    refine TA.know (t := 63) (v := .int .i64 (links : Int)) q63 ?_
    refine TA.know (t := 66) (v := .slice W y.w.length c2) q66 ?_
    refine TA.know (t := 68) (v := .slice (some ⟨b68, 0, none⟩) 1 1) q68 ?_
    (apply TA.one 15; kernel_rfl; exact rfl)
    (apply TL.append 1; exact rfl; exact rfl; exact tb rfl; exact rfl; exact tb rfl; exact rfl; exact rfl; exact rfl)
    · exact fun _ h => h
    · exact rfl
    · exact has_src_row 0 rfl rfl
    · exact ints_one [i]
    · show (y.w.length + 1) * 8 ≤ _; omega
    · show y.w.length + 1 ≤ maxLen; unfold maxLen; omega
    · exact fun _ => (rfl : _ = _ :: _ :: _)
    intro W2 c3 hc3
    rw [show ints y.w ++ ints [i] = ints (y.w ++ [i]) by simp, show y.w.length + 1 = (y.w ++ [i]).length by simp]
    rw [show y.w.length + 1 = (y.w ++ [i]).length by simp] at hc3
    refine TL.back (by (focus ((repeat (first | assumption | exact Ent.refl _ | apply Ent.tail)); done))) ?_
    (apply TA.one 16; kernel_rfl; exact rfl)
    (apply TL.callV (Δ := own 31 1 (.slice O1 out1.length k1) out1.length (u32s out1) :: wkRow bw (some ⟨g, u, none⟩) l.length c p args O1 out1.length k1 x f1 :: row b68 (ints [i]) 3 :: own 3 1 (.slice W2 (y.w ++ [i]).length c3) (y.w ++ [i]).length (ints (y.w ++ [i])) :: crRow b11 X :: Γ3); exact rfl; exact callB_of (by kernel_rfl); exact rfl; exact fun m hm => all_perm ((List.perm_middle (a := own 31 1 (.slice O1 out1.length k1) out1.length (u32s out1)) (l₁ := [row b68 (ints [i]) 3, own 3 1 (.slice W2 (y.w ++ [i]).length c3) (y.w ++ [i]).length (ints (y.w ++ [i]))]) (l₂ := wkRow bw (some ⟨g, u, none⟩) l.length c p args O1 out1.length k1 x f1 :: crRow b11 X :: Γ3)).trans (.cons _ (List.perm_middle (a := wkRow bw (some ⟨g, u, none⟩) l.length c p args O1 out1.length k1 x f1) (l₁ := [row b68 (ints [i]) 3, own 3 1 (.slice W2 (y.w ++ [i]).length c3) (y.w ++ [i]).length (ints (y.w ++ [i]))]) (l₂ := crRow b11 X :: Γ3)))) hm)
    exact ih X.to to2 ⟨X.to, to2, W2, c3, y.w ++ [i]⟩ O1 k1 out1 f1 _ (.cons _ (.cons _ (.cons _ (hsub.trans hsub3)))) ⟨has_at (up_src _ _ _ _) 1 rfl fun _ h => own_src h, hc3⟩ (by show (y.w ++ [i]).length + links ≤ 10; simp; omega) (by omega) (by omega) (fun s hs => Wy.ok_tl (Wy.ok_tl (Wy.ok_tl (hf1 s hs)))) hlen1
    rintro _ _ ⟨rfl, O3, k3, out3, f3, Γ4, rfl, hsub4, hf4, hst4⟩
    refine TL.back (fun m hm => all_sub (.cons _ (.cons _ ((List.sublist_append_right [row b68 (ints [i]) 3, own 3 1 (.slice W2 (y.w ++ [i]).length c3) (y.w ++ [i]).length (ints (y.w ++ [i]))] (crRow b11 X :: Γ3)).trans hsub4))) hm) ?_
    refine TA.done (by kernel_rfl) ?_
    refine m_run ?_
    exact IH (j - 1) _ _ (by omega) ⟨i + 1, O3, k3, out3, f3, Γ4, by omega, (hsub3.trans ((List.sublist_append_right [row b68 (ints [i]) 3, own 3 1 (.slice W2 (y.w ++ [i]).length c3) (y.w ++ [i]).length (ints (y.w ++ [i])), crRow b11 X] Γ3))).trans hsub4, hf4, by rw [hst2, List.foldl_append, ← hst]; exact hst4, rfl, rfl, rfl, rfl, rfl, congrArg (Value.int .i64) (i64_succ i (by omega)), rfl⟩
end Go.Proofs.Ythbcfamfaicneaa.E
