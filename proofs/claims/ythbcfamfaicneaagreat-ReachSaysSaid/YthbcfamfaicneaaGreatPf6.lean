/- My own texts, one behind the other: Mn Nf Ng Nb Nc Yk Sza Yl Ym TiA. -/
import Derived.Test.YthbcfamfaicneaaGreatPf5
import Derived.Test.YthbcfamfaicneaaGreatPf4
import Derived.Test.YthbcfamfaicneaaGreatPf1
import Derived.Test.YthbcfamfaicneaaGreatPf3
import Derived.Test.YthbcfamfaicneaaGreatPf2
import Derived.Sort.AssemblyPlain
/- The document on the model of a program: Of, walked. -/
namespace Go.Proofs.YthbcfamfaicneaaGreat.E
open Go Go.RowKit Go.Proofs
attribute [local irreducible] TK TL TQ TA TB Fn PV
/-- What follows stratum by stratum. -/
def ModP : List (List PC) → (PF → Prop) → PF → Prop
  | [], B => B
  | P :: Ps, B => ModP Ps (DerP P B B)
theorem ModP_snoc (P : List PC) : ∀ (Ps : List (List PC)) (B : PF → Prop), ModP (Ps ++ [P]) B = DerP P (ModP Ps B) (ModP Ps B)
  | [], _ => rfl
  | Q :: Ps, B => ModP_snoc P Ps (DerP Q B B)
/-- The clauses of a level, as they stand. -/
def clsAt (l : List Cl) (O : List Lv) (k : Nat) : List Cl := (atL l O l.length k).filterMap fun i => l[i]?
def strP (l : List Cl) (O : List Lv) : List (List PC) := (List.range (topL l O)).map fun k => (clsAt l O k).map pureC
theorem clsAt_mem {l : List Cl} {O : List Lv} {k : Nat} {c : Cl} (h : c ∈ clsAt l O k) : c ∈ l ∧ lvF O c.h.p = k := by
  unfold clsAt at h
  obtain ⟨i, hi, hc⟩ := List.mem_filterMap.1 h
  unfold atL at hi
  have h2 : hdL l O i = some k := of_decide_eq_true (List.mem_filter.1 hi).2
  unfold hdL at h2
  rw [hc] at h2
  injection h2 with h2
  exact ⟨List.mem_of_getElem? hc, h2⟩
theorem clsAt_len (l : List Cl) (O : List Lv) (k : Nat) : (clsAt l O k).length ≤ l.length := Nat.le_trans (List.length_filterMap_le _ _) (atL_len _ _ _ _)
theorem clsAt_r14 {l : List Cl} {O : List Lv} (h4 : l.length ≤ 400) (hok : okTo l l.length) (hL : LevIs (l.map pureC) O) (k : Nat) : R14 (clsAt l O k) := by
  have hc := okTo_cons hok (Nat.le_refl _)
  rw [List.take_length] at hc
  have hmem : ∀ c ∈ clsAt l O k, c ∈ l := fun c h => (clsAt_mem h).1
  refine ⟨Nat.le_trans (clsAt_len _ _ _) h4, fun j c _ hcj => ?_, fun c hcm x hx hno d hd e => ?_⟩
  · have hcl := hmem c (List.mem_of_getElem? hcj)
    obtain ⟨i, hi, hi2⟩ := List.getElem_of_mem hcl
    have h1 := hok i c hi (by rw [List.getElem?_eq_getElem hi, hi2])
    obtain ⟨h2, h3, _⟩ := wrong1_zero.1 h1
    refine wrong1_zero.2 ⟨h2, h3, hc.mono fun a ha => ?_⟩
    unfold atsL at ha ⊢
    rcases List.mem_append.1 ha with h5 | h5
    · obtain ⟨c', hc', h6⟩ := List.mem_flatMap.1 h5
      exact List.mem_flatMap.2 ⟨c', hmem c' (List.mem_of_mem_take hc'), h6⟩
    · exact List.mem_flatMap.2 ⟨c, hcl, h5⟩
  · obtain ⟨h1, h2⟩ := clsAt_mem hcm
    obtain ⟨h3, h4⟩ := clsAt_mem hd
    have h5 := hL.sol (pureC c) (List.mem_map_of_mem h1) (pureL x) (List.mem_map_of_mem hx)
    have h6 : lvF O x.a.p + (if x.no = true then 1 else 0) ≤ lvF O c.h.p := h5
    rw [if_pos hno, ← e, h4, h2] at h6
    omega
def OfRes (l : List Cl) (fs : List Fct) (most : Nat) (Γ : List HP) (v : Value) (Γ' : List HP) : Prop := Γ.Sublist Γ' ∧
  ((∃ (n : Nat) (e : Int), e ≠ 0 ∧ Res l n e ∧ v = .tuple #[.slice none 0 0, .int .i64 e]) ∨
   (l.length ≤ 400 ∧ okTo l l.length ∧
    ((v = .tuple #[.slice none 0 0, .int .i64 11] ∧ ∀ L, ¬ Sol (l.map pureC) L) ∨
     (∃ O, LevIs (l.map pureC) O ∧
      ((∃ (n : Nat) (e : Int), e ≠ 0 ∧ ResA (atsL l) fs n e ∧ v = .tuple #[.slice none 0 0, .int .i64 e]) ∨
       (ResA (atsL l) fs 0 0 ∧
        ((∃ (R : List Fct) (A : Option Addr) (k : Nat), v = .tuple #[.slice A R.length k, .int .i64 0] ∧ Fcs A R Γ' ∧ Srt (R.map pf) ∧ R.length ≤ most ∧ ∀ x, x ∈ R.map pf ↔ ModP (strP l O) (· ∈ fs.map pf) x) ∨
         (v = .tuple #[.slice none 0 0, .int .i64 6] ∧ ∃ k ≤ topL l O, ∃ L, Srt L ∧ (∀ x ∈ L, ModP ((strP l O).take k) (· ∈ fs.map pf) x) ∧ most < L.length))))))))
theorem allA_bound : ∀ {l : List Cl}, (∀ c ∈ l, c.l.length ≤ 8) → (allA l).length ≤ l.length * 9
  | [], _ => Nat.le_refl _
  | c :: l, h => by
    have h1 := allA_bound (l := l) fun d hd => h d (List.mem_cons_of_mem _ hd)
    have h2 := h c (List.mem_cons_self ..)
    unfold allA at h1 ⊢
    rw [List.flatMap_cons, List.length_append, List.length_cons, Nat.succ_mul]
    have : (atomsOf c).length = c.l.length + 1 := by simp [atomsOf]
    omega
theorem resA_zero {L : List (Nat × Nat)} {fs : List Fct} {n : Nat} (h : ResA L fs n 0) : ResA L fs 0 0 := by
  rcases h with ⟨f, _, _, _, h⟩ | ⟨h1, h2, h3⟩
  · cases h
  · exact .inr ⟨h1, rfl, rfl⟩
set_option maxRecDepth 100000 in
set_option maxHeartbeats 16000000 in
theorem ref15_t (A FA : Option Addr) (cc fc : Nat) (l : List Cl) (fs : List Fct) (most : Nat) (Γ : List HP) (h : clsOk A l Γ) (hcc : l.length ≤ cc) (hn : l.length ≤ 100000) (hall : (allA l).length ≤ 100000) (hF : Fcs FA fs Γ) (hfn : fs.length ≤ 100000) (hmost : most ≤ 1000000) (hp : ∀ c ∈ l, mayC c = true → (most + 1) ^ c.l.length ≤ 1000000000) :
    FnV Tryz.prog 13 [.slice A l.length cc, .slice FA fs.length fc, .int .i64 (most : Int)] Γ fun v Γ' => OfRes l fs most Γ v Γ' := by
  refine Fn.enter Tryz.func13 rfl rfl rfl fun E => ?_
  refine m_run ?_
  (apply TL.callV; exact rfl; exact callB_of (by kernel_rfl); exact rfl; exact fun _ h => h)
  exact rstrata_t A cc l _ h hcc (by omega) (by omega)
  rintro _ Γ2 ⟨hs2, ⟨n, e, he, hr, rfl⟩ | ⟨h4, hok, ⟨O, R, SB, Sk, rfl, hS, hSr, hSl, hLev, hStr⟩ | ⟨rfl, hno⟩⟩⟩
  · refine m_run ?_
    (apply TK.ret2; exact rfl; exact rfl; (exact m_val); (exact m_val))
    exact ⟨_, rfl, hs2, .inl ⟨n, e, he, hr, rfl⟩⟩
  rotate_left
  · refine m_run ?_
    (apply TK.ret2; exact rfl; exact rfl; (exact m_val); (exact m_val))
    exact ⟨_, rfl, hs2, .inr ⟨h4, hok, .inl ⟨rfl, hno⟩⟩⟩
  have h2 := (show clsOk A l Γ2 from ⟨has_sublist (up_src _ _ _ _) hs2 h.1, fun c hc => ⟨Cl.ok_sub hs2 (h.2 c hc).1, (h.2 c hc).2⟩⟩)
  have hF2 := hF.sub hs2
  refine m_run ?_
  (apply TL.callV; exact rfl; exact callB_of (by kernel_rfl); exact rfl; exact fun _ h => h)
  exact rarities_t A FA cc fc l fs _ h2 hF2.src (by omega) (by omega) (by omega)
  rintro _ Γ2 ⟨⟨n, e, rfl, hra⟩, rfl⟩
  by_cases he : e = 0
  rotate_left
  · refine m_run ?_
    (apply TK.ret2; exact rfl; exact rfl; (exact m_val); (exact m_val))
    exact ⟨_, rfl, hs2, .inr ⟨h4, hok, .inr ⟨O, hLev, .inl ⟨n, e, he, hra, rfl⟩⟩⟩⟩
  subst he
  have hra0 := resA_zero hra
  refine m_run ?_
  (apply TL.callV; exact rfl; exact callB_of (by kernel_rfl); exact rfl; exact fun _ h => h)
  exact sorted13_t FA fc fs _ hF2 (by omega)
  rintro _ Γ3 ⟨N, NA, Nc, rfl, hN, hs3, hNS, hNm, hNl⟩
  by_cases hbig : most < N.length
  · refine m_run ?_
    (apply TK.ret2; exact rfl; exact rfl; (exact m_val); (exact m_val))
    exact ⟨_, rfl, hs2.trans hs3, .inr ⟨h4, hok, .inr ⟨O, hLev, .inr ⟨hra0, .inr ⟨rfl, 0, Nat.zero_le _, N.map pf, hNS, fun x hx => (hNm x).1 hx, by simpa using hbig⟩⟩⟩⟩⟩
  refine m_run ?_
  apply TK.iter (fun j ρ' Γ' => ∃ (i : Nat) (F : List Fct) (GA : Option Addr) (Gc : Nat), i + j = R.length ∧ Γ3.Sublist Γ' ∧ Fcs GA F Γ' ∧ Srt (F.map pf) ∧ F.length ≤ most ∧ (∀ x, x ∈ F.map pf ↔ ModP ((strP l O).take i) (· ∈ fs.map pf) x) ∧ lk ρ' 0 = .slice A l.length cc ∧ lk ρ' 2 = .int .i64 (most : Int) ∧ lk ρ' 8 = .slice SB R.length Sk ∧ lk ρ' 10 = .slice GA F.length Gc ∧ lk ρ' 11 = .int .i64 (i : Int)) R.length
  · exact ⟨0, N, NA, Nc, Nat.zero_add _, .refl _, hN, hNS, by omega, fun x => hNm x, rfl, rfl, rfl, rfl, rfl⟩
  rintro j IH ρ' Γ4 ⟨i, F, GA, Gc, hij, hs4, hG, hGS, hGl, hGm, e0, e2, e8, e10, e11⟩
  refine TK.know5 e0 e2 e8 e10 e11 ?_
  have hs24 := hs3.trans hs4
  by_cases hi : i < R.length
  · obtain ⟨r, hr⟩ : ∃ r, R[i]? = some r := ⟨R[i], List.getElem?_eq_getElem hi⟩
    have hrm := List.mem_of_getElem? hr
    have hrw := hStr.row i r hr
    have hrl : r.w.length ≤ l.length := by rw [hrw]; exact atL_len _ _ _ _
    have hS4 := has_sublist (up_src _ _ _ _) hs24 hS
    refine TK.mem fun m0 hm0 => ?_
    obtain ⟨g, u, hgS⟩ := src_some (hS4 m0 hm0) (by rw [List.length_map]; omega)
    clear hm0 m0
    subst hgS
    have hcell : has Γ4 (fun m => cellAt m g (u + i) (.slice r.A r.w.length r.c)) := fun m hm => by
      rcases (hS4 m hm).2 with h0 | ⟨b, o, e, hh⟩
      · simp at h0; rw [h0] at hr; simp at hr
      · injection e with e; injection e with e1 e2 _
        subst e1; subst e2
        exact hh i (.slice r.A r.w.length r.c) (by rw [List.getElem?_map, hr]; rfl)
    refine m_run ?_
    refine TK.free (H := own 57 3 (.slice none 0 0) 0 []) (fun m hm => own_nil _ _ hm) ?_
    apply TK.iter (fun j ρ' Γ' => ∃ (q : Nat) (X : List Cl) (XB : Option Addr) (Xk : Nat) (Γ5 : List HP), q + j = r.w.length ∧ Γ4.Sublist Γ5 ∧ X = (r.w.take q).filterMap (fun i => l[i]?) ∧ X.length = q ∧ X.length ≤ Xk ∧ lk ρ' 0 = .slice A l.length cc ∧ lk ρ' 2 = .int .i64 (most : Int) ∧ lk ρ' 8 = .slice (some ⟨g, u, none⟩) R.length Sk ∧ lk ρ' 10 = .slice GA F.length Gc ∧ lk ρ' 11 = .int .i64 (i : Int) ∧ lk ρ' 12 = .slice XB X.length Xk ∧ lk ρ' 13 = .int .i64 (q : Int) ∧ Γ' = own 57 3 (.slice XB X.length Xk) X.length (clsC X) :: Γ5) r.w.length
    · exact ⟨0, [], none, 0, Γ4, Nat.zero_add _, .refl _, by simp, rfl, Nat.le_refl _, rfl, rfl, rfl, rfl, rfl, rfl, rfl, rfl⟩
    rintro j2 IH2 ρ2 _ ⟨q, X, XB, Xk, Γ5, hqj, hs5, hX, hXl, hXk, e0, e2, e8, e10, e11, e12, e13, rfl⟩
    refine TK.know7 e0 e2 e8 e10 e11 e12 e13 ?_
    have hcell5 := has_sublist (up_cell _ _ _) hs5 hcell
    by_cases hq : q < r.w.length
    · obtain ⟨z, hz⟩ : ∃ z, r.w[q]? = some z := ⟨r.w[q], List.getElem?_eq_getElem hq⟩
      have hzm : z ∈ atL l O l.length i := by rw [← hrw]; exact List.mem_of_getElem? hz
      have hzl : z < l.length := by unfold atL at hzm; exact List.mem_range.1 (List.mem_filter.1 hzm).1
      obtain ⟨C, hC⟩ : ∃ C, l[z]? = some C := ⟨l[z], List.getElem?_eq_getElem hzl⟩
      have hX1 : (r.w.take (q + 1)).filterMap (fun i => l[i]?) = X ++ [C] := by rw [List.take_add_one, hz, List.filterMap_append, ← hX]; simp [hC]
      have hsr5 := has_sublist (up_src _ _ _ _) (hs24.trans hs5) (hSr r hrm)
      have hsl5 := has_sublist (up_src _ _ _ _) (hs24.trans hs5) h2.1
      refine TK.mem fun m0 hm0 => ?_
      obtain ⟨gr, ur, hgr⟩ := src_some ((has_tls hsr5 : has (_ :: Γ5) _) m0 hm0) (by rw [ints_len]; omega)
      obtain ⟨gl, ul, hgl⟩ := src_some ((has_tls hsl5 : has (_ :: Γ5) _) m0 hm0) (by rw [clsC_len]; omega)
      clear hm0 m0
      subst hgl
      rw [hgr] at hsr5 hcell5
      have hcz := has_ints hsr5 hz
      have hcl : has Γ5 (fun m => cellsAt m gl (ul + z * 3) [.int .u32 (C.h.p : Int), .slice C.h.A C.h.l.length C.h.c, .slice C.A C.l.length C.c]) := has_el (sz := 3) (f := Cl.cells) (fun _ => rfl) (by decide) hsl5 hC
      refine m_run ?_
      (apply TL.buildSlice (l := clsC [C]); exact rfl; exact tb rfl; exact rfl; exact tb rfl; exact rfl; exact rfl; exact rfl; exact rfl; exact rfl)
      intro b65
      refine m_run ?_
      (apply TL.append 1 (n := X.length) (m := 1) (cs := clsC X) (news := clsC [C]); exact rfl; exact rfl; exact tb rfl; exact rfl; exact tb rfl; exact rfl; exact rfl; exact rfl)
      · exact fun _ h => h
      · exact rfl
      · exact has_src_row 0 rfl rfl
      · exact clsC_one _
      · show (X.length + 1) * 56 ≤ _; omega
      · show X.length + 1 ≤ maxLen; unfold maxLen; omega
      · exact fun _ => (rfl : _ = _ :: _ :: _)
      intro B2 k2 hk2
      rw [show clsC X ++ clsC [C] = clsC (X ++ [C]) by simp, show X.length + 1 = (X ++ [C]).length by simp]
      rw [show X.length + 1 = (X ++ [C]).length by simp] at hk2
      refine m_run ?_
      refine TK.perm (.swap _ _ _) ?_
      exact IH2 (j2 - 1) _ _ (by omega) ⟨q + 1, X ++ [C], B2, k2, _, by omega, .cons _ hs5, hX1.symm, by simp [hXl], hk2, rfl, rfl, rfl, rfl, rfl, rfl, congrArg (Value.int .i64) (i64_succ q (by omega)), rfl⟩
    obtain rfl : q = r.w.length := by omega
    rw [List.take_length, hrw] at hX
    have hXc : X = clsAt l O i := hX
    subst hXc
    clear hX
    have hXok : clsOk XB (clsAt l O i) (own 57 3 (.slice XB (clsAt l O i).length Xk) (clsAt l O i).length (clsC (clsAt l O i)) :: Γ5) := ⟨has_at (up_src _ _ _ _) 0 rfl fun _ h => own_src h, fun c hc => ⟨Cl.ok_tl (Cl.ok_sub (hs24.trans hs5) (h2.2 c (clsAt_mem hc).1).1), (h2.2 c (clsAt_mem hc).1).2⟩⟩
    have hR14 := clsAt_r14 h4 hok hLev i
    refine m_run ?_
    (apply TL.callV; exact rfl; exact callB_of (by kernel_rfl); exact rfl; exact fun _ h => h)
    refine least_t XB GA Xk Gc (clsAt l O i) F most most _ hXok hXk hR14 ?_ ((hG.sub hs5).sub (.cons _ (.refl _))) (Nat.le_refl _) hGl (by omega) (fun c hc => hp c (clsAt_mem hc).1 (Cl.may_of (hR14.ok hc)).1)
    · have := allA_bound (l := clsAt l O i) fun c hc => (mayC_vars (Cl.may_of (hR14.ok hc)).1).1
      have := hR14.1
      omega
    have hPi : (strP l O)[i]? = some ((clsAt l O i).map pureC) := by
      unfold strP
      rw [List.getElem?_map, List.getElem?_range (by rw [← hStr.len]; exact hi)]
      rfl
    have htk : (strP l O).take (i + 1) = (strP l O).take i ++ [(clsAt l O i).map pureC] := by rw [List.take_add_one, hPi]; rfl
    have hMe : ModP ((strP l O).take (i + 1)) (· ∈ fs.map pf) = DerP ((clsAt l O i).map pureC) (ModP ((strP l O).take i) (· ∈ fs.map pf)) (ModP ((strP l O).take i) (· ∈ fs.map pf)) := by rw [htk, ModP_snoc]
    have hFe : (fun x => x ∈ F.map pf) = ModP ((strP l O).take i) (· ∈ fs.map pf) := funext fun x => propext (hGm x)
    rintro _ Γ6 (⟨R2, RA, Rk, rfl, hR2, hs6, hR2S, hR2l, hR2m⟩ | ⟨rfl, hs6, L, hLS, hLm, hLl⟩)
    · refine m_run ?_
      refine IH (j - 1) _ _ (by omega) ⟨i + 1, R2, RA, Rk, by omega, hs4.trans (hs5.trans ((List.Sublist.cons _ (.refl _)).trans hs6)), hR2, hR2S, hR2l, fun x => ?_, rfl, rfl, rfl, rfl, congrArg (Value.int .i64) (i64_succ i (by omega))⟩
      rw [hMe, hR2m, ← hFe]
    · refine m_run ?_
      (apply TK.ret2; exact rfl; exact rfl; (exact m_val); (exact m_val))
      refine ⟨_, rfl, hs2.trans (hs24.trans (hs5.trans ((List.Sublist.cons _ (.refl _)).trans hs6))), .inr ⟨h4, hok, .inr ⟨O, hLev, .inr ⟨hra0, .inr ⟨rfl, i + 1, by rw [← hStr.len]; exact hi, L, hLS, fun x hx => ?_, hLl⟩⟩⟩⟩⟩
      rw [hMe, ← hFe]
      exact hLm x hx
  obtain rfl : i = R.length := by omega
  refine m_run ?_
  (apply TK.ret2; exact rfl; exact rfl; (exact m_val); (exact m_val))
  refine ⟨_, rfl, hs2.trans hs24, .inr ⟨h4, hok, .inr ⟨O, hLev, .inr ⟨hra0, .inl ⟨F, GA, Gc, rfl, hG, hGS, hGl, fun x => ?_⟩⟩⟩⟩⟩
  rw [hGm, List.take_of_length_le (by unfold strP; simp [hStr.len])]
end Go.Proofs.YthbcfamfaicneaaGreat.E

/- What credentials say: a right program, without Not, of one stratum; plainly. -/
namespace Go.Proofs.YthbcfamfaicneaaGreat.E
open Go Go.RowKit
theorem one_pos {x : Cr} {k : Nat} {C : PC} (h : OneIs x k C) : ∀ y ∈ C.2.2, y.1 = false := by
  cases h with
  | rule =>
    intro y hy
    obtain ⟨z, _, rfl⟩ := List.mem_map.1 hy
    rfl
  | give =>
    intro y hy
    rw [List.mem_singleton.1 hy]
/-- What a said predicate's number says. -/
def EncP (p n : Nat) : Prop := p % 64 / 8 + 1 = n ∧ 1 ≤ p % 8 ∧ p % 8 ≤ 4 ∧ p < 1073741824
theorem enc_is {q n k : Nat} (hq : q < 16777216) (hn : n < 6) (hk : k ≤ 3) : EncP (64 * q + 8 * n + 1 + k) (n + 1) := by
  unfold EncP
  refine ⟨?_, ?_, ?_, ?_⟩ <;> omega
theorem one_enc {x : Cr} {k : Nat} {C : PC} (h : OneIs x k C) : EncP C.1 C.2.1.length ∧ C.1 % 8 = k + 1 ∧ ∀ y ∈ C.2.2, EncP y.2.1 y.2.2.length := by
  cases h with
  | rule hk hr hp hn h3 hb =>
    refine ⟨enc_is hp hn h3, by show (64 * _ + 8 * _ + 1 + k) % 8 = _; omega, fun y hy => ?_⟩
    obtain ⟨z, hz, rfl⟩ := List.mem_map.1 hy
    exact enc_is (hb z hz).1 (hb z hz).2 h3
  | give n d hk hg hn h6 hp h1 h3 hd =>
    have hv := varsT_len n
    refine ⟨?_, by show (64 * _ + 8 * _ + 1 + k) % 8 = _; omega, fun y hy => ?_⟩
    · show EncP _ (_ :: varsT n).length
      rw [List.length_cons, hv]; exact enc_is hp h6 h3
    · rw [List.mem_singleton.1 hy]
      show EncP _ (_ :: varsT n).length
      rw [List.length_cons, hv]; exact enc_is hp h6 (by omega)
theorem mayA_varsT {i n : Nat} (hn : n < 6) : mayA (⟨false, i⟩ :: varsT n) = true := by
  unfold mayA
  rw [Bool.and_eq_true, decide_eq_true_iff, List.length_cons, varsT_len]
  refine ⟨by omega, ?_⟩
  have : (List.any (⟨false, i⟩ :: varsT n) badT) = false := by
    rw [List.any_eq_false]
    intro t ht
    rcases List.mem_cons.1 ht with rfl | ht
    · simp [badT]
    · obtain ⟨j, hj, rfl⟩ := List.mem_map.1 ht
      have := List.mem_range.1 hj
      simp [badT]; omega
  rw [this]; rfl
theorem varsOf_cons0 (i : Nat) (l : List Tm) : varsOf (⟨false, i⟩ :: l) = varsOf l := by simp [varsOf]
theorem one_may {x : Cr} {k : Nat} {C : PC} (h : OneIs x k C) : mayP C = true ∧ heldP C = true := by
  cases h with
  | rule hk hr hp hn h3 hb =>
    obtain ⟨_, h1, h2⟩ := ruleB_of hr
    constructor
    · rw [← h1]
      unfold mayP ruleC
      simp only [List.length_map, List.any_map, Function.comp_def]
    · rw [← h2]
      unfold heldP ruleC posP
      simp only [List.filter_map, List.flatMap_map, List.all_map, Function.comp_def]
  | give n d hk hg hn h6 hp h1 h3 hd =>
    constructor
    · unfold mayP
      rw [mayA_varsT h6]
      show (decide (1 ≤ 8) && true && !(!mayA (⟨false, x.to⟩ :: varsT n) || false)) = true
      rw [mayA_varsT h6]; rfl
    · unfold heldP posP heldA
      simp only [List.filter_cons, List.filter_nil, beq_self_eq_true, if_true, List.flatMap_cons, List.flatMap_nil, List.append_nil, varsOf_cons0]
      simp
theorem wrong_creds {l : List Cr} {L : List Cl} (hL : L.map pureC = credsC l) (hn : L.length ≤ 400) : okTo L L.length := by
  have hcl : ∀ c ∈ L, ∃ x k, OneIs x k (pureC c) := fun c hc => by
    have : pureC c ∈ credsC l := by rw [← hL]; exact List.mem_map_of_mem hc
    obtain ⟨x, _, _, k, _, h⟩ := creds_iff.1 this
    exact ⟨x, k, h⟩
  have hats : ∀ a ∈ atsL L, EncP a.1 a.2 := fun a ha => by
    obtain ⟨c, hc, ha⟩ := List.mem_flatMap.1 ha
    obtain ⟨x, k, h⟩ := hcl c hc
    obtain ⟨h1, _, h2⟩ := one_enc h
    rcases List.mem_cons.1 ha with rfl | ha
    · exact h1
    · obtain ⟨y, hy, rfl⟩ := List.mem_map.1 ha
      exact h2 (pureL y) (List.mem_map_of_mem hy)
  have hcons : Cons (atsL L) := fun a ha b hb hab => by
    have h1 := (hats a ha).1
    have h2 := (hats b hb).1
    rw [hab] at h1
    omega
  intro j c hj hc
  have hcm := List.mem_of_getElem? hc
  obtain ⟨x, k, h⟩ := hcl c hcm
  obtain ⟨h1, h2⟩ := one_may h
  refine wrong1_zero.2 ⟨by rw [mayC_pure]; exact h1, by rw [heldC_pure]; exact h2, hcons.mono fun a ha => ?_⟩
  unfold atsL at ha ⊢
  rcases List.mem_append.1 ha with h5 | h5
  · obtain ⟨c', hc', h6⟩ := List.mem_flatMap.1 h5
    exact List.mem_flatMap.2 ⟨c', List.mem_of_mem_take hc', h6⟩
  · exact List.mem_flatMap.2 ⟨c, hcm, h5⟩
/-- What is said. -/
def Said (P : List PC) : PF → Prop := DerP P (fun _ => False) (fun _ => False)
theorem DerP.nil {B N : PF → Prop} : DerP [] B N = B := by
  funext x
  refine propext ⟨fun h => ?_, .base⟩
  cases h with
  | base h => exact h
  | step σ hc => cases hc
theorem filterMap_range {α : Type} (l : List α) : ∀ n, (List.range n).filterMap (fun i => l[i]?) = l.take n := by
  intro n
  induction n with
  | zero => simp
  | succ n ih => rw [List.range_succ, List.filterMap_append, ih, List.take_add_one]; cases h : l[n]? <;> simp [List.filterMap_cons, h]
theorem plain_strP {L : List Cl} {O : List Lv} (hpos : ∀ c ∈ L, ∀ y ∈ (pureC c).2.2, y.1 = false) (hO : LevIs (L.map pureC) O) : strP L O = (if L = [] then [] else [L.map pureC]) := by
  have h0 : Sol (L.map pureC) fun _ => 0 := fun c hc y hy => by
    obtain ⟨c', hc', rfl⟩ := List.mem_map.1 hc
    rw [if_neg (by rw [hpos c' hc' y hy]; decide)]
    exact Nat.le_refl _
  have hz : ∀ x ∈ O, x.2 = 0 := fun x hx => Nat.le_zero.1 (hO.least _ h0 x hx)
  have hl : ∀ c ∈ L, lvF O c.h.p = 0 := fun c hc => by
    obtain ⟨x, hx, _, h2⟩ := head_mem hO hc
    unfold lvF
    rw [h2]; exact hz x hx
  have htop : topL L O = if L = [] then 0 else 1 := by
    have : ∀ (M : List Cl) (t : Nat), (∀ c ∈ M, lvF O c.h.p = 0) → M.foldl (fun t c => max t (lvF O c.h.p + 1)) t = if M = [] then t else max t 1 := by
      intro M
      induction M with
      | nil => intro t _; rfl
      | cons a M ih =>
        intro t h
        rw [List.foldl_cons, ih _ fun c hc => h c (List.mem_cons_of_mem _ hc), h a (List.mem_cons_self ..)]
        by_cases hM : M = []
        · simp [hM]
        · simp [hM]
    have h := this L 0 hl
    unfold topL
    rw [h]
    split <;> simp
  unfold strP
  rw [htop]
  split
  · rfl
  · have : clsAt L O 0 = L := by
      unfold clsAt atL
      have hf : (List.range L.length).filter (fun i => decide (hdL L O i = some 0)) = List.range L.length := by
        rw [List.filter_eq_self]
        intro i hi
        have hi' := List.mem_range.1 hi
        refine decide_eq_true ?_
        unfold hdL
        rw [List.getElem?_eq_getElem hi', Option.map_some, hl _ (List.getElem_mem hi')]
      rw [hf, filterMap_range, List.take_length]
    show [(clsAt L O 0).map pureC] = _
    rw [this]
theorem plain_mod {L : List Cl} {O : List Lv} (hpos : ∀ c ∈ L, ∀ y ∈ (pureC c).2.2, y.1 = false) (hO : LevIs (L.map pureC) O) (B : PF → Prop) : ModP (strP L O) B = DerP (L.map pureC) B B := by
  rw [plain_strP hpos hO]
  by_cases h : L = []
  · rw [if_pos h, h]; exact DerP.nil.symm
  · rw [if_neg h]; rfl
theorem false_mem : (fun x : PF => x ∈ List.map pf []) = fun _ => False := funext fun x => propext ⟨fun h => (by cases h), False.elim⟩
/-- The model of what credentials say. -/
theorem creds_model {l : List Cr} {L : List Cl} {most : Nat} {Γ Γ' : List HP} {v : Value} (hL : L.map pureC = credsC l) (hn : L.length ≤ 400) (h : OfRes L [] most Γ v Γ') :
    Γ.Sublist Γ' ∧ ((∃ (R : List Fct) (A : Option Addr) (k : Nat), v = .tuple #[.slice A R.length k, .int .i64 0] ∧ Fcs A R Γ' ∧ Srt (R.map pf) ∧ R.length ≤ most ∧ ∀ x, x ∈ R.map pf ↔ Said (credsC l) x) ∨
      (v = .tuple #[.slice none 0 0, .int .i64 6] ∧ ∃ M, Srt M ∧ (∀ x ∈ M, Said (credsC l) x) ∧ most < M.length)) := by
  obtain ⟨hs, h⟩ := h
  refine ⟨hs, ?_⟩
  have hok := wrong_creds hL hn
  have hres : Res L 0 0 := .inr ⟨hn, .inr ⟨hok, rfl, rfl⟩⟩
  have hpos : ∀ c ∈ L, ∀ y ∈ (pureC c).2.2, y.1 = false := fun c hc => by
    have : pureC c ∈ credsC l := by rw [← hL]; exact List.mem_map_of_mem hc
    obtain ⟨x, _, _, k, _, h⟩ := creds_iff.1 this
    exact one_pos h
  have h0 : Sol (L.map pureC) fun _ => 0 := fun c hc y hy => by
    obtain ⟨c', hc', rfl⟩ := List.mem_map.1 hc
    rw [if_neg (by rw [hpos c' hc' y hy]; decide)]
    exact Nat.le_refl _
  rcases h with ⟨n, e, he, hr, _⟩ | ⟨_, _, ⟨_, hno⟩ | ⟨O, hO, ⟨n, e, he, hr, _⟩ | ⟨_, ⟨R, A, k, rfl, hR, hRS, hRl, hRm⟩ | ⟨rfl, k, hk, M, hMS, hMm, hMl⟩⟩⟩⟩
  · exact absurd (res_one hr hres).2 he
  · exact absurd h0 (hno _)
  · rcases hr with ⟨f, hf, _⟩ | ⟨_, _, h⟩
    · simp at hf
    · exact absurd h he
  · refine .inl ⟨R, A, k, rfl, hR, hRS, hRl, fun x => ?_⟩
    rw [hRm, plain_mod hpos hO, false_mem, hL]
    rfl
  · refine .inr ⟨rfl, M, hMS, fun x hx => ?_, hMl⟩
    have h1 := hMm x hx
    rw [plain_strP hpos hO, false_mem] at h1
    by_cases hLn : L = []
    · rw [if_pos hLn, List.take_nil] at h1
      exact h1.elim
    · rw [if_neg hLn] at h1
      cases k with
      | zero => exact h1.elim
      | succ k =>
        rw [List.take_succ_cons, List.take_nil] at h1
        have h2 : DerP (L.map pureC) (fun _ => False) (fun _ => False) x := h1
        rw [hL] at h2
        exact h2
end Go.Proofs.YthbcfamfaicneaaGreat.E

/- What is said of a depth is said of each greater one: plainly. -/
namespace Go.Proofs.YthbcfamfaicneaaGreat.E
open Go Go.RowKit
theorem said_step {l : List Cr} {c : Cr} {k : Nat} {C : PC} (hcl : c ∈ l) (hm : mayCr c = true) (hk : k < 4) (h : OneIs c k C) (σ : Nat → Nat) (hp : ∀ y ∈ C.2.2, Said (credsC l) (instS σ y.2)) : Said (credsC l) (instS σ (C.1, C.2.1)) :=
  .step σ (creds_iff.2 ⟨c, hcl, hm, k, hk, h⟩) (fun y hy _ => hp y hy) (fun y hy hn => by rw [one_pos h y hy] at hn; cases hn)
theorem deeper {l : List Cr} {x : PF} (h : Said (credsC l) x) : x.1 % 8 ≤ 3 → Said (credsC l) (x.1 + 1, x.2) := by
  induction h with
  | base h => exact h.elim
  | step σ hc hpos hn ih =>
    obtain ⟨c, hcl, hm, k, hk4, h1⟩ := creds_iff.1 hc
    intro hx
    have h8 := (one_enc h1).2.1
    have hk : k + 1 ≤ 3 := by rw [← h8]; exact hx
    cases h1 with
    | rule hkd hr hp hn' h3 hb =>
      refine said_step hcl hm (by omega) (.rule hkd hr hp hn' (by omega) hb : OneIs c (k + 1) _) σ fun y hy => ?_
      obtain ⟨z, hz, rfl⟩ := List.mem_map.1 hy
      have hzy : (false, 64 * z.y.a.p + 8 * z.y.a.l.length + 1 + k, z.y.w :: z.y.a.l) ∈ c.r.l.map fun y => ((false, 64 * y.y.a.p + 8 * y.y.a.l.length + 1 + k, y.y.w :: y.y.a.l) : PL) := List.mem_map.2 ⟨z, hz, rfl⟩
      have := ih _ hzy rfl (by
        show (64 * z.y.a.p + 8 * z.y.a.l.length + 1 + k) % 8 ≤ 3
        omega)
      exact this
    | give n d hkd hg hn' h6 hp hk1 h3 hd =>
      obtain ⟨_, _, hd0, hd3⟩ := giveB_of hg
      obtain ⟨d', hd'⟩ : ∃ d' : Nat, (d' : Int) = min (((k + 1 : Nat) : Int) - 1) c.dep := ⟨(min (((k + 1 : Nat) : Int) - 1) c.dep).toNat, by omega⟩
      refine said_step hcl hm (by omega) (.give n d' hkd hg hn' h6 hp (by omega) (by omega) hd' : OneIs c (k + 1) _) σ fun y hy => ?_
      rw [List.mem_singleton.1 hy]
      have hmem := List.mem_singleton.2 (rfl : ((false, 64 * c.p + 8 * n + 1 + d, ⟨false, c.to⟩ :: varsT n) : PL) = _)
      rcases (by omega : d' = d ∨ d' = d + 1) with rfl | rfl
      · exact hpos _ hmem rfl
      · exact ih _ hmem rfl (by show (64 * c.p + 8 * n + 1 + d) % 8 ≤ 3; omega)
def deepen (c : Cr) (e : Int) : Cr := { c with dep := e }
end Go.Proofs.YthbcfamfaicneaaGreat.E

/- A credential's clause of a depth, as the program tells it: walked. -/
namespace Go.Proofs.YthbcfamfaicneaaGreat.E
open Go Go.RowKit Go.Proofs
attribute [local irreducible] TK TL TQ TA TB Fn PV
theorem Atm.ok_subs {a : Atm} {Γ Δ : List HP} (hs : Γ.Sublist Δ) (h : a.ok Γ) : a.ok Δ := ⟨has_sublist (up_src _ _ _ _) hs h.1, h.2⟩
theorem Rl.ok_subs {r : Rl} {Γ Δ : List HP} (hs : Γ.Sublist Δ) (h : r.ok Γ) : r.ok Δ := ⟨Atm.ok_subs hs h.1, has_sublist (up_src _ _ _ _) hs h.2.1, h.2.2.1, fun x hx => Atm.ok_subs hs (h.2.2.2 x hx)⟩
theorem ltsC_one (l : List Lt) : ∀ u ∈ ltsC l, u.oneCell' = true := by
  intro u hu
  obtain ⟨c, _, hc⟩ := List.mem_flatMap.1 hu
  simp only [Lt.cells, Atm.cells, List.mem_cons, List.not_mem_nil, or_false] at hc
  rcases hc with rfl | rfl | rfl <;> rfl
def oneOf (iss : Nat) (r : Rl) (k : Nat) (below : Int) : PC := ((saidP r.h.a.p ⟨false, iss⟩ r.h.a.l k).1, (saidP r.h.a.p ⟨false, iss⟩ r.h.a.l k).2, r.l.map fun x => (false, (flatP x.y below).1, (flatP x.y below).2))
def oneOk (r : Rl) (k : Nat) (below : Int) : Bool := saidB r.h.a.p r.h.a.l k && r.l.all fun x => flatB x.y below
abbrev rlRow (b : Nat) (r : Rl) : HP := row b [.bool r.h.s, .bool r.h.w.v, .int .u32 (r.h.w.n : Int), .int .u32 (r.h.a.p : Int), .slice r.h.a.A r.h.a.l.length r.h.a.c, .slice r.A r.l.length r.c] 35
end Go.Proofs.YthbcfamfaicneaaGreat.E



/- Reach, plainly: spots told in rounds, against all chains. -/
namespace Go.Proofs.YthbcfamfaicneaaGreat.E.Rch
abbrev Sp := Nat × Nat
abbrev Stp := Sp × List Nat
/-! ### what is fresh -/
def fresh (S : List Sp) : List Stp → List Stp
  | [] => []
  | s :: L => if s.1 ∈ S then fresh S L else s :: fresh (S ++ [s.1]) L
theorem fresh_congr : ∀ (L : List Stp) {S S' : List Sp}, (∀ x, x ∈ S ↔ x ∈ S') → fresh S L = fresh S' L
  | [], _, _, _ => rfl
  | s :: L, S, S', h => by
    simp only [fresh, h s.1]
    split
    · exact fresh_congr L h
    · rw [fresh_congr L (S := S ++ [s.1]) (S' := S' ++ [s.1]) fun x => by simp [h x]]
theorem fresh_append : ∀ (A : List Stp) (S : List Sp) (B : List Stp), fresh S (A ++ B) = fresh S A ++ fresh (S ++ (fresh S A).map (·.1)) B
  | [], S, B => by simp [fresh]
  | s :: A, S, B => by
    simp only [List.cons_append, fresh]
    split
    · exact fresh_append A S B
    · rw [List.cons_append, fresh_append A (S ++ [s.1]) B]
      simp
theorem fresh_mem : ∀ (A : List Stp) (S : List Sp) (x : Sp), x ∈ S ++ (fresh S A).map (·.1) ↔ x ∈ S ∨ x ∈ A.map (·.1)
  | [], S, x => by simp [fresh]
  | s :: A, S, x => by
    simp only [fresh]
    split
    · rename_i h
      rw [fresh_mem A S x, List.map_cons, List.mem_cons]
      constructor
      · rintro (h1 | h1)
        · exact .inl h1
        · exact .inr (.inr h1)
      · rintro (h1 | rfl | h1)
        · exact .inl h1
        · exact .inl h
        · exact .inr h1
    · have := fresh_mem A (S ++ [s.1]) x
      rw [List.map_cons, List.map_cons, show S ++ s.1 :: (fresh (S ++ [s.1]) A).map (·.1) = S ++ [s.1] ++ (fresh (S ++ [s.1]) A).map (·.1) by simp, this]
      simp only [List.mem_append, List.mem_cons, List.not_mem_nil, or_false, or_assoc]
theorem fresh_none : ∀ (A : List Stp) (S : List Sp), (∀ s ∈ A, s.1 ∈ S) → fresh S A = []
  | [], _, _ => rfl
  | s :: A, S, h => by
    rw [fresh, if_pos (h s (List.mem_cons_self ..))]
    exact fresh_none A S fun x hx => h x (List.mem_cons_of_mem _ hx)
theorem fresh_find (f : Sp → Bool) : ∀ (A : List Stp) (S : List Sp), (∀ x ∈ S, f x = false) → (fresh S A).find? (fun s => f s.1) = A.find? (fun s => f s.1)
  | [], _, _ => rfl
  | s :: A, S, h => by
    rw [fresh]
    split
    · rename_i hs
      rw [List.find?_cons_of_neg (by simp [h _ hs]), fresh_find f A S h]
    · cases hf : f s.1 with
      | true => simp [List.find?_cons, hf]
      | false =>
        rw [List.find?_cons_of_neg (by simp [hf]), List.find?_cons_of_neg (by simp [hf])]
        exact fresh_find f A _ fun x hx => by
          rcases List.mem_append.1 hx with hx | hx
          · exact h x hx
          · rw [List.mem_singleton.1 hx]; exact hf
/-! ### chains -/
section
variable (K : List Nat) (nx : Sp → Nat → Option Sp)
def step1 (s : Stp) (i : Nat) : Option Stp := (nx s.1 i).map fun t => (t, s.2 ++ [i])
def exts (s : Stp) : List Stp := K.filterMap (step1 nx s)
theorem exts_sp (s : Stp) : (exts K nx s).map (·.1) = K.filterMap (nx s.1) := by
  unfold exts step1
  rw [List.map_filterMap]
  congr 1
  funext i
  cases nx s.1 i <;> rfl
def chs (s0 : Sp) : Nat → List Stp
  | 0 => [(s0, [])]
  | n + 1 => (chs s0 n).flatMap (exts K nx)
def allC (s0 : Sp) (n : Nat) : List Stp := (List.range n).flatMap (chs K nx s0)
theorem allC_succ (s0 : Sp) (n : Nat) : allC K nx s0 (n + 1) = allC K nx s0 n ++ chs K nx s0 n := by
  unfold allC
  rw [List.range_succ, List.flatMap_append]
  simp
def lvl (s0 : Sp) : Nat → List Stp × List Sp
  | 0 => ([(s0, [])], [s0])
  | n + 1 => (fresh (lvl s0 n).2 ((lvl s0 n).1.flatMap (exts K nx)), (lvl s0 n).2 ++ (fresh (lvl s0 n).2 ((lvl s0 n).1.flatMap (exts K nx))).map (·.1))
def told (s0 : Sp) (n : Nat) : List Stp := (List.range n).flatMap fun k => (lvl K nx s0 k).1
theorem told_succ (s0 : Sp) (n : Nat) : told K nx s0 (n + 1) = told K nx s0 n ++ (lvl K nx s0 n).1 := by
  unfold told
  rw [List.range_succ, List.flatMap_append]
  simp
theorem fresh_flat : ∀ (A : List Stp) (S S' : List Sp), (∀ t ∈ S, ∀ u ∈ K.filterMap (nx t), u ∈ S') → fresh S' (A.flatMap (exts K nx)) = fresh S' ((fresh S A).flatMap (exts K nx))
  | [], _, _, _ => rfl
  | s :: A, S, S', h => by
    rw [fresh]
    split
    · rename_i hs
      rw [List.flatMap_cons, fresh_append, fresh_none (exts K nx s) S' fun x hx => by
        refine h s.1 hs x.1 ?_
        rw [← exts_sp]
        exact List.mem_map.2 ⟨x, hx, rfl⟩]
      simp only [List.map_nil, List.append_nil, List.nil_append]
      exact fresh_flat A S S' h
    · rw [List.flatMap_cons, List.flatMap_cons, fresh_append, fresh_append]
      congr 1
      refine fresh_flat A (S ++ [s.1]) _ fun t ht u hu => ?_
      rw [fresh_mem]
      rcases List.mem_append.1 ht with ht | ht
      · exact .inl (h t ht u hu)
      · rw [List.mem_singleton.1 ht, ← exts_sp] at hu
        exact .inr hu
theorem mem_allC {s0 : Sp} {n : Nat} {s : Stp} : s ∈ allC K nx s0 n ↔ ∃ k, k < n ∧ s ∈ chs K nx s0 k := by
  unfold allC
  simp [List.mem_flatMap]
theorem lvl_spec (s0 : Sp) : ∀ n, (lvl K nx s0 n).1 = fresh ((allC K nx s0 n).map (·.1)) (chs K nx s0 n) ∧ ∀ x, x ∈ (lvl K nx s0 n).2 ↔ x ∈ (allC K nx s0 (n + 1)).map (·.1)
  | 0 => by
    refine ⟨rfl, fun x => ?_⟩
    rw [allC_succ]
    simp [lvl, allC, chs]
  | n + 1 => by
    obtain ⟨h1, h2⟩ := lvl_spec s0 n
    have h3 : (lvl K nx s0 (n + 1)).1 = fresh ((allC K nx s0 (n + 1)).map (·.1)) (chs K nx s0 (n + 1)) := by
      show fresh (lvl K nx s0 n).2 ((lvl K nx s0 n).1.flatMap (exts K nx)) = _
      rw [fresh_congr _ h2, h1, ← fresh_flat]
      · rfl
      · intro t ht u hu
        obtain ⟨s, hs, rfl⟩ := List.mem_map.1 ht
        obtain ⟨k, hk, hs⟩ := (mem_allC K nx).1 hs
        rw [← exts_sp] at hu
        obtain ⟨v, hv, rfl⟩ := List.mem_map.1 hu
        exact List.mem_map.2 ⟨v, (mem_allC K nx).2 ⟨k + 1, by omega, List.mem_flatMap.2 ⟨s, hs, hv⟩⟩, rfl⟩
    refine ⟨h3, fun x => ?_⟩
    have h4 : (lvl K nx s0 (n + 1)).2 = (lvl K nx s0 n).2 ++ (lvl K nx s0 (n + 1)).1.map (·.1) := rfl
    rw [h4, h3, List.mem_append, h2, ← List.mem_append, fresh_mem, allC_succ (n := n + 1), List.map_append, List.mem_append]
theorem told_spec (s0 : Sp) : ∀ n, told K nx s0 n = fresh [] (allC K nx s0 n)
  | 0 => rfl
  | n + 1 => by
    rw [told_succ, allC_succ, told_spec s0 n, (lvl_spec K nx s0 n).1, fresh_append]
    congr 1
    exact fresh_congr _ fun x => by
      rw [fresh_mem]
      simp
theorem lvl_nil (s0 : Sp) {n : Nat} (h : (lvl K nx s0 n).1 = []) : (lvl K nx s0 (n + 1)).1 = [] := by
  show fresh _ ((lvl K nx s0 n).1.flatMap (exts K nx)) = []
  rw [h]
  rfl
theorem told_stop (s0 : Sp) {n : Nat} (h : (lvl K nx s0 n).1 = []) : ∀ m, (lvl K nx s0 (n + m)).1 = [] ∧ told K nx s0 (n + m) = told K nx s0 n
  | 0 => ⟨h, rfl⟩
  | m + 1 => by
    obtain ⟨h1, h2⟩ := told_stop s0 h m
    refine ⟨lvl_nil K nx s0 h1, ?_⟩
    rw [← Nat.add_assoc, told_succ, h1, h2, List.append_nil]
theorem chs_left (hD : ∀ s i t, nx s i = some t → t.2 < s.2) (s0 : Sp) : ∀ n s, s ∈ chs K nx s0 n → s.1.2 + n ≤ s0.2
  | 0, s, h => by
    rw [List.mem_singleton.1 h]
    exact Nat.le_refl _
  | n + 1, s, h => by
    obtain ⟨u, hu, hs⟩ := List.mem_flatMap.1 h
    have h1 := chs_left hD s0 n u hu
    obtain ⟨i, _, hi⟩ := List.mem_filterMap.1 hs
    unfold step1 at hi
    cases hn : nx u.1 i with
    | none => rw [hn] at hi; cases hi
    | some t =>
      rw [hn] at hi
      injection hi with hi
      have := hD _ _ _ hn
      rw [← hi]
      show t.2 + (n + 1) ≤ _
      omega
theorem told_end (hD : ∀ s i t, nx s i = some t → t.2 < s.2) (s0 : Sp) {n : Nat} (h : (lvl K nx s0 n).1 = []) (m : Nat) (hm : s0.2 < m) : told K nx s0 n = fresh [] (allC K nx s0 m) := by
  rw [← told_spec]
  have hz : (lvl K nx s0 m).1 = [] := by
    rw [(lvl_spec K nx s0 m).1]
    cases hc : chs K nx s0 m with
    | nil => rfl
    | cons s L =>
      have := chs_left K nx hD s0 m s (by rw [hc]; exact List.mem_cons_self ..)
      omega
  rcases Nat.le_total n m with hnm | hnm
  · obtain ⟨k, rfl⟩ := Nat.exists_eq_add_of_le hnm
    exact ((told_stop K nx s0 h k).2).symm
  · obtain ⟨k, rfl⟩ := Nat.exists_eq_add_of_le hnm
    exact (told_stop K nx s0 hz k).2
/-- The document's way: from a chain all that go on with so many links. -/
def goes : Nat → Stp → List Stp
  | 0, s => [s]
  | n + 1, s => (exts K nx s).flatMap (goes n)
/-! ### ways -/
def runW (t : Sp) : List Nat → Option Sp
  | [] => some t
  | i :: w => if i ∈ K then (nx t i).bind fun u => runW u w else none
theorem runW_append (w : List Nat) : ∀ (v : List Nat) (t : Sp), runW K nx t (v ++ w) = (runW K nx t v).bind fun u => runW K nx u w
  | [], t => rfl
  | i :: v, t => by
    simp only [List.cons_append, runW]
    split
    · cases nx t i with
      | none => rfl
      | some u => exact runW_append w v u
    · rfl
theorem mem_chs (s0 : Sp) : ∀ (n : Nat) (t : Sp) (w : List Nat), (t, w) ∈ chs K nx s0 n ↔ w.length = n ∧ runW K nx s0 w = some t
  | 0, t, w => by
    constructor
    · intro h
      have := List.mem_singleton.1 h
      injection this with h1 h2
      subst h1; subst h2
      exact ⟨rfl, rfl⟩
    · rintro ⟨h1, h2⟩
      obtain rfl := List.length_eq_zero_iff.1 h1
      injection h2 with h2
      subst h2
      exact List.mem_singleton.2 rfl
  | n + 1, t, w => by
    constructor
    · intro h
      obtain ⟨⟨u, v⟩, hu, hs⟩ := List.mem_flatMap.1 h
      obtain ⟨h1, h2⟩ := (mem_chs s0 n u v).1 hu
      obtain ⟨i, hi, hs⟩ := List.mem_filterMap.1 hs
      unfold step1 at hs
      cases hn : nx u i with
      | none => simp [hn] at hs
      | some x =>
        simp only [hn, Option.map_some, Option.some.injEq, Prod.mk.injEq] at hs
        obtain ⟨rfl, rfl⟩ := hs
        refine ⟨by simp [h1], ?_⟩
        rw [runW_append, h2]
        simp [runW, hi, hn]
    · rintro ⟨h1, h2⟩
      obtain ⟨v, i, rfl⟩ : ∃ v i, w = v ++ [i] := by
        rcases List.eq_nil_or_concat w with rfl | ⟨v, i, rfl⟩
        · simp at h1
        · exact ⟨v, i, List.concat_eq_append⟩
      rw [runW_append] at h2
      cases hr : runW K nx s0 v with
      | none => simp [hr] at h2
      | some u =>
        rw [hr] at h2
        simp only [Option.bind_some, runW] at h2
        split at h2
        · rename_i hi
          refine List.mem_flatMap.2 ⟨(u, v), (mem_chs s0 n u v).2 ⟨by simp at h1; omega, hr⟩, List.mem_filterMap.2 ⟨i, hi, ?_⟩⟩
          unfold step1
          cases hn : nx u i with
          | none => simp [hn] at h2
          | some x => simp [hn] at h2 ⊢; exact h2
        · cases h2
structure Law : Prop where
  down : ∀ s i t, nx s i = some t → t.2 < s.2
  one : ∀ s i t s' t', nx s i = some t → nx s' i = some t' → s.1 = s'.1 ∧ t.1 = t'.1
  more : ∀ a k m i t, nx (a, k) i = some t → k ≤ m → ∃ m', nx (a, m) i = some (t.1, m') ∧ t.2 ≤ m'
variable {K nx}
end
theorem sorted_eq : ∀ {l m : List Nat}, l.Pairwise (· < ·) → m.Pairwise (· < ·) → (∀ x, x ∈ l ↔ x ∈ m) → l = m
  | [], [], _, _, _ => rfl
  | [], y :: m, _, _, h => absurd ((h y).2 (List.mem_cons_self ..)) (by simp)
  | x :: l, [], _, _, h => absurd ((h x).1 (List.mem_cons_self ..)) (by simp)
  | x :: l, y :: m, hl, hm, h => by
    have h1 := List.pairwise_cons.1 hl
    have h2 := List.pairwise_cons.1 hm
    have hxy : x = y := by
      have hx := (h x).1 (List.mem_cons_self ..)
      have hy := (h y).2 (List.mem_cons_self ..)
      rcases List.mem_cons.1 hx with hx | hx
      · exact hx
      · rcases List.mem_cons.1 hy with hy | hy
        · exact hy.symm
        · have := h1.1 y hy
          have := h2.1 x hx
          omega
    subst hxy
    congr 1
    refine sorted_eq h1.2 h2.2 fun z => ?_
    have hz := h z
    simp only [List.mem_cons] at hz
    constructor
    · intro hzl
      rcases hz.1 (.inr hzl) with e | e
      · exact absurd (h1.1 z hzl) (by omega)
      · exact e
    · intro hzm
      rcases hz.2 (.inr hzm) with e | e
      · exact absurd (h2.1 z hzm) (by omega)
      · exact e
end Go.Proofs.YthbcfamfaicneaaGreat.E.Rch

/- MY OWN LAYER: keys of two plain fields (a uint32, an int). P is a variable. -/
namespace Go.Proofs.YthbcfamfaicneaaGreat.E
open Go Go.RowKit
def spotL (s : Nat × Nat) : List Value := [.int .u32 (s.1 : Int), .int .i64 (s.2 : Int)]
def spotV (s : Nat × Nat) : Value := .agg (spotL s).toArray
theorem keySpot {P : Program} {tab : List TR} (hT : TabsOk P tab) {kt : TypeId} {r r1 r2 : TR} {f1 f2 : Field} (ht : tab[kt]? = some r) (hq : r.und = .struct [f1, f2].toArray) (hs : P.stoodInHeld kt = false) (h1 : tab[f1.type]? = some r1) (h2 : tab[f2.type]? = some r2) (q1 : r1.und = .int .u32) (q2 : r2.und = .int .i64)
    (n1 : (f1.name == "_") = false) (n2 : (f2.name == "_") = false) (o1 : f1.offset = 0) (o2 : f2.offset = 1) : KeyOk P kt spotV := by
  have hf := fieldsOf_of (hT _ _ ht) hq
  have hu : P.underlying kt = some (.struct [f1, f2].toArray) := by rw [← hq]; exact (hT _ _ ht).1
  have hn1 : ¬ f1.name = "_" := by simpa using n1
  have hn2 : ¬ f2.name = "_" := by simpa using n2
  have hE : ∀ a b : Nat × Nat, eqFs tab (spotL a) (spotL b) [f1, f2] = some (decide (a = b)) := fun a b => by
    obtain ⟨a1, a2⟩ := a
    obtain ⟨b1, b2⟩ := b
    simp only [eqFs, hn1, hn2, h1, h2, q1, q2, o1, o2, spotL, if_false, Option.bind_some, isAggD, eqC, List.getElem?_cons_zero, List.getElem?_cons_succ, if_true, Option.map_some, Bool.and_true, Prod.mk.injEq, Bool.false_eq_true]
    congr 1
    rw [Bool.eq_iff_iff]
    simp only [Bool.and_eq_true, beq_iff_eq, decide_eq_true_eq]
    omega
  have heq : ∀ a b (w : World), (Op.equal kt (spotV a) (spotV b)).run P w = .ok (decide (a = b)) w := fun a b w => by
    have h3 := run_eqFs hT (spotL a) (spotL b) 9998 w [f1, f2] _ (hE a b)
    rw [← hf.2, ← run_equalIn_agg w 9999 kt (spotL a).toArray (spotL b).toArray hf.1 hs] at h3
    exact h3
  have hask : ∀ (k : Nat × Nat) (L : List MapEntry) (es : List (Nat × Nat)) (i : Nat) (w : World), L.map (·.key) = es.map spotV →
      (Instr.findAsking kt (spotV k) L i).run P w = .ok ((es.findIdx? (fun x => decide (k = x))).map fun j => (i + j, ((L[j]?).map (·.val)).getD undef)) w := by
    intro k L
    induction L with
    | nil =>
      intro es i w h
      cases es with
      | nil => rfl
      | cons e es => simp at h
    | cons x L ih =>
      intro es i w h
      cases es with
      | nil => simp at h
      | cons e es =>
        simp only [List.map_cons, List.cons.injEq] at h
        simp only [Instr.findAsking, Sem.run_bind, h.1, heq, Result.andThen_ok, Sem.run_ite, List.findIdx?_cons]
        by_cases hk : k = e
        · simp [hk]
        · simp only [hk, decide_false]
          rw [ih es (i + 1) w h.2]
          simp only [Bool.false_eq_true, if_false, Option.map_map]
          congr 2
          funext j
          simp [Nat.add_assoc, Nat.add_comm 1 j]
  refine ⟨fun k L es w h => ?_, fun k em w => ?_, fun k w => ?_⟩
  · simp only [Instr.findKey, Sem.run_bind, run_underlying hu, Result.andThen_ok]
    cases L with
    | nil =>
      cases es with
      | nil => rfl
      | cons e es => simp at h
    | cons x L =>
      have : Instr.findNow (.struct [f1, f2].toArray) (spotV k) (x :: L) 0 = none := rfl
      rw [this]
      have := hask k (x :: L) es 0 w h
      simpa using this
  · have hr1 := hT _ _ h1
    have hr2 := hT _ _ h2
    have p1 : (part f1.type (spotL k).toArray f1.offset).run P w = .ok (.int .u32 (k.1 : Int)) w := by
      simp only [part, Sem.run_bind, hr1.run_agg, Result.andThen_ok, q1, isAggD, Sem.run_ite, o1, spotL]
      simp
    have p2 : (part f2.type (spotL k).toArray f2.offset).run P w = .ok (.int .i64 (k.2 : Int)) w := by
      simp only [part, Sem.run_bind, hr2.run_agg, Result.andThen_ok, q2, isAggD, Sem.run_ite, o2, spotL]
      simp
    have c1 : ∀ n, (Instr.checkKey em (n + 1) f1.type (.int .u32 (k.1 : Int))).run P w = .ok () w := fun n => by
      simp only [Instr.checkKey, Sem.run_bind, run_underlying hr1.1, q1, Result.andThen_ok]
      rfl
    have c2 : ∀ n, (Instr.checkKey em (n + 1) f2.type (.int .i64 (k.2 : Int))).run P w = .ok () w := fun n => by
      simp only [Instr.checkKey, Sem.run_bind, run_underlying hr2.1, q2, Result.andThen_ok]
      rfl
    rw [show (10000 : Nat) = 9998 + 1 + 1 from rfl]
    generalize 9998 = n
    unfold spotV
    rw [Instr.checkKey]
    simp only [Sem.run_bind, run_underlying hu, Result.andThen_ok]
    simp [hn1, hn2, p1, p2, c1 n, c2 n]
  · simp [Instr.keyThatStays, Instr.sameBits, spotV, spotL]
end Go.Proofs.YthbcfamfaicneaaGreat.E

/- Links, plainly; which they are, as the program finds them. -/
namespace Go.Proofs.YthbcfamfaicneaaGreat.E
open Go Go.RowKit Go.Proofs
attribute [local irreducible] TK TL TQ TA TB Fn PV
abbrev crsC (l : List Cr) : List Value := l.flatMap Cr.cells
theorem crsC_len (l : List Cr) : (crsC l).length = l.length * 15 := by
  induction l with
  | nil => rfl
  | cons x l ih => rw [show crsC (x :: l) = x.cells ++ crsC l from rfl, List.length_append, ih, List.length_cons, show x.cells.length = 15 from rfl]; omega
/-- Credentials that a call has at hand. -/
structure Crs (A : Option Addr) (l : List Cr) (Γ : List HP) : Prop where
  src : has Γ (srcAt 15 A l.length (crsC l))
  ok : ∀ x ∈ l, x.ok Γ
  few : ∀ x ∈ l, x.few
  len : l.length ≤ 100000
theorem Crs.tl {A : Option Addr} {l : List Cr} {Γ : List HP} {H : HP} (h : Crs A l Γ) : Crs A l (H :: Γ) := ⟨has_tls h.src, fun x hx => Cr.ok_tl (h.ok x hx), h.few, h.len⟩
def linkB (p : Nat) (args : Int) (c : Cr) : Bool := decide (c.kind = 2) && decide (c.p = p) && decide (c.args = args) && mayCr c && (predS p args true 0).2
def linksOf (l : List Cr) (p : Nat) (args : Int) : List Nat := (l.zipIdx.filter fun x => linkB p args x.1).map (·.2)
def nxL (l : List Cr) : Rch.Sp → Nat → Option Rch.Sp := fun s i => match l[i]? with
  | some c => if c.iss = s.1 ∧ 0 < s.2 then some (c.to, min (s.2 - 1) c.dep.toNat) else none
  | none => none
theorem nxL_law (l : List Cr) : Rch.Law (nxL l) where
  down s i t h := by
    unfold nxL at h
    split at h
    · split at h
      · injection h with h
        rw [← h]
        show min (s.2 - 1) _ < s.2
        omega
      · cases h
    · cases h
  one s i t s' t' h h' := by
    unfold nxL at h h'
    split at h
    · rename_i c hc
      split at h
      · rename_i h1
        injection h with h
        rw [hc] at h'
        simp only at h'
        split at h'
        · rename_i h2
          injection h' with h'
          rw [← h, ← h']
          exact ⟨h1.1.symm.trans h2.1, rfl⟩
        · cases h'
      · cases h
    · cases h
  more a k m i t h hk := by
    unfold nxL at h ⊢
    split at h
    · rename_i c hc
      split at h
      · rename_i h1
        injection h with h
        simp only at h1 ⊢
        rw [if_pos ⟨h1.1, by omega⟩, ← h]
        refine ⟨_, rfl, ?_⟩
        show min (k - 1) _ ≤ min (m - 1) _
        omega
      · cases h
    · cases h
theorem linksOf_take {l : List Cr} {p : Nat} {args : Int} {i : Nat} {x : Cr} (h : l[i]? = some x) : linksOf (l.take (i + 1)) p args = linksOf (l.take i) p args ++ (if linkB p args x then [i] else []) := by
  have hi : i < l.length := (List.getElem?_eq_some_iff.1 h).1
  unfold linksOf
  rw [List.take_add_one, h, Option.toList_some, List.zipIdx_append, List.filter_append, List.map_append]
  congr 1
  simp only [List.zipIdx_cons, List.zipIdx_nil, List.length_take, Nat.min_eq_left (Nat.le_of_lt hi), Nat.zero_add, List.filter_cons, List.filter_nil]
  split <;> rfl
theorem linksOf_mem {l : List Cr} {p : Nat} {args : Int} {i : Nat} : i ∈ linksOf l p args ↔ ∃ x, l[i]? = some x ∧ linkB p args x = true := by
  unfold linksOf
  simp only [List.mem_map, List.mem_filter, Prod.exists]
  constructor
  · rintro ⟨x, j, ⟨h1, h2⟩, rfl⟩
    exact ⟨x, by simpa using List.mem_zipIdx_iff_getElem?.1 h1, h2⟩
  · rintro ⟨x, h1, h2⟩
    exact ⟨x, i, ⟨List.mem_zipIdx_iff_getElem?.2 h1, h2⟩, rfl⟩
theorem linkB_dep {p : Nat} {args : Int} {x : Cr} (h : linkB p args x = true) : 0 ≤ x.dep ∧ x.dep ≤ 3 := by
  unfold linkB mayCr giveB at h
  simp only [Bool.and_eq_true, Bool.or_eq_true, decide_eq_true_eq] at h
  obtain ⟨⟨⟨⟨h1, _⟩, _⟩, _, h2⟩, _⟩ := h
  rcases h2 with ⟨h3, _⟩ | ⟨_, h3⟩
  · omega
  · exact ⟨h3.1.2, h3.2⟩
theorem linksOf_no {l : List Cr} {p : Nat} {args : Int} (h : (predS p args true 0).2 = false) : linksOf l p args = [] := by
  unfold linksOf
  rw [List.map_eq_nil_iff, List.filter_eq_nil_iff]
  intro x _
  unfold linkB
  rw [h]
  simp
theorem linksOf_len (l : List Cr) (p : Nat) (args : Int) : (linksOf l p args).length ≤ l.length := by
  unfold linksOf
  rw [List.length_map]
  exact Nat.le_trans (List.length_filter_le _ _) (by simp)
set_option maxRecDepth 100000 in
set_option maxHeartbeats 8000000 in
theorem of_t (A : Option Addr) (c : Nat) (l : List Cr) (p : Nat) (args : Int) (Γ : List HP) (h : Crs A l Γ) :
    FnV Tryz.prog 54 [.slice A l.length c, .int .u32 (p : Int), .int .i64 args] Γ fun v Γ' => ∃ B k, (linksOf l p args).length ≤ k ∧ v = .agg #[.slice A l.length c, .slice B (linksOf l p args).length k, .bool (predS p args true 0).2] ∧ Γ' = own 3 1 (.slice B (linksOf l p args).length k) (linksOf l p args).length (ints (linksOf l p args)) :: Γ := by
  refine Fn.enter Tryz.func54 rfl rfl rfl fun E => ?_
  have hlen := h.len
  refine m_run ?_
  (apply TL.alloc; exact rfl; exact tb rfl; exact (rfl : _ = [_, _, _]))
  intro b6
  refine m_run ?_
  (apply TL.pv; exact rfl; (apply PV.build tabs; exact rfl; exact rfl; exact rfl; exact rfl; exact rfl; exact (rfl : _ = ([.slice A l.length c, .slice none 0 0, .bool false] : List Value))))
  (apply TL.alloc; exact rfl; exact tb rfl; exact (rfl : _ = [_, _, _]))
  intro b7
  refine m_run ?_
  (apply TL.callV; exact rfl; exact callB_of (by kernel_rfl); exact rfl; exact fun _ h => h)
  exact pred_t p args true 0 _
  rintro _ _ ⟨rfl, rfl⟩
  cases hp : (predS p args true 0).2 with
  | false =>
    refine m_run ?_
    rw [linksOf_no hp]
    refine TK.free (H := own 3 1 (.slice none 0 0) 0 []) (fun m hm => own_nil _ _ hm) ?_
    (apply TK.retRow (i := 2) (Δ := own 3 1 (.slice none 0 0) 0 [] :: Γ); exact rfl; exact rfl; exact rfl; exact rfl; exact tb rfl; exact rfl; exact (rfl : _ = [_, _, _]); exact rfl)
    · exact ⟨_, rfl, none, 0, Nat.le_refl _, rfl, rfl⟩
    · (repeat (first | exact List.Sublist.refl _ | apply List.Sublist.cons_cons | apply List.Sublist.cons))
  | true =>
  refine m_run ?_
  refine TK.free (H := own 3 1 (.slice none 0 0) 0 []) (fun m hm => own_nil _ _ hm) ?_
  apply TK.iter (fun j ρ' Γ' => ∃ (i : Nat) (B : Option Addr) (k : Nat), l.length = i + j ∧ (linksOf (l.take i) p args).length ≤ k ∧ lk ρ' 1 = .int .u32 (p : Int) ∧ lk ρ' 2 = .int .i64 args ∧ lk ρ' 6 = .pointer (some ⟨b6, 0, none⟩) ∧ lk ρ' 7 = .pointer (some ⟨b7, 0, none⟩) ∧ lk ρ' 23 = .slice A l.length c ∧ lk ρ' 24 = .int .i64 (l.length : Int) ∧ lk ρ' 25 = .int .i64 (i : Int) ∧ Γ' = own 3 1 (.slice B (linksOf (l.take i) p args).length k) (linksOf (l.take i) p args).length (ints (linksOf (l.take i) p args)) :: row b7 [.slice A l.length c, .slice B (linksOf (l.take i) p args).length k, .bool true] 98 :: row b6 [.slice none 0 0, .slice none 0 0, .bool false] 98 :: Γ) l.length
  · exact ⟨0, none, 0, by omega, Nat.le_refl _, rfl, rfl, rfl, rfl, rfl, rfl, rfl, rfl⟩
  rintro j IH ρ' _ ⟨i, B, k, hj, hk, e1, e2, e6, e7, e23, e24, e25, rfl⟩
  refine TK.know7 e1 e2 e6 e7 e23 e24 e25 ?_
  by_cases hi : i < l.length
  · obtain ⟨x, hx⟩ : ∃ x, l[i]? = some x := ⟨l[i], List.getElem?_eq_getElem hi⟩
    have hxm := List.mem_of_getElem? hx
    have hxo := h.ok x hxm
    have hxf := h.few x hxm
    have hKl := linksOf_len (l.take i) p args
    rw [List.length_take, Nat.min_eq_left (Nat.le_of_lt hi)] at hKl
    have hsn := linksOf_take (p := p) (args := args) hx
    generalize linksOf (l.take i) p args = K at *
    refine TK.mem fun m0 hm0 => ?_
    obtain ⟨g, u, rfl⟩ := src_some ((has_tls (has_tls (has_tls h.src)) : has (_ :: _ :: _ :: Γ) _) m0 hm0) (by rw [crsC_len]; omega)
    clear hm0 m0
    have hel : has Γ (fun m => cellsAt m g (u + i * 15) [.int .u32 (x.iss : Int), .int .u64 (x.ser : Int), .int .u64 (x.frm : Int), .int .u64 (x.til : Int), .int .u8 (x.kind : Int), .bool x.r.h.s, .bool x.r.h.w.v, .int .u32 (x.r.h.w.n : Int), .int .u32 (x.r.h.a.p : Int), .slice x.r.h.a.A x.r.h.a.l.length x.r.h.a.c, .slice x.r.A x.r.l.length x.r.c, .int .u32 (x.p : Int), .int .i64 x.args, .int .u32 (x.to : Int), .int .i64 x.dep]) := has_el (sz := 15) (f := Cr.cells) (fun _ => rfl) (by decide) h.src hx
    refine m_run ?_
    (apply TL.alloc; exact rfl; exact tb rfl; exact (rfl : _ = [_, _, _, _, _, _, _, _, _, _, _, _, _, _, _]))
    intro b9
    refine m_rrun ?_
    refine TL.nil ?_
    refine TK.imp (Δ := crRow b9 x :: own 3 1 (.slice B K.length k) K.length (ints K) :: row b7 [.slice (some ⟨g, u, none⟩) l.length c, .slice B K.length k, .bool true] 98 :: row b6 [.slice none 0 0, .slice none 0 0, .bool false] 98 :: Γ) (fun _ h => h) ?_
    have hb9 : has (crRow b9 x :: own 3 1 (.slice B K.length k) K.length (ints K) :: row b7 [.slice (some ⟨g, u, none⟩) l.length c, .slice B K.length k, .bool true] 98 :: row b6 [.slice none 0 0, .slice none 0 0, .bool false] 98 :: Γ) (fun m => cellsAt m b9 0 x.cells) := has_rows 0 rfl rfl
    by_cases h1 : x.kind = 2
    rotate_left
    · have hl : linkB p args x = false := by simp [linkB, h1]
      refine m_run ?_
      refine TK.drop ?_
      exact IH (j - 1) _ _ (by omega) ⟨i + 1, B, k, by omega, by rw [hsn, hl]; simpa using hk, rfl, rfl, rfl, rfl, rfl, rfl, congrArg (Value.int .i64) (i64_succ i (by omega)), by rw [hsn, hl]; simp⟩
    by_cases h2 : x.p = p
    rotate_left
    · have hl : linkB p args x = false := by simp [linkB, h2]
      refine m_run ?_
      refine TK.drop ?_
      exact IH (j - 1) _ _ (by omega) ⟨i + 1, B, k, by omega, by rw [hsn, hl]; simpa using hk, rfl, rfl, rfl, rfl, rfl, rfl, congrArg (Value.int .i64) (i64_succ i (by omega)), by rw [hsn, hl]; simp⟩
    by_cases h3 : x.args = args
    rotate_left
    · have hl : linkB p args x = false := by simp [linkB, h3]
      have h3' : (x.args == args) = false := by simpa using h3
      refine m_run ?_
      refine TK.drop ?_
      exact IH (j - 1) _ _ (by omega) ⟨i + 1, B, k, by omega, by rw [hsn, hl]; simpa using hk, rfl, rfl, rfl, rfl, rfl, rfl, congrArg (Value.int .i64) (i64_succ i (by omega)), by rw [hsn, hl]; simp⟩
    have h3' : (x.args == args) = true := by simpa using h3
    refine m_run ?_
    (apply TL.callV; exact rfl; exact callB_of (by kernel_rfl); exact rfl; exact fun _ h => h)
    exact credMay_t x _ (Cr.ok_tl (Cr.ok_tl (Cr.ok_tl (Cr.ok_tl hxo)))) hxf
    rintro _ _ ⟨rfl, rfl⟩
    cases hm : mayCr x with
    | false =>
      have hl : linkB p args x = false := by simp [linkB, hm]
      refine m_run ?_
      refine TK.drop ?_
      exact IH (j - 1) _ _ (by omega) ⟨i + 1, B, k, by omega, by rw [hsn, hl]; simpa using hk, rfl, rfl, rfl, rfl, rfl, rfl, congrArg (Value.int .i64) (i64_succ i (by omega)), by rw [hsn, hl]; simp⟩
    | true =>
    have hl : linkB p args x = true := by simp [linkB, h1, h2, h3, hm, hp]
    refine m_run ?_
    (apply TL.buildSlice (l := ints [i]); exact rfl; exact tb rfl; exact rfl; exact tb rfl; exact rfl; exact rfl; exact rfl; exact rfl; exact rfl)
    intro b52
    refine m_run ?_
    (apply TL.append 2; exact rfl; exact rfl; exact tb rfl; exact rfl; exact tb rfl; exact rfl; exact rfl; exact rfl)
    · exact fun _ h => h
    · exact rfl
    · exact has_src_row 0 rfl rfl
    · exact ints_one [i]
    · show (K.length + 1) * 8 ≤ _; omega
    · show K.length + 1 ≤ maxLen; unfold maxLen; omega
    · exact fun _ => (rfl : _ = _ :: _ :: _ :: _)
    intro B2 k2 hk2
    rw [show ints K ++ ints [i] = ints (K ++ [i]) by simp, show K.length + 1 = (K ++ [i]).length by simp] at *
    refine m_run ?_
    refine TK.drop ?_
    refine TK.drop ?_
    exact IH (j - 1) _ _ (by omega) ⟨i + 1, B2, k2, by omega, by rw [hsn, hl]; exact hk2, rfl, rfl, rfl, rfl, rfl, rfl, congrArg (Value.int .i64) (i64_succ i (by omega)), by rw [hsn, hl]; rfl⟩
  · obtain rfl : i = l.length := by omega
    rw [List.take_length] at hk ⊢
    refine m_run ?_
    (apply TK.retRow (i := 2) (Δ := own 3 1 (.slice B (linksOf l p args).length k) (linksOf l p args).length (ints (linksOf l p args)) :: Γ); exact rfl; exact rfl; exact rfl; exact rfl; exact tb rfl; exact rfl; exact (rfl : _ = [_, _, _]); exact rfl)
    · exact ⟨_, rfl, B, k, hk, rfl, rfl⟩
    · (repeat (first | exact List.Sublist.refl _ | apply List.Sublist.cons_cons | apply List.Sublist.cons))
end Go.Proofs.YthbcfamfaicneaaGreat.E

/- Rounds, as the program tells them, walked. Printed by gen_ym.py. -/
namespace Go.Proofs.YthbcfamfaicneaaGreat.E
open Go Go.RowKit Go.Proofs
attribute [local irreducible] TK TL TQ TA TB Fn PV
/-- A spot and its way, in memory. -/
structure Wy where
  pos : Nat
  left : Nat
  A : Option Addr
  c : Nat
  w : List Nat
def Wy.cells (s : Wy) : List Value := [.int .u32 (s.pos : Int), .int .i64 (s.left : Int), .slice s.A s.w.length s.c]
abbrev wysC (l : List Wy) : List Value := l.flatMap Wy.cells
def Wy.ok (s : Wy) (Γ : List HP) : Prop := has Γ (srcAt 1 s.A s.w.length (ints s.w)) ∧ s.w.length ≤ s.c
theorem Wy.ok_tl {s : Wy} {Γ : List HP} {H : HP} (h : s.ok Γ) : s.ok (H :: Γ) := ⟨has_tls h.1, h.2⟩
theorem wysC_len (l : List Wy) : (wysC l).length = l.length * 3 := by
  induction l with
  | nil => rfl
  | cons x l ih => rw [show wysC (x :: l) = x.cells ++ wysC l from rfl, List.length_append, ih, List.length_cons, show x.cells.length = 3 from rfl]; omega
def pureY (s : Wy) : Rch.Stp := ((s.pos, s.left), s.w)
def oneV (n : Nat) : Value := .int .i64 (n : Int)
def seenE (S : List Rch.Sp) : List (Rch.Sp × Nat) := S.map fun p => (p, 1)
theorem lookE_seen (S : List Rch.Sp) (q : Rch.Sp) : lookE (seenE S) q = if q ∈ S then some 1 else none := by
  induction S with
  | nil => rfl
  | cons x S ih =>
    show lookE ((x, 1) :: seenE S) q = _
    rw [lookE]
    by_cases hq : q = x
    · simp [hq]
    · simp [hq, ih]
theorem setE_seen {S : List Rch.Sp} {q : Rch.Sp} (h : q ∉ S) : setE (seenE S) q 1 = seenE (S ++ [q]) := by
  rw [setE_none (by rw [lookE_seen, if_neg h])]
  simp [seenE]
theorem keySp : KeyOk Tryz.prog 102 spotV := keySpot tabs rfl rfl (by kernel_rfl) rfl rfl rfl rfl rfl rfl rfl rfl
theorem fresh_snoc (S : List Rch.Sp) (P : List Rch.Stp) (x : Rch.Stp) : Rch.fresh S (P ++ [x]) = Rch.fresh S P ++ (if x.1 ∈ S ++ (Rch.fresh S P).map (·.1) then [] else [x]) := by
  rw [Rch.fresh_append]
  rfl
theorem clip_t (A : Option Addr) (n c : Nat) (Γ : List HP) (hc : n ≤ c) : FnV Tryz.prog 105 [.slice A n c] Γ fun v Γ' => v = .slice A n n ∧ Γ' = Γ := by
  refine Fn.enter Tryz.func105 rfl rfl rfl fun E => ?_
  refine m_run ?_
  (apply TL.pv; exact rfl; (apply PV.sliceC; exact rfl; exact tb rfl; exact rfl; exact tb rfl; exact rfl; exact rfl; exact hc))
  refine m_run ?_
  (apply TK.ret1; exact rfl; exact rfl; (exact m_val))
  exact ⟨_, rfl, rfl, rfl⟩
def unskip (K : List Nat) (skip : Int) : List Nat := K.filter fun i => decide ((i : Int) ≠ skip)
theorem unskip_take {K : List Nat} {skip : Int} {b i : Nat} (h : K[b]? = some i) : unskip (K.take (b + 1)) skip = unskip (K.take b) skip ++ (if (i : Int) = skip then [] else [i]) := by
  unfold unskip
  rw [List.take_add_one, h, List.filter_append]
  by_cases hi : (i : Int) = skip <;> simp [hi]
theorem one_wys (y : Wy) : ∀ u ∈ wysC [y], u.oneCell' = true := by
  intro u hu
  simp only [wysC, List.flatMap_cons, List.flatMap_nil, List.append_nil, Wy.cells, List.mem_cons, List.not_mem_nil, or_false] at hu
  rcases hu with rfl | rfl | rfl <;> rfl
theorem nxL_some {l : List Cr} {s : Rch.Sp} {i : Nat} {x : Cr} (h : l[i]? = some x) (h1 : x.iss = s.1) (h2 : 0 < s.2) : nxL l s i = some (x.to, min (s.2 - 1) x.dep.toNat) := by
  unfold nxL
  rw [h]
  exact if_pos ⟨h1, h2⟩
theorem nxL_none {l : List Cr} {s : Rch.Sp} {i : Nat} {x : Cr} (h : l[i]? = some x) (h1 : x.iss ≠ s.1 ∨ s.2 = 0) : nxL l s i = none := by
  unfold nxL
  rw [h]
  exact if_neg (by rintro ⟨h2, h3⟩; rcases h1 with h1 | h1; exact h1 h2; omega)
theorem pow_n {n : Nat} (h : n ≤ 3) : 1000 ^ n ≤ 1000000000 := Nat.le_trans (Nat.pow_le_pow_right (by decide) h) (by decide)
set_option maxRecDepth 100000 in
set_option maxHeartbeats 16000000 in
theorem rounds_t (A B : Option Addr) (c k : Nat) (l : List Cr) (K : List Nat) (yes : Bool) (who : Nat) (skip : Int) (F : FuncId) (cs : List Value) (T : List Wy → HP) (Γ : List HP) (h : Crs A l Γ) (hK : has Γ (srcAt 1 B K.length (ints K))) (hKl : K.length ≤ 1000)
    (hKd : ∀ i ∈ K, ∃ x, l[i]? = some x ∧ 0 ≤ x.dep ∧ x.dep ≤ 3) (hc : Callable Tryz.prog F)
    (hF : ∀ (L : List Wy) (s : Wy) (Γ' : List HP), L.length ≤ 10000000000 → Γ.Sublist Γ' → s.ok Γ' → FnV Tryz.prog F (.agg (spotL (s.pos, s.left)).toArray :: .slice s.A s.w.length s.c :: cs) (T L :: Γ') fun v Γ'' => v = .tuple #[] ∧ Γ'' = T (L ++ [s]) :: Γ') :
    FnV Tryz.prog 55 [.agg #[.slice A l.length c, .slice B K.length k, .bool yes], .int .u32 (who : Int), .int .i64 skip, .func (.func F) #[] cs.toArray] (T [] :: Γ) fun v Γ' => v = .tuple #[] ∧ ∃ (L : List Wy) (Γ2 : List HP), Γ' = T L :: Γ2 ∧ Γ.Sublist Γ2 ∧ (∀ s ∈ L, s.ok Γ2) ∧ L.map pureY = if yes then Rch.fresh [] (Rch.allC (unskip K skip) (nxL l) (who, 3) 4) else [] := by
  refine Fn.enter Tryz.func55 rfl rfl rfl fun E => ?_
  have hlen := h.len
  refine m_run ?_
  (apply TL.box; exact rfl; exact rfl; (exact m_lst))
  intro b4
  cases yes with
  | false =>
    refine TL.imp (Δ := row b4 [.slice A l.length c, .slice B K.length k, .bool false] 98 :: T [] :: Γ) (fun _ h => h) ?_
    refine m_run ?_
    refine TK.drop ?_
    exact TK.ret0 rfl rfl ⟨_, rfl, rfl, [], Γ, rfl, .refl _, by simp, rfl⟩
  | true =>
  refine TL.imp (Δ := row b4 [.slice A l.length c, .slice B K.length k, .bool true] 98 :: T [] :: Γ) (fun _ h => h) ?_
  refine m_run ?_
  (apply TL.makeMap spotV oneV; exact rfl)
  intro bm
  refine m_run ?_
  (apply TL.pv; exact rfl; (apply PV.build tabs; exact rfl; exact rfl; exact rfl; exact rfl; exact rfl; exact (rfl : _ = spotL (who, 3))))
  (apply TL.mapIns (kv := spotV) (vv := oneV) (k := (who, 3)) (nv := 1) 0; exact rfl; exact keySp; exact tb rfl; exact rfl; exact ⟨_, (tb rfl : TabOk Tryz.prog 102 _).1⟩; exact rfl; exact rfl; exact rfl; exact rfl)
  refine TL.imp (Δ := mapA spotV oneV bm (seenE [(who, 3)]) :: row b4 [.slice A l.length c, .slice B K.length k, .bool true] 98 :: T [] :: Γ) (fun _ h => h) ?_
  refine m_run ?_
  (apply TL.pv; exact rfl; (apply PV.build tabs; exact rfl; exact rfl; exact rfl; exact rfl; exact rfl; exact (rfl : _ = spotL (who, 3))))
  (apply TL.pv; exact rfl; (apply PV.build tabs; exact rfl; exact rfl; exact rfl; exact rfl; exact rfl; exact (rfl : _ = Wy.cells ⟨who, 3, none, 0, []⟩)))
  (apply TL.buildSlice (l := wysC [⟨who, 3, none, 0, []⟩]); exact rfl; exact tb rfl; exact rfl; exact tb rfl; exact rfl; exact rfl; exact rfl; exact rfl; exact rfl)
  intro b27
  refine m_run ?_
  refine TK.imp (Δ := own 148 3 (.slice (some ⟨b27, 0, none⟩) 1 1) 1 (wysC [⟨who, 3, none, 0, []⟩]) :: mapA spotV oneV bm (seenE [(who, 3)]) :: row b4 [.slice A l.length c, .slice B K.length k, .bool true] 98 :: T [] :: Γ) (fun _ h => sep_mono h (fun _ h => own_row rfl (by unfold maxLen; omega) h) (fun _ => id)) ?_
  refine TK.perm (List.perm_middle (a := T []) (l₁ := [own 148 3 (.slice (some ⟨b27, 0, none⟩) 1 1) 1 (wysC [⟨who, 3, none, 0, []⟩]), mapA spotV oneV bm (seenE [(who, 3)]), row b4 [.slice A l.length c, .slice B K.length k, .bool true] 98]) (l₂ := Γ)) ?_
  apply TK.iter (fun j ρ' Γ' => ∃ (n : Nat) (now : List Wy) (N : Option Addr) (kn : Nat) (seen : List Rch.Sp) (L : List Wy) (Γ2 : List HP), n + j = 5 ∧ now.map pureY = (Rch.lvl (unskip K skip) (nxL l) (who, 3) n).1 ∧ seen = (Rch.lvl (unskip K skip) (nxL l) (who, 3) n).2 ∧ L.map pureY = Rch.told (unskip K skip) (nxL l) (who, 3) n ∧ now.length ≤ 1000 ^ n ∧ L.length ≤ n * 1000000000 ∧ (∀ s ∈ L, s.ok Γ2) ∧ (∀ s ∈ now, s.ok Γ2 ∧ s.w.length ≤ n ∧ s.left + n ≤ 3) ∧ Γ.Sublist Γ2 ∧ lk ρ' 2 = .int .i64 skip ∧ lk ρ' 3 = .func (.func F) #[] cs.toArray ∧ lk ρ' 4 = .pointer (some ⟨b4, 0, none⟩) ∧ lk ρ' 8 = .map (some bm) ∧ lk ρ' 9 = .slice N now.length kn ∧ Γ' = T L :: own 148 3 (.slice N now.length kn) now.length (wysC now) :: mapA spotV oneV bm (seenE (seen)) :: row b4 [.slice A l.length c, .slice B K.length k, .bool true] 98 :: Γ2) 5
  · exact ⟨0, [⟨who, 3, none, 0, []⟩], some ⟨b27, 0, none⟩, 1, [(who, 3)], [], Γ, by omega, rfl, rfl, rfl, Nat.le_refl _, Nat.le_refl _, by simp, by intro s hs; rw [List.mem_singleton.1 hs]; exact ⟨⟨has_srcnil _ _, Nat.le_refl _⟩, Nat.le_refl _, Nat.le_refl _⟩, .refl _, rfl, rfl, rfl, rfl, rfl, rfl⟩
  rintro j IH ρ' _ ⟨n, now, N, kn, seen, L, Γ2, hnj, hnow, hseen, htold, hnl, hLl, hLok, hnok, hsub, e2, e3, e4, e8, e9, rfl⟩
  refine TK.know5 e2 e3 e4 e8 e9 ?_
  by_cases h0 : now.length = 0
  · refine m_run ?_
    refine TK.over0 rfl rfl ⟨_, rfl, rfl, L, _, rfl, .cons _ (.cons _ (.cons _ hsub)), fun s hs => Wy.ok_tl (Wy.ok_tl (Wy.ok_tl (hLok s hs))), ?_⟩
    rw [htold]
    refine Rch.told_end _ _ (nxL_law l).down (who, 3) ?_ 4 (Nat.lt_succ_self 3)
    rw [← hnow, List.eq_nil_of_length_eq_zero h0]
    rfl
  have hn3 : n ≤ 3 := by
    obtain ⟨s, hs⟩ : ∃ s, s ∈ now := ⟨now[0]'(by omega), List.getElem_mem _⟩
    have := (hnok s hs).2.2
    omega
  have hpw := pow_n hn3
  refine m_run ?_
  refine TK.free (H := own 148 3 (.slice none 0 0) 0 []) (fun m hm => own_nil _ _ hm) ?_
  apply TK.iter (fun j' ρ' Γ' => ∃ (a : Nat) (next : List Wy) (D : Option Addr) (kd : Nat) (seen1 : List Rch.Sp) (L1 : List Wy) (Γ3 : List HP), a + j' = now.length ∧ next.map pureY = Rch.fresh seen (((now.take a).map pureY).flatMap (Rch.exts (unskip K skip) (nxL l))) ∧ seen1 = seen ++ (next.map pureY).map (·.1) ∧ L1 = L ++ now.take a ∧ next.length ≤ a * 1000 ∧ next.length ≤ kd ∧ (∀ s ∈ L1, s.ok Γ3) ∧ (∀ s ∈ now, s.ok Γ3) ∧ (∀ s ∈ next, s.ok Γ3 ∧ s.w.length ≤ n + 1 ∧ s.left + (n + 1) ≤ 3) ∧ Γ.Sublist Γ3 ∧ lk ρ' 2 = .int .i64 skip ∧ lk ρ' 3 = .func (.func F) #[] cs.toArray ∧ lk ρ' 4 = .pointer (some ⟨b4, 0, none⟩) ∧ lk ρ' 8 = .map (some bm) ∧ lk ρ' 10 = .slice D next.length kd ∧ lk ρ' 31 = .slice N now.length kn ∧ lk ρ' 32 = .int .i64 (now.length : Int) ∧ lk ρ' 33 = .int .i64 (a : Int) ∧ Γ' = own 148 3 (.slice D next.length kd) next.length (wysC next) :: T L1 :: own 148 3 (.slice N now.length kn) now.length (wysC now) :: mapA spotV oneV bm (seenE (seen1)) :: row b4 [.slice A l.length c, .slice B K.length k, .bool true] 98 :: Γ3) now.length
  · exact ⟨0, [], none, 0, seen, L, Γ2, Nat.zero_add _, rfl, by simp, by simp, Nat.zero_le _, Nat.le_refl _, hLok, fun s hs => (hnok s hs).1, by simp, hsub, rfl, rfl, rfl, rfl, rfl, rfl, rfl, rfl, rfl⟩
  clear e2 e3 e4 e8 e9 ρ'
  rintro j' IH2 ρ' _ ⟨a, next, D, kd, seen1, L1, Γ3, haj, hnext, hseen1, hL1, hnextl, hkd, hL1ok, hnowok, hnextok, hsub3, e2, e3, e4, e8, e10, e31, e32, e33, rfl⟩
  refine TK.know8 e2 e3 e4 e8 e10 e31 e32 e33 ?_
  by_cases ha : a < now.length
  rotate_left
  · obtain rfl : a = now.length := by omega
    rw [List.take_length] at hnext hL1
    refine m_run ?_
    refine TK.sub (Δ := own 148 3 (.slice D next.length kd) next.length (wysC next) :: T L1 :: mapA spotV oneV bm (seenE seen1) :: row b4 [.slice A l.length c, .slice B K.length k, .bool true] 98 :: Γ3) (by (repeat (first | exact List.Sublist.refl _ | apply List.Sublist.cons_cons | apply List.Sublist.cons))) ?_
    refine TK.perm (.swap _ _ _) ?_
    exact IH (j - 1) _ _ (by omega) ⟨n + 1, next, D, kd, seen1, L1, Γ3, by omega, by rw [hnext, hnow, hseen]; rfl, by rw [hseen1, hnext, hnow, hseen]; rfl, by rw [hL1, List.map_append, htold, hnow, Rch.told_succ], by rw [Nat.pow_succ]; exact Nat.le_trans hnextl (Nat.mul_le_mul_right _ hnl), by rw [hL1, List.length_append]; omega, hL1ok, hnextok, hsub3, rfl, rfl, rfl, rfl, rfl, rfl⟩
  obtain ⟨s, hs⟩ : ∃ s, now[a]? = some s := ⟨now[a], List.getElem?_eq_getElem ha⟩
  have hsm := List.mem_of_getElem? hs
  obtain ⟨_, hsw, hsl⟩ := hnok s hsm
  have hso := hnowok s hsm
  have hNs : has (own 148 3 (.slice D next.length kd) next.length (wysC next) :: T L1 :: own 148 3 (.slice N now.length kn) now.length (wysC now) :: mapA spotV oneV bm (seenE (seen1)) :: row b4 [.slice A l.length c, .slice B K.length k, .bool true] 98 :: Γ3) (srcAt 3 N now.length (wysC now)) := has_at (up_src _ _ _ _) 2 rfl fun _ h => own_src h
  refine TK.mem fun m0 hm0 => ?_
  obtain ⟨g, u, rfl⟩ := src_some (hNs m0 hm0) (by rw [wysC_len]; omega)
  clear hm0 m0
  have hel : has (own 148 3 (.slice D next.length kd) next.length (wysC next) :: T L1 :: own 148 3 (.slice (some ⟨g, u, none⟩) now.length kn) now.length (wysC now) :: mapA spotV oneV bm (seenE (seen1)) :: row b4 [.slice A l.length c, .slice B K.length k, .bool true] 98 :: Γ3) (fun m => cellsAt m g (u + a * 3) [.int .u32 (s.pos : Int), .int .i64 (s.left : Int), .slice s.A s.w.length s.c]) := has_el (sz := 3) (f := Wy.cells) (fun _ => rfl) (by decide) hNs hs
  refine m_run ?_
  (apply TL.alloc; exact rfl; exact tb rfl; exact (rfl : _ = [_, _, _]))
  intro b12
  refine m_rrun ?_
  refine TL.nil ?_
  refine TK.imp (Δ := row b12 [.int .u32 (s.pos : Int), .int .i64 (s.left : Int), .slice s.A s.w.length s.c] 148 :: own 148 3 (.slice D next.length kd) next.length (wysC next) :: T L1 :: own 148 3 (.slice (some ⟨g, u, none⟩) now.length kn) now.length (wysC now) :: mapA spotV oneV bm (seenE (seen1)) :: row b4 [.slice A l.length c, .slice B K.length k, .bool true] 98 :: Γ3) (fun _ h => h) ?_
  clear hel hNs
  have hb12 : has (row b12 [.int .u32 (s.pos : Int), .int .i64 (s.left : Int), .slice s.A s.w.length s.c] 148 :: own 148 3 (.slice D next.length kd) next.length (wysC next) :: T L1 :: own 148 3 (.slice (some ⟨g, u, none⟩) now.length kn) now.length (wysC now) :: mapA spotV oneV bm (seenE (seen1)) :: row b4 [.slice A l.length c, .slice B K.length k, .bool true] 98 :: Γ3) (fun m => cellsAt m b12 0 (spotL (s.pos, s.left))) := has_rows 0 rfl rfl
  refine m_run ?_
  (apply TL.callFV (fs := []) (cs := cs) (Δ := T L1 :: row b12 [.int .u32 (s.pos : Int), .int .i64 (s.left : Int), .slice s.A s.w.length s.c] 148 :: own 148 3 (.slice D next.length kd) next.length (wysC next) :: own 148 3 (.slice (some ⟨g, u, none⟩) now.length kn) now.length (wysC now) :: mapA spotV oneV bm (seenE (seen1)) :: row b4 [.slice A l.length c, .slice B K.length k, .bool true] 98 :: Γ3); exact rfl; exact rfl; exact hc; exact rfl; exact fun _ h => all_perm (List.perm_middle (a := T L1) (l₁ := [row b12 [.int .u32 (s.pos : Int), .int .i64 (s.left : Int), .slice s.A s.w.length s.c] 148, own 148 3 (.slice D next.length kd) next.length (wysC next)]) (l₂ := own 148 3 (.slice (some ⟨g, u, none⟩) now.length kn) now.length (wysC now) :: mapA spotV oneV bm (seenE (seen1)) :: row b4 [.slice A l.length c, .slice B K.length k, .bool true] 98 :: Γ3)) h)
  exact hF L1 s _ (by rw [hL1, List.length_append, List.length_take]; omega) (.cons _ (.cons _ (.cons _ (.cons _ (.cons _ hsub3))))) (Wy.ok_tl (Wy.ok_tl (Wy.ok_tl (Wy.ok_tl (Wy.ok_tl hso)))))
  rintro _ _ ⟨rfl, rfl⟩
  obtain ⟨L2, hL2⟩ : ∃ L2, L2 = L1 ++ [s] := ⟨_, rfl⟩
  rw [← hL2]
  have hL2ok : ∀ s ∈ L2, s.ok Γ3 := fun x hx => by
    rw [hL2] at hx
    rcases List.mem_append.1 hx with hx | hx
    · exact hL1ok x hx
    · rw [List.mem_singleton.1 hx]; exact hso
  refine m_run ?_
  refine TK.perm (List.perm_middle (a := own 148 3 (.slice D next.length kd) next.length (wysC next)) (l₁ := [T L2, row b12 [.int .u32 (s.pos : Int), .int .i64 (s.left : Int), .slice s.A s.w.length s.c] 148]) (l₂ := own 148 3 (.slice (some ⟨g, u, none⟩) now.length kn) now.length (wysC now) :: mapA spotV oneV bm (seenE (seen1)) :: row b4 [.slice A l.length c, .slice B K.length k, .bool true] 98 :: Γ3)) ?_
  clear hb12
  apply TK.iter (fun j'' ρ' Γ' => ∃ (b : Nat) (next : List Wy) (D : Option Addr) (kd : Nat) (seen1 : List Rch.Sp) (Γ3 : List HP), b + j'' = K.length ∧ next.map pureY = Rch.fresh seen (((now.take a).map pureY).flatMap (Rch.exts (unskip K skip) (nxL l)) ++ (unskip (K.take b) skip).filterMap (Rch.step1 (nxL l) (pureY s))) ∧ seen1 = seen ++ (next.map pureY).map (·.1) ∧ next.length ≤ a * 1000 + b ∧ next.length ≤ kd ∧ (∀ s ∈ L2, s.ok Γ3) ∧ (∀ s ∈ now, s.ok Γ3) ∧ (∀ s ∈ next, s.ok Γ3 ∧ s.w.length ≤ n + 1 ∧ s.left + (n + 1) ≤ 3) ∧ Γ.Sublist Γ3 ∧ lk ρ' 2 = .int .i64 skip ∧ lk ρ' 3 = .func (.func F) #[] cs.toArray ∧ lk ρ' 4 = .pointer (some ⟨b4, 0, none⟩) ∧ lk ρ' 8 = .map (some bm) ∧ lk ρ' 10 = .slice D next.length kd ∧ lk ρ' 12 = .pointer (some ⟨b12, 0, none⟩) ∧ lk ρ' 31 = .slice (some ⟨g, u, none⟩) now.length kn ∧ lk ρ' 32 = .int .i64 (now.length : Int) ∧ lk ρ' 33 = .int .i64 (a : Int) ∧ lk ρ' 44 = .slice B K.length k ∧ lk ρ' 45 = .int .i64 (K.length : Int) ∧ lk ρ' 46 = .int .i64 (b : Int) ∧ Γ' = own 148 3 (.slice D next.length kd) next.length (wysC next) :: T L2 :: row b12 [.int .u32 (s.pos : Int), .int .i64 (s.left : Int), .slice s.A s.w.length s.c] 148 :: own 148 3 (.slice (some ⟨g, u, none⟩) now.length kn) now.length (wysC now) :: mapA spotV oneV bm (seenE (seen1)) :: row b4 [.slice A l.length c, .slice B K.length k, .bool true] 98 :: Γ3) K.length
  · exact ⟨0, next, D, kd, seen1, Γ3, Nat.zero_add _, by rw [hnext]; simp [unskip], hseen1, by omega, hkd, hL2ok, hnowok, hnextok, hsub3, rfl, rfl, rfl, rfl, rfl, rfl, rfl, rfl, rfl, rfl, rfl, rfl, rfl⟩
  clear e2 e3 e4 e8 e10 e31 e32 e33 ρ' hnext hseen1 hnextl hkd hL1ok hnowok hnextok hsub3 hL2ok hso
  clear next D kd seen1 Γ3
  rintro j'' IH3 ρ' _ ⟨b, next, D, kd, seen1, Γ3, hbj, hnext, hseen1, hnextl, hkd, hL2ok, hnowok, hnextok, hsub3, e2, e3, e4, e8, e10, e12, e31, e32, e33, e44, e45, e46, rfl⟩
  refine TK.know12 e2 e3 e4 e8 e10 e12 e31 e32 e33 e44 e45 e46 ?_
  by_cases hb : b < K.length
  rotate_left
  · obtain rfl : b = K.length := by omega
    rw [List.take_length] at hnext
    refine m_run ?_
    refine TK.sub (Δ := own 148 3 (.slice D next.length kd) next.length (wysC next) :: T L2 :: own 148 3 (.slice (some ⟨g, u, none⟩) now.length kn) now.length (wysC now) :: mapA spotV oneV bm (seenE (seen1)) :: row b4 [.slice A l.length c, .slice B K.length k, .bool true] 98 :: Γ3) (by (repeat (first | exact List.Sublist.refl _ | apply List.Sublist.cons_cons | apply List.Sublist.cons))) ?_
    refine IH2 (j' - 1) _ _ (by omega) ⟨a + 1, next, D, kd, seen1, L2, Γ3, by omega, ?_, hseen1, ?_, by omega, hkd, hL2ok, hnowok, hnextok, hsub3, rfl, rfl, rfl, rfl, rfl, rfl, rfl, congrArg (Value.int .i64) (i64_succ a (by omega)), rfl⟩
    · rw [hnext, List.take_add_one, hs, List.map_append, List.flatMap_append]
      simp [Rch.exts]
    · rw [hL2, hL1, List.take_add_one, hs, List.append_assoc]
      rfl
  obtain ⟨i, hKb⟩ : ∃ i, K[b]? = some i := ⟨K[b], List.getElem?_eq_getElem hb⟩
  obtain ⟨x, hx, hd0, hd3⟩ := hKd i (List.mem_of_getElem? hKb)
  have hil : i < l.length := (List.getElem?_eq_some_iff.1 hx).1
  have hus := unskip_take (skip := skip) hKb
  have hK3 : has Γ3 (srcAt 1 B K.length (ints K)) := has_sublist (up_src _ _ _ _) hsub3 hK
  have hA3 : has Γ3 (srcAt 15 A l.length (crsC l)) := has_sublist (up_src _ _ _ _) hsub3 h.src
  have hso := hnowok s hsm
  refine TK.mem fun m0 hm0 => ?_
  obtain ⟨g1, u1, rfl⟩ := src_some ((has_tls (has_tls (has_tls (has_tls (has_tls (has_tls hK3))))) : has (_ :: _ :: _ :: _ :: _ :: _ :: Γ3) _) m0 hm0) (by rw [ints_len]; omega)
  obtain ⟨g2, u2, rfl⟩ := src_some ((has_tls (has_tls (has_tls (has_tls (has_tls (has_tls hA3))))) : has (_ :: _ :: _ :: _ :: _ :: _ :: Γ3) _) m0 hm0) (by rw [crsC_len]; omega)
  clear hm0 m0
  have hki := has_ints hK3 hKb
  have hel : has Γ3 (fun m => cellsAt m g2 (u2 + i * 15) [.int .u32 (x.iss : Int), .int .u64 (x.ser : Int), .int .u64 (x.frm : Int), .int .u64 (x.til : Int), .int .u8 (x.kind : Int), .bool x.r.h.s, .bool x.r.h.w.v, .int .u32 (x.r.h.w.n : Int), .int .u32 (x.r.h.a.p : Int), .slice x.r.h.a.A x.r.h.a.l.length x.r.h.a.c, .slice x.r.A x.r.l.length x.r.c, .int .u32 (x.p : Int), .int .i64 x.args, .int .u32 (x.to : Int), .int .i64 x.dep]) := has_el (sz := 15) (f := Cr.cells) (fun _ => rfl) (by decide) hA3 hx
  refine m_run ?_
  (apply TL.alloc; exact rfl; exact tb rfl; exact (rfl : _ = [_, _, _, _, _, _, _, _, _, _, _, _, _, _, _]))
  intro b15
  refine m_rrun ?_
  refine TL.nil ?_
  refine TK.imp (Δ := crRow b15 x :: own 148 3 (.slice D next.length kd) next.length (wysC next) :: T L2 :: row b12 [.int .u32 (s.pos : Int), .int .i64 (s.left : Int), .slice s.A s.w.length s.c] 148 :: own 148 3 (.slice (some ⟨g, u, none⟩) now.length kn) now.length (wysC now) :: mapA spotV oneV bm (seenE (seen1)) :: row b4 [.slice (some ⟨g2, u2, none⟩) l.length c, .slice (some ⟨g1, u1, none⟩) K.length k, .bool true] 98 :: Γ3) (fun _ h => h) ?_
  clear hel hki
  by_cases hsk : (i : Int) = skip
  · have hsk' : ((i : Int) == skip) = true := by simpa using hsk
    refine m_run ?_
    refine TK.drop ?_
    exact IH3 (j'' - 1) _ _ (by omega) ⟨b + 1, next, D, kd, seen1, Γ3, by omega, by rw [hus, if_pos hsk, List.append_nil]; exact hnext, hseen1, by omega, hkd, hL2ok, hnowok, hnextok, hsub3, rfl, rfl, rfl, rfl, rfl, rfl, rfl, rfl, rfl, rfl, rfl, congrArg (Value.int .i64) (i64_succ b (by omega)), rfl⟩
  rw [if_neg hsk] at hus
  have hsk' : ((i : Int) == skip) = false := by simpa using hsk
  by_cases hgo : x.iss = s.pos ∧ 0 < s.left
  rotate_left
  · have hnx : Rch.step1 (nxL l) (pureY s) i = none := by
      unfold Rch.step1
      rw [nxL_none hx (by show x.iss ≠ s.pos ∨ s.left = 0; omega)]
      rfl
    have hnext' : next.map pureY = Rch.fresh seen (((now.take a).map pureY).flatMap (Rch.exts (unskip K skip) (nxL l)) ++ (unskip (K.take (b + 1)) skip).filterMap (Rch.step1 (nxL l) (pureY s))) := by
      rw [hus, List.filterMap_append]
      simp only [List.filterMap_cons, List.filterMap_nil, hnx, List.append_nil]
      exact hnext
    by_cases hiss : x.iss = s.pos
    · have hl0 : s.left = 0 := by omega
      refine m_run ?_
      refine TK.drop ?_
      exact IH3 (j'' - 1) _ _ (by omega) ⟨b + 1, next, D, kd, seen1, Γ3, by omega, hnext', hseen1, by omega, hkd, hL2ok, hnowok, hnextok, hsub3, rfl, rfl, rfl, rfl, rfl, rfl, rfl, rfl, rfl, rfl, rfl, congrArg (Value.int .i64) (i64_succ b (by omega)), rfl⟩
    · refine m_run ?_
      refine TK.drop ?_
      exact IH3 (j'' - 1) _ _ (by omega) ⟨b + 1, next, D, kd, seen1, Γ3, by omega, hnext', hseen1, by omega, hkd, hL2ok, hnowok, hnextok, hsub3, rfl, rfl, rfl, rfl, rfl, rfl, rfl, rfl, rfl, rfl, rfl, congrArg (Value.int .i64) (i64_succ b (by omega)), rfl⟩
  obtain ⟨hiss, hleft⟩ := hgo
  obtain ⟨to, hto⟩ : ∃ to : Rch.Sp, to = (x.to, min (s.left - 1) x.dep.toNat) := ⟨_, rfl⟩
  have hto1 : to.1 = x.to := by rw [hto]
  have hto2 : to.2 = min (s.left - 1) x.dep.toNat := by rw [hto]
  have hnx : Rch.step1 (nxL l) (pureY s) i = some (to, s.w ++ [i]) := by
    unfold Rch.step1
    rw [nxL_some hx (show x.iss = (pureY s).1.1 from hiss) (show 0 < (pureY s).1.2 from hleft), hto]
    rfl
  have hfs : (unskip (K.take (b + 1)) skip).filterMap (Rch.step1 (nxL l) (pureY s)) = (unskip (K.take b) skip).filterMap (Rch.step1 (nxL l) (pureY s)) ++ [(to, s.w ++ [i])] := by
    rw [hus, List.filterMap_append]
    simp only [List.filterMap_cons, List.filterMap_nil, hnx]
  have hmin : (if x.dep < IntKind.i64.wrap ((s.left : Int) - 1) then x.dep else IntKind.i64.wrap ((s.left : Int) - 1)) = (to.2 : Int) := by
    rw [i64_in (by omega) (by omega), hto2]
    split <;> omega
  refine m_run ?_
  rw [hmin, ← hto1]
  (apply TL.pv; exact rfl; (apply PV.build tabs; exact rfl; exact rfl; exact rfl; exact rfl; exact rfl; exact (rfl : _ = spotL to)))
  (apply TL.alloc; exact rfl; exact tb rfl; exact (rfl : _ = [_, _]))
  intro b16
  refine m_rrun ?_
  refine TL.nil ?_
  refine TK.imp (Δ := row b16 [.int .u32 (to.1 : Int), .int .i64 (to.2 : Int)] 102 :: crRow b15 x :: own 148 3 (.slice D next.length kd) next.length (wysC next) :: T L2 :: row b12 [.int .u32 (s.pos : Int), .int .i64 (s.left : Int), .slice s.A s.w.length s.c] 148 :: own 148 3 (.slice (some ⟨g, u, none⟩) now.length kn) now.length (wysC now) :: mapA spotV oneV bm (seenE (seen1)) :: row b4 [.slice (some ⟨g2, u2, none⟩) l.length c, .slice (some ⟨g1, u1, none⟩) K.length k, .bool true] 98 :: Γ3) (fun _ h => h) ?_
  have hb16 : has (row b16 [.int .u32 (to.1 : Int), .int .i64 (to.2 : Int)] 102 :: crRow b15 x :: own 148 3 (.slice D next.length kd) next.length (wysC next) :: T L2 :: row b12 [.int .u32 (s.pos : Int), .int .i64 (s.left : Int), .slice s.A s.w.length s.c] 148 :: own 148 3 (.slice (some ⟨g, u, none⟩) now.length kn) now.length (wysC now) :: mapA spotV oneV bm (seenE (seen1)) :: row b4 [.slice (some ⟨g2, u2, none⟩) l.length c, .slice (some ⟨g1, u1, none⟩) K.length k, .bool true] 98 :: Γ3) (fun m => cellsAt m b16 0 (spotL to)) := has_rows 0 rfl rfl
  have hfr : Rch.fresh seen (((now.take a).map pureY).flatMap (Rch.exts (unskip K skip) (nxL l)) ++ (unskip (K.take (b + 1)) skip).filterMap (Rch.step1 (nxL l) (pureY s))) = next.map pureY ++ (if to ∈ seen1 then [] else [(to, s.w ++ [i])]) := by
    rw [hfs, ← List.append_assoc, fresh_snoc, ← hnext, ← hseen1]
  by_cases hin : to ∈ seen1
  · rw [if_pos hin, List.append_nil] at hfr
    refine m_run ?_
    (apply TL.pv; exact rfl; (apply PV.look1S (kv := spotV) (vv := oneV) (es := seenE seen1) (b := bm) (k := to) (v := 1) keySp; exact tb rfl; exact rfl; exact ⟨_, (tb rfl : TabOk Tryz.prog 102 _).1⟩; exact tb rfl; exact rfl; exact rfl; exact has_at (up_map _ _ _ _) 6 rfl fun _ h => mapA_at h; exact by rw [lookE_seen, if_pos hin]))
    refine TL.know (t := 84) (v := .int .i64 1) rfl ?_
    refine m_run ?_
    refine TK.drop ?_
    refine TK.drop ?_
    exact IH3 (j'' - 1) _ _ (by omega) ⟨b + 1, next, D, kd, seen1, Γ3, by omega, hfr.symm, hseen1, by omega, hkd, hL2ok, hnowok, hnextok, hsub3, rfl, rfl, rfl, rfl, rfl, rfl, rfl, rfl, rfl, rfl, rfl, congrArg (Value.int .i64) (i64_succ b (by omega)), rfl⟩
  rw [if_neg hin] at hfr
  refine m_run ?_
  (apply TL.pv; exact rfl; (apply PV.look1N (kv := spotV) (vv := oneV) (es := seenE seen1) (b := bm) (k := to) keySp; exact tb rfl; exact rfl; exact ⟨_, (tb rfl : TabOk Tryz.prog 102 _).1⟩; exact tb rfl; exact rfl; exact rfl; exact has_at (up_map _ _ _ _) 6 rfl fun _ h => mapA_at h; exact by rw [lookE_seen, if_neg hin]))
  refine m_run ?_
  (apply TL.mapPut (kv := spotV) (vv := oneV) (k := to) (nv := 1) 6; exact rfl; exact keySp; exact tb rfl; exact rfl; exact ⟨_, (tb rfl : TabOk Tryz.prog 102 _).1⟩; exact rfl; exact rfl; exact rfl; exact rfl)
  rw [setE_seen hin]
  refine TL.nil ?_
  refine TK.imp (Δ := row b16 [.int .u32 (to.1 : Int), .int .i64 (to.2 : Int)] 102 :: crRow b15 x :: own 148 3 (.slice D next.length kd) next.length (wysC next) :: T L2 :: row b12 [.int .u32 (s.pos : Int), .int .i64 (s.left : Int), .slice s.A s.w.length s.c] 148 :: own 148 3 (.slice (some ⟨g, u, none⟩) now.length kn) now.length (wysC now) :: mapA spotV oneV bm (seenE (seen1 ++ [to])) :: row b4 [.slice (some ⟨g2, u2, none⟩) l.length c, .slice (some ⟨g1, u1, none⟩) K.length k, .bool true] 98 :: Γ3) (fun _ h => h) ?_
  clear hb16
  refine TK.perm (List.perm_middle (a := own 148 3 (.slice D next.length kd) next.length (wysC next)) (l₁ := [row b16 [.int .u32 (to.1 : Int), .int .i64 (to.2 : Int)] 102, crRow b15 x]) (l₂ := T L2 :: row b12 [.int .u32 (s.pos : Int), .int .i64 (s.left : Int), .slice s.A s.w.length s.c] 148 :: own 148 3 (.slice (some ⟨g, u, none⟩) now.length kn) now.length (wysC now) :: mapA spotV oneV bm (seenE (seen1 ++ [to])) :: row b4 [.slice (some ⟨g2, u2, none⟩) l.length c, .slice (some ⟨g1, u1, none⟩) K.length k, .bool true] 98 :: Γ3)) ?_
  refine m_run ?_
  have hb16 : has (row b16 [.int .u32 (to.1 : Int), .int .i64 (to.2 : Int)] 102 :: crRow b15 x :: T L2 :: row b12 [.int .u32 (s.pos : Int), .int .i64 (s.left : Int), .slice s.A s.w.length s.c] 148 :: own 148 3 (.slice (some ⟨g, u, none⟩) now.length kn) now.length (wysC now) :: mapA spotV oneV bm (seenE (seen1 ++ [to])) :: row b4 [.slice (some ⟨g2, u2, none⟩) l.length c, .slice (some ⟨g1, u1, none⟩) K.length k, .bool true] 98 :: Γ3) (fun m => cellsAt m b16 0 (spotL to)) := has_rows 0 rfl rfl
  refine TK.drawE mixed rfl (row b16 [.int .u32 (to.1 : Int), .int .i64 (to.2 : Int)] 102 :: crRow b15 x :: T L2 :: row b12 [.int .u32 (s.pos : Int), .int .i64 (s.left : Int), .slice s.A s.w.length s.c] 148 :: own 148 3 (.slice (some ⟨g, u, none⟩) now.length kn) now.length (wysC now) :: mapA spotV oneV bm (seenE (seen1 ++ [to])) :: row b4 [.slice (some ⟨g2, u2, none⟩) l.length c, .slice (some ⟨g1, u1, none⟩) K.length k, .bool true] 98 :: Γ3) ?_
  refine m_take (At.mk : At 0) ?_; refine m_take (At.mk : At 1) ?_; refine m_take (At.mk : At 2) ?_; refine m_take (At.mk : At 3) ?_; refine m_take (At.mk : At 5) ?_
  refine TA.cutJ [4, 6] (fun ρ' Γ' => ∃ b94 : Nat, lk ρ' 2 = .int .i64 skip ∧ lk ρ' 3 = .func (.func F) #[] cs.toArray ∧ lk ρ' 4 = .pointer (some ⟨b4, 0, none⟩) ∧ lk ρ' 8 = .map (some bm) ∧ lk ρ' 12 = .pointer (some ⟨b12, 0, none⟩) ∧ lk ρ' 31 = .slice (some ⟨g, u, none⟩) now.length kn ∧ lk ρ' 32 = .int .i64 (now.length : Int) ∧ lk ρ' 33 = .int .i64 (a : Int) ∧ lk ρ' 44 = .slice (some ⟨g1, u1, none⟩) K.length k ∧ lk ρ' 45 = .int .i64 (K.length : Int) ∧ lk ρ' 46 = .int .i64 (b : Int) ∧ lk ρ' 88 = .slice D next.length kd ∧ lk ρ' 89 = .agg (spotL to).toArray ∧ lk ρ' 92 = .slice s.A s.w.length s.w.length ∧ lk ρ' 94 = .slice (some ⟨b94, 0, none⟩) 1 1 ∧ Γ' = row b94 (ints [i]) 3 :: own 148 3 (.slice D next.length kd) next.length (wysC next) :: row b16 [.int .u32 (to.1 : Int), .int .i64 (to.2 : Int)] 102 :: crRow b15 x :: T L2 :: row b12 [.int .u32 (s.pos : Int), .int .i64 (s.left : Int), .slice s.A s.w.length s.c] 148 :: own 148 3 (.slice (some ⟨g, u, none⟩) now.length kn) now.length (wysC now) :: mapA spotV oneV bm (seenE (seen1 ++ [to])) :: row b4 [.slice (some ⟨g2, u2, none⟩) l.length c, .slice (some ⟨g1, u1, none⟩) K.length k, .bool true] 98 :: Γ3) rfl ?_ ?_
  · intro tail
    refine TA.two 4 6 (by kernel_rfl) rfl rfl ?_ ?_
    · (apply TL.callV; exact rfl; exact callB_of (by kernel_rfl); exact rfl; exact fun _ h => h)
      exact clip_t s.A s.w.length s.c _ hso.2
      rintro _ _ ⟨rfl, rfl⟩
      refine TL.back (by (focus ((repeat (first | assumption | exact Ent.refl _ | apply Ent.tail)); done))) ?_
      (apply TA.one 6; kernel_rfl; exact rfl)
      (apply TL.buildSlice (l := ints [i]); exact rfl; exact tb rfl; exact rfl; exact tb rfl; exact rfl; exact rfl; exact rfl; exact rfl; exact rfl)
      intro b94
      refine TL.back (by (focus ((repeat (first | assumption | exact Ent.refl _ | apply Ent.tail)); done))) ?_
      refine TA.eqL ?_ (tail _ _ ⟨b94, rfl, rfl, rfl, rfl, rfl, rfl, rfl, rfl, rfl, rfl, rfl, rfl, rfl, rfl, rfl, rfl⟩)
      kernel_rfl
    · (apply TL.buildSlice (l := ints [i]); exact rfl; exact tb rfl; exact rfl; exact tb rfl; exact rfl; exact rfl; exact rfl; exact rfl; exact rfl)
      intro b94
      refine TL.back (by (focus ((repeat (first | assumption | exact Ent.refl _ | apply Ent.tail)); done))) ?_
      (apply TA.one 4; kernel_rfl; exact rfl)
      (apply TL.callV; exact rfl; exact callB_of (by kernel_rfl); exact rfl; exact fun _ h => h)
      exact clip_t s.A s.w.length s.c _ hso.2
      rintro _ _ ⟨rfl, rfl⟩
      refine TL.back (by (focus ((repeat (first | assumption | exact Ent.refl _ | apply Ent.tail)); done))) ?_
      refine TA.eqL ?_ (tail _ _ ⟨b94, rfl, rfl, rfl, rfl, rfl, rfl, rfl, rfl, rfl, rfl, rfl, rfl, rfl, rfl, rfl, rfl⟩)
      kernel_rfl
  rintro ρ3 _ ⟨b94, f2, f3, f4, f8, f12, f31, f32, f33, f44, f45, f46, f88, f89, f92, f94, rfl⟩
  refine TA.know (t := 2) (v := .int .i64 skip) f2 ?_
  refine TA.know (t := 3) (v := .func (.func F) #[] cs.toArray) f3 ?_
  refine TA.know (t := 4) (v := .pointer (some ⟨b4, 0, none⟩)) f4 ?_
  refine TA.know (t := 8) (v := .map (some bm)) f8 ?_
  refine TA.know (t := 12) (v := .pointer (some ⟨b12, 0, none⟩)) f12 ?_
  refine TA.know (t := 31) (v := .slice (some ⟨g, u, none⟩) now.length kn) f31 ?_
  refine TA.know (t := 32) (v := .int .i64 (now.length : Int)) f32 ?_
  refine TA.know (t := 33) (v := .int .i64 (a : Int)) f33 ?_
  refine TA.know (t := 44) (v := .slice (some ⟨g1, u1, none⟩) K.length k) f44 ?_
  refine TA.know (t := 45) (v := .int .i64 (K.length : Int)) f45 ?_
  refine TA.know (t := 46) (v := .int .i64 (b : Int)) f46 ?_
  refine TA.know (t := 88) (v := .slice D next.length kd) f88 ?_
  refine TA.know (t := 89) (v := .agg (spotL to).toArray) f89 ?_
  refine TA.know (t := 92) (v := .slice s.A s.w.length s.w.length) f92 ?_
  refine TA.know (t := 94) (v := .slice (some ⟨b94, 0, none⟩) 1 1) f94 ?_
  (apply TA.one 7; kernel_rfl; exact rfl)
  (apply TL.appendF (z := 1) (s := (s.w ++ [i]).length) (cs := ints s.w) (news := ints [i]); exact rfl; exact tb rfl; exact rfl; exact tb rfl; exact rfl; exact rfl; exact rfl; exact rfl)
  · exact has_tls (has_tls (has_tls (has_tls (has_tls (has_tls (has_tls (has_tls (has_tls hso.1))))))))
  · exact rfl
  · exact has_src_row 0 rfl rfl
  · exact ints_one [i]
  · exact Nat.zero_lt_one
  · show (s.w.length + 1) * 8 ≤ _; omega
  · show s.w.length + 1 ≤ maxLen; unfold maxLen; omega
  · simp
  intro W2 c2 hc2
  rw [show ints s.w ++ ints [i] = ints (s.w ++ [i]) by simp]
  refine TL.back (by (focus ((repeat (first | assumption | exact Ent.refl _ | apply Ent.tail)); done))) ?_
  (apply TA.takeA (At.mk : At 8); exact rfl; exact rfl; kernel_rfl; ((focus ((repeat (first | assumption | exact Ent.refl _ | apply Ent.tail)); done))); (apply PV.build tabs; exact rfl; exact rfl; exact rfl; exact rfl; exact rfl; exact (rfl : _ = Wy.cells ⟨to.1, to.2, W2, c2, s.w ++ [i]⟩)))
  (apply TA.one 9; kernel_rfl; exact rfl)
  (apply TL.buildSlice (l := wysC [⟨to.1, to.2, W2, c2, s.w ++ [i]⟩]); exact rfl; exact tb rfl; exact rfl; exact tb rfl; exact rfl; exact rfl; exact rfl; exact rfl; exact rfl)
  intro b97
  refine TL.back (by (focus ((repeat (first | assumption | exact Ent.refl _ | apply Ent.tail)); done))) ?_
  (apply TA.one 10; kernel_rfl; exact rfl)
  (apply TL.append 3; exact rfl; exact rfl; exact tb rfl; exact rfl; exact tb rfl; exact rfl; exact rfl; exact rfl)
  · exact fun _ h => h
  · exact rfl
  · exact has_src_row 0 rfl rfl
  · exact one_wys _
  · show (next.length + 1) * 40 ≤ _; omega
  · show next.length + 1 ≤ maxLen; unfold maxLen; omega
  · exact fun _ => (rfl : _ = _ :: _ :: _ :: _ :: _)
  intro D2 kd2 hkd2
  obtain ⟨y, hy⟩ : ∃ y : Wy, y = ⟨to.1, to.2, W2, c2, s.w ++ [i]⟩ := ⟨_, rfl⟩
  rw [← hy, show wysC next ++ wysC [y] = wysC (next ++ [y]) by simp, show next.length + 1 = (next ++ [y]).length by simp]
  rw [show next.length + 1 = (next ++ [y]).length by simp] at hkd2
  refine TL.back (by (focus ((repeat (first | assumption | exact Ent.refl _ | apply Ent.tail)); done))) ?_
  refine m_take (At.mk : At 11) ?_
  refine TA.done (by kernel_rfl) ?_
  refine m_run ?_
  refine TK.sub (Δ := own 3 1 (.slice W2 (s.w ++ [i]).length c2) (s.w ++ [i]).length (ints (s.w ++ [i])) :: own 148 3 (.slice D2 (next ++ [y]).length kd2) (next ++ [y]).length (wysC (next ++ [y])) :: T L2 :: row b12 [.int .u32 (s.pos : Int), .int .i64 (s.left : Int), .slice s.A s.w.length s.c] 148 :: own 148 3 (.slice (some ⟨g, u, none⟩) now.length kn) now.length (wysC now) :: mapA spotV oneV bm (seenE (seen1 ++ [to])) :: row b4 [.slice (some ⟨g2, u2, none⟩) l.length c, .slice (some ⟨g1, u1, none⟩) K.length k, .bool true] 98 :: Γ3) (by (repeat (first | exact List.Sublist.refl _ | apply List.Sublist.cons_cons | apply List.Sublist.cons))) ?_
  refine TK.perm (Δ := own 148 3 (.slice D2 (next ++ [y]).length kd2) (next ++ [y]).length (wysC (next ++ [y])) :: T L2 :: row b12 [.int .u32 (s.pos : Int), .int .i64 (s.left : Int), .slice s.A s.w.length s.c] 148 :: own 148 3 (.slice (some ⟨g, u, none⟩) now.length kn) now.length (wysC now) :: mapA spotV oneV bm (seenE (seen1 ++ [to])) :: row b4 [.slice (some ⟨g2, u2, none⟩) l.length c, .slice (some ⟨g1, u1, none⟩) K.length k, .bool true] 98 :: own 3 1 (.slice W2 (s.w ++ [i]).length c2) (s.w ++ [i]).length (ints (s.w ++ [i])) :: Γ3) (List.perm_middle (a := own 3 1 (.slice W2 (s.w ++ [i]).length c2) (s.w ++ [i]).length (ints (s.w ++ [i]))) (l₁ := [own 148 3 (.slice D2 (next ++ [y]).length kd2) (next ++ [y]).length (wysC (next ++ [y])), T L2, row b12 [.int .u32 (s.pos : Int), .int .i64 (s.left : Int), .slice s.A s.w.length s.c] 148, own 148 3 (.slice (some ⟨g, u, none⟩) now.length kn) now.length (wysC now), mapA spotV oneV bm (seenE (seen1 ++ [to])), row b4 [.slice (some ⟨g2, u2, none⟩) l.length c, .slice (some ⟨g1, u1, none⟩) K.length k, .bool true] 98]) (l₂ := Γ3)).symm ?_
  have hyp : pureY y = (to, s.w ++ [i]) := by rw [hy]; rfl
  exact IH3 (j'' - 1) _ _ (by omega) ⟨b + 1, next ++ [y], D2, kd2, seen1 ++ [to], own 3 1 (.slice W2 (s.w ++ [i]).length c2) (s.w ++ [i]).length (ints (s.w ++ [i])) :: Γ3, by omega, by rw [hfr, List.map_append, ← hyp]; rfl, by rw [hseen1, List.map_append, List.map_append, ← List.append_assoc]; simp [hyp], by simp; omega, hkd2, fun s hs => Wy.ok_tl (hL2ok s hs), fun s hs => Wy.ok_tl (hnowok s hs), fun z hz => by
    rcases List.mem_append.1 hz with hz | hz
    · exact ⟨Wy.ok_tl (hnextok z hz).1, (hnextok z hz).2⟩
    · rw [List.mem_singleton.1 hz, hy]
      exact ⟨⟨has_at (up_src _ _ _ _) 0 rfl fun _ h => own_src h, hc2⟩, by show (s.w ++ [i]).length ≤ n + 1; simp; omega, by show to.2 + (n + 1) ≤ 3; omega⟩, .cons _ hsub3, rfl, rfl, rfl, rfl, rfl, rfl, rfl, rfl, rfl, rfl, rfl, congrArg (Value.int .i64) (i64_succ b (by omega)), rfl⟩
end Go.Proofs.YthbcfamfaicneaaGreat.E

/- Numbers that are sorted: a row as an array. -/
namespace Go.Proofs.YthbcfamfaicneaaGreat.E.SI
open Go Go.RowKit Go.Proofs Go.Sort

/-- A row of numbers of one's own, as an array. -/
abbrev DD (b c n : Nat) (d : Array Int) : HP := own 3 1 (.slice (some ⟨b, 0, none⟩) n c) n (nums .i64 d.toList)
theorem cellD {b c n i : Nat} {d : Array Int} {Γ : List HP} (hn : d.size = n) (hi : i < n) : has (DD b c n d :: Γ) (fun m => cellAt m b i (.int .i64 d[i]!)) := by
  have h1 : has (DD b c n d :: Γ) (srcAt 1 (some ⟨b, 0, none⟩) n (nums .i64 d.toList)) := has_at (up_src _ _ _ _) 0 rfl fun _ h => own_src h
  have h2 := has_num h1 (i := i) (by simp; omega)
  have h3 : d.toList[i]'(by simp; omega) = d[i]! := by
    rw [getElem!_pos d i (by omega)]; simp
  rw [Nat.zero_add, h3] at h2
  exact h2
theorem swpD {q : IntKind} {d : Array Int} {i j : Nat} : ((nums q d.toList).set i (.int q d[j]!)).set j (.int q d[i]!) = nums q (swp d i j).toList := by
  unfold nums swp
  rw [Array.toList_setIfInBounds, Array.toList_setIfInBounds, List.map_set, List.map_set]
attribute [local irreducible] TK TL TQ TA TB Fn PV Sort.insInner Sort.heapBuild Sort.heapPop Sort.scanDown Sort.shiftDown Sort.partialIns
theorem nanI_t (x : Int) (Γ : List HP) : FnV Tryz.prog 195 [.int .i64 x] Γ fun v Γ' => v = .bool false ∧ Γ' = Γ := by
  refine Fn.enter Tryz.func195 rfl rfl rfl fun E => ?_
  refine m_run ?_
  (apply TK.ret1; exact rfl; exact rfl; exact rfl)
  exact ⟨_, rfl, congrArg Value.bool (by simp), rfl⟩
theorem less_t (x y : Int) (Γ : List HP) : FnV Tryz.prog 166 [.int .i64 x, .int .i64 y] Γ fun v Γ' => v = .bool (decide (x < y)) ∧ Γ' = Γ := by
  refine Fn.enter Tryz.func166 rfl rfl rfl fun E => ?_
  refine m_run ?_
  (apply TL.callV; exact rfl; exact callB_of (by kernel_rfl); exact rfl; exact fun _ h => h)
  exact nanI_t x Γ
  rintro _ Γ ⟨rfl, rfl⟩
  refine m_run ?_
  (apply TK.ret1; exact rfl; exact rfl; exact rfl)
  exact ⟨_, rfl, rfl, rfl⟩
set_option maxRecDepth 100000 in
set_option maxHeartbeats 4000000 in
theorem ins_t (b c n a e : Nat) (d0 : Array Int) (Γ : List HP) (hsz0 : d0.size = n) (ha : a ≤ n) (he : e ≤ n) (hn : n ≤ 1000000000) :
    FnV Tryz.prog 160 [.slice (some ⟨b, 0, none⟩) n c, .int .i64 (a : Int), .int .i64 (e : Int)] (DD b c n d0 :: Γ) fun v Γ' => v = .tuple #[] ∧ Γ' = DD b c n (insertionSort ltInt d0 a e) :: Γ := by
  refine Fn.enter Tryz.func160 rfl rfl rfl fun E => ?_
  unfold insertionSort
  generalize hX : insOuter ltInt a e (a + 1) d0 = X
  refine m_run ?_
  apply TK.iter (fun j ρ' Γ' => ∃ (i : Nat) (d : Array Int), i + j = e + a + 1 ∧ a + 1 ≤ i ∧ i ≤ n + 1 ∧ d.size = n ∧ insOuter ltInt a e i d = X ∧ lk ρ' 0 = .slice (some ⟨b, 0, none⟩) n c ∧ lk ρ' 1 = .int .i64 (a : Int) ∧ lk ρ' 2 = .int .i64 (e : Int) ∧ lk ρ' 6 = .int .i64 (i : Int) ∧ Γ' = DD b c n d :: Γ) e
  · exact ⟨a + 1, d0, by omega, Nat.le_refl _, by omega, hsz0, hX, rfl, rfl, rfl, congrArg (Value.int .i64) (by rw [i64_in (by omega) (by omega)]; omega), rfl⟩
  rintro j IH ρ' _ ⟨i, d, hij, hi1, hin, hsz, hX, e0, e1, e2, e6, rfl⟩
  refine TK.know4 e0 e1 e2 e6 ?_
  by_cases hi : i < e
  · rw [Sort.insOuter, if_pos hi] at hX
    refine m_run ?_
    generalize hY : insInner ltInt a i d = Y at hX
    apply TK.iter (fun j ρ' Γ' => ∃ (d : Array Int), j ≤ i ∧ d.size = n ∧ insInner ltInt a j d = Y ∧ lk ρ' 0 = .slice (some ⟨b, 0, none⟩) n c ∧ lk ρ' 1 = .int .i64 (a : Int) ∧ lk ρ' 2 = .int .i64 (e : Int) ∧ lk ρ' 6 = .int .i64 (i : Int) ∧ lk ρ' 7 = .int .i64 (j : Int) ∧ Γ' = DD b c n d :: Γ) i
    · exact ⟨d, Nat.le_refl _, hsz, hY, rfl, rfl, rfl, rfl, rfl, rfl⟩
    clear hY hsz
    rintro q IH2 ρ2 _ ⟨d, hqi, hsz, hY, f0, f1, f2, f6, f7, rfl⟩
    refine TK.know5 f0 f1 f2 f6 f7 ?_
    have hfin : d = Y → Y.size = n ∧ insOuter ltInt a e (i + 1) Y = X := fun h => ⟨h ▸ hsz, hX⟩
    by_cases hk : a < q
    · obtain ⟨p, rfl⟩ : ∃ p, q = p + 1 := ⟨q - 1, by omega⟩
      rw [Sort.insInner] at hY
      have hc1 := cellD (b := b) (c := c) (Γ := Γ) hsz (show p + 1 < n by omega)
      have hc2 := cellD (b := b) (c := c) (Γ := Γ) hsz (show p < n by omega)
      refine m_run ?_
      refine TK.drawS mixed rfl ?_
      refine m_take (At.mk : At 0) ?_; refine m_take (At.mk : At 1) ?_; refine m_take (At.mk : At 2) ?_
      refine TA.isT 18 rfl (decide_eq_true (by omega)) ?_
      refine m_take (At.mk : At 3) ?_; refine m_take (At.mk : At 4) ?_; refine m_take (At.mk : At 5) ?_; refine m_take (At.mk : At 6) ?_; refine m_take (At.mk : At 7) ?_; refine m_take (At.mk : At 8) ?_; refine m_take (At.mk : At 9) ?_; refine m_take (At.mk : At 10) ?_
      refine TA.know (t := 26) (v := .int .i64 ((p : Nat) : Int)) (congrArg (Value.int .i64) (by rw [i64_in (by omega) (by omega)]; omega)) ?_
      refine m_take (At.mk : At 11) ?_; refine m_take (At.mk : At 12) ?_
      (apply TA.one 13; kernel_rfl; exact rfl)
      refine m_rrun ?_
      (apply TL.callV; exact rfl; exact callB_of (by kernel_rfl); exact rfl; exact fun _ h => h)
      exact less_t _ _ _
      rintro _ _ ⟨rfl, rfl⟩
      refine TL.back (by (focus ((repeat (first | assumption | exact Ent.refl _ | apply Ent.tail)); done))) ?_
      refine m_take (At.mk : At 14) ?_
      by_cases hlt : d[p + 1]! < d[p]!
      · rw [if_pos (by simp [ltInt, hlt]; omega)] at hY
        refine TA.isT 30 rfl (decide_eq_true hlt) ?_
        refine TA.done (by kernel_rfl) ?_
        refine m_run ?_
        have hcI := cellD (b := b) (c := c) (Γ := Γ) hsz (show p + 1 < n by omega)
        have hcK := cellD (b := b) (c := c) (Γ := Γ) hsz (show p < n by omega)
        refine TK.drawB mixed rfl 15 (DD b c n d :: Γ) (Γ) ?_
        refine m_bake (At.mk : At 0) ?_; refine m_bake (At.mk : At 1) ?_; refine m_bake (At.mk : At 2) ?_; refine m_bake (At.mk : At 3) ?_; refine m_bake (At.mk : At 4) ?_
        refine TB.know (t := 37) (v := .int .i64 ((p : Nat) : Int)) (congrArg (Value.int .i64) (by rw [i64_in (by omega) (by omega)]; omega)) ?_
        refine m_bake (At.mk : At 5) ?_; refine m_bake (At.mk : At 6) ?_; refine m_bake (At.mk : At 7) ?_
        refine TB.know (t := 40) (v := .int .i64 ((p : Nat) : Int)) (congrArg (Value.int .i64) (by rw [i64_in (by omega) (by omega)]; omega)) ?_
        refine m_bake (At.mk : At 8) ?_; refine m_bake (At.mk : At 9) ?_; refine m_bake (At.mk : At 10) ?_; refine m_bake (At.mk : At 11) ?_; refine m_bake (At.mk : At 12) ?_; refine m_bake (At.mk : At 13) ?_; refine m_bake (At.mk : At 14) ?_
        (apply TB.last; kernel_rfl; exact rfl)
        (apply TL.storeOwn 0 (p + 1); exact rfl; exact rfl; exact rfl; exact rfl; exact tb rfl; exact rfl; exact (Nat.zero_add _).symm; exact (by omega))
        refine TL.back (by (focus ((repeat (first | assumption | exact Ent.refl _ | apply Ent.tail)); done))) ?_
        refine m_take (At.mk : At 16) ?_
        (apply TA.one 17; kernel_rfl; exact rfl)
        (apply TL.storeOwn 0 (p); exact rfl; exact rfl; exact rfl; exact rfl; exact tb rfl; exact rfl; exact (Nat.zero_add _).symm; exact (by omega))
        refine TL.back (by (focus ((repeat (first | assumption | exact Ent.refl _ | apply Ent.tail)); done))) ?_
        refine TA.done (by kernel_rfl) ?_
        refine TK.imp (Δ := DD b c n (swp d (p + 1) (p)) :: Γ) (fun _ h => by show all (own _ _ _ _ (nums _ (swp d (p + 1) (p)).toList) :: _) _; rw [← swpD]; exact h) ?_
        have hsz : (swp d (p + 1) (p)).size = n := (size_swp _ _ _).trans hsz
        clear hcI hcK
        clear hc1 hc2
        refine m_run ?_
        exact IH2 p _ _ (by omega) ⟨_, by omega, hsz, hY, rfl, rfl, rfl, rfl, congrArg (Value.int .i64) (by rw [i64_in (by omega) (by omega)]; omega), rfl⟩
      · rw [if_neg (by simp [ltInt, hlt])] at hY
        obtain ⟨g1, g2⟩ := hfin hY
        refine TA.isF 30 rfl (decide_eq_false hlt) ?_
        refine TA.done (by kernel_rfl) ?_
        rw [hY]
        refine m_run ?_
        exact IH (j - 1) _ _ (by omega) ⟨i + 1, Y, by omega, by omega, by omega, g1, g2, rfl, rfl, rfl, congrArg (Value.int .i64) (i64_succ i (by omega)), rfl⟩
    · have hY2 : d = Y := by
        rw [← hY]
        cases q with
        | zero => rw [Sort.insInner]
        | succ p => rw [Sort.insInner, if_neg (by simp; omega)]
      obtain ⟨g1, g2⟩ := hfin hY2
      rw [hY2]
      refine m_run ?_
      refine TK.drawS mixed rfl ?_
      refine m_take (At.mk : At 0) ?_; refine m_take (At.mk : At 1) ?_; refine m_take (At.mk : At 2) ?_
      refine TA.isF 18 rfl (decide_eq_false (by omega)) ?_
      refine m_take (At.mk : At 3) ?_; refine m_take (At.mk : At 4) ?_; refine m_take (At.mk : At 5) ?_; refine m_take (At.mk : At 6) ?_; refine m_take (At.mk : At 7) ?_; refine m_take (At.mk : At 8) ?_; refine m_take (At.mk : At 9) ?_; refine m_take (At.mk : At 10) ?_; refine m_take (At.mk : At 11) ?_; refine m_take (At.mk : At 12) ?_; refine m_take (At.mk : At 13) ?_; refine m_take (At.mk : At 14) ?_
      refine TA.done (by kernel_rfl) ?_
      refine m_run ?_
      exact IH (j - 1) _ _ (by omega) ⟨i + 1, Y, by omega, by omega, by omega, g1, g2, rfl, rfl, rfl, congrArg (Value.int .i64) (i64_succ i (by omega)), rfl⟩
  rw [Sort.insOuter, if_neg hi] at hX
  rw [hX]
  refine m_run ?_
  exact TK.over0 rfl rfl ⟨_, rfl, rfl, rfl⟩

set_option maxRecDepth 100000 in
set_option maxHeartbeats 4000000 in
theorem order2_t (b c n s p q : Nat) (z : Int) (d : Array Int) (Γ : List HP) (hsz : d.size = n) (hp : p < n) (hq : q < n) :
    FnV Tryz.prog 208 [.slice (some ⟨b, 0, none⟩) n c, .int .i64 (p : Int), .int .i64 (q : Int), .pointer (some ⟨s, 0, none⟩)] (row s [.int .i64 z] 3 :: DD b c n d :: Γ) fun v Γ' => ∃ (x y : Nat) (z' : Int), (x = p ∧ y = q ∨ x = q ∧ y = p) ∧ v = .tuple #[.int .i64 (x : Int), .int .i64 (y : Int)] ∧ Γ' = row s [.int .i64 z'] 3 :: DD b c n d :: Γ := by
  refine Fn.enter Tryz.func208 rfl rfl rfl fun E => ?_
  have hc1 := has_tlc (K := row s [.int .i64 z] 3) (cellD (b := b) (c := c) (Γ := Γ) hsz hp)
  have hc2 := has_tlc (K := row s [.int .i64 z] 3) (cellD (b := b) (c := c) (Γ := Γ) hsz hq)
  refine m_run ?_
  refine TK.drawS mixed rfl ?_
  refine m_take (At.mk : At 0) ?_; refine m_take (At.mk : At 1) ?_; refine m_take (At.mk : At 2) ?_; refine m_take (At.mk : At 3) ?_; refine m_take (At.mk : At 4) ?_; refine m_take (At.mk : At 5) ?_; refine m_take (At.mk : At 6) ?_; refine m_take (At.mk : At 7) ?_
  (apply TA.one 8; kernel_rfl; exact rfl)
  (apply TL.callV; exact rfl; exact callB_of (by kernel_rfl); exact rfl; exact fun _ h => h)
  exact less_t _ _ _
  rintro _ _ ⟨rfl, rfl⟩
  refine TL.back (by (focus ((repeat (first | assumption | exact Ent.refl _ | apply Ent.tail)); done))) ?_
  refine TA.done (by kernel_rfl) ?_
  by_cases h : d[q]! < d[p]!
  · rw [decide_eq_true h]
    refine m_run ?_
    (apply TK.ret2; exact rfl; exact rfl; (exact m_val); (exact m_val))
    exact ⟨_, rfl, q, p, _, .inr ⟨rfl, rfl⟩, rfl, rfl⟩
  · rw [decide_eq_false h]
    refine m_run ?_
    (apply TK.ret2; exact rfl; exact rfl; (exact m_val); (exact m_val))
    exact ⟨_, rfl, p, q, _, .inl ⟨rfl, rfl⟩, rfl, rfl⟩
set_option maxRecDepth 100000 in
set_option maxHeartbeats 4000000 in
theorem median_t (b c n s p q r : Nat) (z : Int) (d : Array Int) (Γ : List HP) (hsz : d.size = n) (hp : p < n) (hq : q < n) (hr : r < n) :
    FnV Tryz.prog 194 [.slice (some ⟨b, 0, none⟩) n c, .int .i64 (p : Int), .int .i64 (q : Int), .int .i64 (r : Int), .pointer (some ⟨s, 0, none⟩)] (row s [.int .i64 z] 3 :: DD b c n d :: Γ) fun v Γ' => ∃ (x : Nat) (z' : Int), (x = p ∨ x = q ∨ x = r) ∧ v = .int .i64 (x : Int) ∧ Γ' = row s [.int .i64 z'] 3 :: DD b c n d :: Γ := by
  refine Fn.enter Tryz.func194 rfl rfl rfl fun E => ?_
  refine m_run ?_
  (apply TL.callV; exact rfl; exact callB_of (by kernel_rfl); exact rfl; exact fun _ h => h)
  exact order2_t b c n s p q z d Γ hsz hp hq
  rintro _ _ ⟨x1, y1, z1, h1, rfl, rfl⟩
  refine m_run ?_
  (apply TL.callV; exact rfl; exact callB_of (by kernel_rfl); exact rfl; exact fun _ h => h)
  exact order2_t b c n s y1 r z1 d Γ hsz (by omega) hr
  rintro _ _ ⟨x2, y2, z2, h2, rfl, rfl⟩
  refine m_run ?_
  (apply TL.callV; exact rfl; exact callB_of (by kernel_rfl); exact rfl; exact fun _ h => h)
  exact order2_t b c n s x1 x2 z2 d Γ hsz (by omega) (by omega)
  rintro _ _ ⟨x3, y3, z3, h3, rfl, rfl⟩
  refine m_run ?_
  (apply TK.ret1; exact rfl; exact rfl; (exact m_val))
  exact ⟨_, rfl, y3, z3, by omega, rfl, rfl⟩
set_option maxRecDepth 100000 in
set_option maxHeartbeats 4000000 in
theorem medAdj_t (b c n s p : Nat) (z : Int) (d : Array Int) (Γ : List HP) (hsz : d.size = n) (h1 : 1 ≤ p) (hp : p + 1 < n) (hn : n ≤ 1000000000) :
    FnV Tryz.prog 193 [.slice (some ⟨b, 0, none⟩) n c, .int .i64 (p : Int), .pointer (some ⟨s, 0, none⟩)] (row s [.int .i64 z] 3 :: DD b c n d :: Γ) fun v Γ' => ∃ (x : Nat) (z' : Int), (x + 1 = p ∨ x = p ∨ x = p + 1) ∧ v = .int .i64 (x : Int) ∧ Γ' = row s [.int .i64 z'] 3 :: DD b c n d :: Γ := by
  refine Fn.enter Tryz.func193 rfl rfl rfl fun E => ?_
  refine m_run ?_
  refine TL.know (t := 9) (v := .int .i64 ((p - 1 : Nat) : Int)) (congrArg (Value.int .i64) (by rw [i64_in (by omega) (by omega)]; omega)) ?_
  refine m_run ?_
  refine TL.know (t := 12) (v := .int .i64 ((p + 1 : Nat) : Int)) (congrArg (Value.int .i64) (by rw [i64_in (by omega) (by omega)]; omega)) ?_
  (apply TL.callV; exact rfl; exact callB_of (by kernel_rfl); exact rfl; exact fun _ h => h)
  exact median_t b c n s (p - 1) p (p + 1) z d Γ hsz (by omega) (by omega) hp
  rintro _ _ ⟨x, z1, h, rfl, rfl⟩
  refine m_run ?_
  (apply TK.ret1; exact rfl; exact rfl; (exact m_val))
  exact ⟨_, rfl, x, z1, by omega, rfl, rfl⟩
set_option maxRecDepth 100000 in
set_option maxHeartbeats 4000000 in
theorem pivot_t (b c n a e : Nat) (d : Array Int) (Γ : List HP) (hsz : d.size = n) (hae : a + 12 < e) (he : e ≤ n) (hn : n ≤ 1000000000) :
    FnV Tryz.prog 163 [.slice (some ⟨b, 0, none⟩) n c, .int .i64 (a : Int), .int .i64 (e : Int)] (DD b c n d :: Γ) fun v Γ' => ∃ (x : Nat) (z : Int), a ≤ x ∧ x < e ∧ (z = 0 ∨ z = 1 ∨ z = 2) ∧ v = .tuple #[.int .i64 (x : Int), .int .i64 z] ∧ Γ' = DD b c n d :: Γ := by
  refine Fn.enter Tryz.func163 rfl rfl rfl fun E => ?_
  have hq1 : (e - a) / 4 * 4 ≤ e - a := Nat.div_mul_le_self _ _
  have hq3 : 3 ≤ (e - a) / 4 := by omega
  have hqt : IntKind.i64.wrap (((e - a : Nat) : Int).tdiv 4) = (((e - a) / 4 : Nat) : Int) := by
    rw [show ((e - a : Nat) : Int).tdiv 4 = (((e - a) / 4 : Nat) : Int) from rfl, i64_in (by omega) (by omega)]
  have hq50 : 50 ≤ e - a → 12 ≤ (e - a) / 4 := by omega
  generalize (e - a) / 4 = q at *
  refine m_run ?_
  refine TL.know (t := 8) (v := .int .i64 ((e - a : Nat) : Int)) (congrArg (Value.int .i64) (by rw [i64_in (by omega) (by omega)]; omega)) ?_
  refine m_run ?_
  (apply TL.alloc; exact rfl; exact tb rfl; (exact m_lst))
  intro s
  refine m_run ?_
  refine TK.know (t := 10) (v := .int .i64 ((a + q * 1 : Nat) : Int)) (congrArg (Value.int .i64) (by rw [hqt, i64_in (x := (q : Int) * 1) (by omega) (by omega), i64_in (by omega) (by omega)]; omega)) ?_
  refine TK.know (t := 11) (v := .int .i64 ((a + q * 2 : Nat) : Int)) (congrArg (Value.int .i64) (by rw [hqt, i64_in (x := (q : Int) * 2) (by omega) (by omega), i64_in (by omega) (by omega)]; omega)) ?_
  refine TK.know (t := 12) (v := .int .i64 ((a + q * 3 : Nat) : Int)) (congrArg (Value.int .i64) (by rw [hqt, i64_in (x := (q : Int) * 3) (by omega) (by omega), i64_in (by omega) (by omega)]; omega)) ?_
  refine TK.imp (Δ := row s [.int .i64 0] 3 :: DD b c n d :: Γ) (fun _ h => h) ?_
  by_cases h50 : 50 ≤ e - a
  · have hbig := hq50 h50
    refine m_run ?_
    (apply TL.callV; exact rfl; exact callB_of (by kernel_rfl); exact rfl; exact fun _ h => h)
    exact medAdj_t b c n s (a + q * 1) 0 d Γ hsz (by omega) (by omega) hn
    rintro _ _ ⟨x1, z1, h1, rfl, rfl⟩
    refine m_run ?_
    (apply TL.callV; exact rfl; exact callB_of (by kernel_rfl); exact rfl; exact fun _ h => h)
    exact medAdj_t b c n s (a + q * 2) z1 d Γ hsz (by omega) (by omega) hn
    rintro _ _ ⟨x2, z2, h2, rfl, rfl⟩
    refine m_run ?_
    (apply TL.callV; exact rfl; exact callB_of (by kernel_rfl); exact rfl; exact fun _ h => h)
    exact medAdj_t b c n s (a + q * 3) z2 d Γ hsz (by omega) (by omega) hn
    rintro _ _ ⟨x3, z3, h3, rfl, rfl⟩
    refine m_run ?_
    (apply TL.callV; exact rfl; exact callB_of (by kernel_rfl); exact rfl; exact fun _ h => h)
    exact median_t b c n s x1 x2 x3 z3 d Γ hsz (by omega) (by omega) (by omega)
    rintro _ _ ⟨x, z, h, rfl, rfl⟩
    by_cases hz : z = 0
    · refine m_run ?_
      (apply TK.retS2; exact rfl; exact rfl; (exact m_val); (exact m_val))
      · exact ⟨_, rfl, x, 1, by omega, by omega, .inr (.inl rfl), rfl, rfl⟩
      · (repeat (first | exact List.Sublist.refl _ | apply List.Sublist.cons_cons | apply List.Sublist.cons))
    · by_cases hz2 : z = 12
      · refine m_run ?_
        (apply TK.retS2; exact rfl; exact rfl; (exact m_val); (exact m_val))
        · exact ⟨_, rfl, x, 2, by omega, by omega, .inr (.inr rfl), rfl, rfl⟩
        · (repeat (first | exact List.Sublist.refl _ | apply List.Sublist.cons_cons | apply List.Sublist.cons))
      · refine m_run ?_
        (apply TK.retS2; exact rfl; exact rfl; (exact m_val); (exact m_val))
        · exact ⟨_, rfl, x, 0, by omega, by omega, .inl rfl, rfl, rfl⟩
        · (repeat (first | exact List.Sublist.refl _ | apply List.Sublist.cons_cons | apply List.Sublist.cons))
  · refine m_run ?_
    (apply TL.callV; exact rfl; exact callB_of (by kernel_rfl); exact rfl; exact fun _ h => h)
    exact median_t b c n s (a + q * 1) (a + q * 2) (a + q * 3) 0 d Γ hsz (by omega) (by omega) (by omega)
    rintro _ _ ⟨x, z, h, rfl, rfl⟩
    by_cases hz : z = 0
    · refine m_run ?_
      (apply TK.retS2; exact rfl; exact rfl; (exact m_val); (exact m_val))
      · exact ⟨_, rfl, x, 1, by omega, by omega, .inr (.inl rfl), rfl, rfl⟩
      · (repeat (first | exact List.Sublist.refl _ | apply List.Sublist.cons_cons | apply List.Sublist.cons))
    · by_cases hz2 : z = 12
      · refine m_run ?_
        (apply TK.retS2; exact rfl; exact rfl; (exact m_val); (exact m_val))
        · exact ⟨_, rfl, x, 2, by omega, by omega, .inr (.inr rfl), rfl, rfl⟩
        · (repeat (first | exact List.Sublist.refl _ | apply List.Sublist.cons_cons | apply List.Sublist.cons))
      · refine m_run ?_
        (apply TK.retS2; exact rfl; exact rfl; (exact m_val); (exact m_val))
        · exact ⟨_, rfl, x, 0, by omega, by omega, .inl rfl, rfl, rfl⟩
        · (repeat (first | exact List.Sublist.refl _ | apply List.Sublist.cons_cons | apply List.Sublist.cons))
set_option maxRecDepth 100000 in
set_option maxHeartbeats 4000000 in
theorem rev_t (b c n a e : Nat) (d0 : Array Int) (Γ : List HP) (hsz0 : d0.size = n) (hae : a < e) (he : e ≤ n) (hn : n ≤ 1000000000) :
    FnV Tryz.prog 164 [.slice (some ⟨b, 0, none⟩) n c, .int .i64 (a : Int), .int .i64 (e : Int)] (DD b c n d0 :: Γ) fun v Γ' => v = .tuple #[] ∧ Γ' = DD b c n (reverseRange d0 a e) :: Γ := by
  refine Fn.enter Tryz.func164 rfl rfl rfl fun E => ?_
  unfold reverseRange
  generalize hX : reverseLoop a (e - 1) d0 = X
  refine m_run ?_
  apply TK.iter (fun m ρ' Γ' => ∃ (i j : Nat) (d : Array Int), j + 1 - i ≤ m ∧ i ≤ n ∧ j < n ∧ d.size = n ∧ reverseLoop i j d = X ∧ lk ρ' 0 = .slice (some ⟨b, 0, none⟩) n c ∧ lk ρ' 6 = .int .i64 (i : Int) ∧ lk ρ' 7 = .int .i64 (j : Int) ∧ Γ' = DD b c n d :: Γ) n
  · exact ⟨a, e - 1, d0, by omega, by omega, by omega, hsz0, hX, rfl, rfl, congrArg (Value.int .i64) (by rw [i64_in (by omega) (by omega)]; omega), rfl⟩
  rintro m IH ρ' _ ⟨i, j, d, hm, hi, hj, hsz, hX, e0, e6, e7, rfl⟩
  refine TK.know3 e0 e6 e7 ?_
  by_cases hij : i < j
  · rw [Sort.reverseLoop, if_pos hij] at hX
    refine m_run ?_
    have hcI := cellD (b := b) (c := c) (Γ := Γ) hsz (show i < n by omega)
    have hcK := cellD (b := b) (c := c) (Γ := Γ) hsz (show j < n by omega)
    refine TK.drawB mixed rfl 13 (DD b c n d :: Γ) (Γ) ?_
    refine m_bake (At.mk : At 0) ?_; refine m_bake (At.mk : At 1) ?_; refine m_bake (At.mk : At 2) ?_; refine m_bake (At.mk : At 3) ?_; refine m_bake (At.mk : At 4) ?_; refine m_bake (At.mk : At 5) ?_; refine m_bake (At.mk : At 6) ?_; refine m_bake (At.mk : At 7) ?_; refine m_bake (At.mk : At 8) ?_; refine m_bake (At.mk : At 9) ?_; refine m_bake (At.mk : At 10) ?_; refine m_bake (At.mk : At 11) ?_; refine m_bake (At.mk : At 12) ?_
    (apply TB.last; kernel_rfl; exact rfl)
    (apply TL.storeOwn 0 (i); exact rfl; exact rfl; exact rfl; exact rfl; exact tb rfl; exact rfl; exact (Nat.zero_add _).symm; exact (by omega))
    refine TL.back (by (focus ((repeat (first | assumption | exact Ent.refl _ | apply Ent.tail)); done))) ?_
    refine m_take (At.mk : At 14) ?_
    (apply TA.one 15; kernel_rfl; exact rfl)
    (apply TL.storeOwn 0 (j); exact rfl; exact rfl; exact rfl; exact rfl; exact tb rfl; exact rfl; exact (Nat.zero_add _).symm; exact (by omega))
    refine TL.back (by (focus ((repeat (first | assumption | exact Ent.refl _ | apply Ent.tail)); done))) ?_
    refine TA.done (by kernel_rfl) ?_
    refine TK.imp (Δ := DD b c n (swp d (i) (j)) :: Γ) (fun _ h => by show all (own _ _ _ _ (nums _ (swp d (i) (j)).toList) :: _) _; rw [← swpD]; exact h) ?_
    have hsz : (swp d (i) (j)).size = n := (size_swp _ _ _).trans hsz
    clear hcI hcK
    refine m_run ?_
    exact IH (m - 1) _ _ (by omega) ⟨i + 1, j - 1, _, by omega, by omega, by omega, hsz, hX, rfl, congrArg (Value.int .i64) (by rw [i64_in (by omega) (by omega)]; omega), congrArg (Value.int .i64) (by rw [i64_in (by omega) (by omega)]; omega), rfl⟩
  rw [Sort.reverseLoop, if_neg hij] at hX
  rw [hX]
  refine m_run ?_
  exact TK.over0 rfl rfl ⟨_, rfl, rfl, rfl⟩

set_option maxRecDepth 100000 in
set_option maxHeartbeats 4000000 in
theorem sift_t (b c n lo hi first : Nat) (d0 : Array Int) (Γ : List HP) (hsz0 : d0.size = n) (hlo : lo ≤ hi) (hf : first + hi ≤ n) (hn : n ≤ 1000000000) :
    FnV Tryz.prog 192 [.slice (some ⟨b, 0, none⟩) n c, .int .i64 (lo : Int), .int .i64 (hi : Int), .int .i64 (first : Int)] (DD b c n d0 :: Γ) fun v Γ' => v = .tuple #[] ∧ Γ' = DD b c n (siftDown ltInt hi first lo d0) :: Γ := by
  refine Fn.enter Tryz.func192 rfl rfl rfl fun E => ?_
  generalize hX : siftDown ltInt hi first lo d0 = X
  refine m_run ?_
  apply TK.iter (fun m ρ' Γ' => ∃ (root : Nat) (d : Array Int), hi - root ≤ m ∧ root ≤ hi ∧ d.size = n ∧ siftDown ltInt hi first root d = X ∧ lk ρ' 0 = .slice (some ⟨b, 0, none⟩) n c ∧ lk ρ' 2 = .int .i64 (hi : Int) ∧ lk ρ' 3 = .int .i64 (first : Int) ∧ lk ρ' 8 = .int .i64 (root : Int) ∧ Γ' = DD b c n d :: Γ) hi
  · exact ⟨lo, d0, by omega, hlo, hsz0, hX, rfl, rfl, rfl, rfl, rfl⟩
  rintro m IH ρ' _ ⟨root, d, hm, hrt, hsz, hX, e0, e2, e3, e8, rfl⟩
  refine TK.know4 e0 e2 e3 e8 ?_
  rw [Sort.siftDown] at hX
  by_cases hch : 2 * root + 1 ≥ hi
  · rw [dif_pos hch] at hX
    rw [hX]
    have hw : IntKind.i64.wrap (IntKind.i64.wrap (2 * (root : Int)) + 1) = ((2 * root + 1 : Nat) : Int) := by rw [i64_in (x := 2 * (root : Int)) (by omega) (by omega), i64_in (by omega) (by omega)]; omega
    refine m_run ?_
    refine TK.know (t := 16) (v := .bool true) (congrArg Value.bool (by rw [hw]; exact decide_eq_true (by omega))) ?_
    refine m_run ?_
    exact TK.over0 rfl rfl ⟨_, rfl, rfl, rfl⟩
  · rw [dif_neg hch] at hX
    have hw : IntKind.i64.wrap (IntKind.i64.wrap (2 * (root : Int)) + 1) = ((2 * root + 1 : Nat) : Int) := by rw [i64_in (x := 2 * (root : Int)) (by omega) (by omega), i64_in (by omega) (by omega)]; omega
    refine m_run ?_
    refine TK.know (t := 16) (v := .bool false) (congrArg Value.bool (by rw [hw]; exact decide_eq_false (by omega))) ?_
    refine TK.know (t := 9) (v := .int .i64 ((2 * root + 1 : Nat) : Int)) (congrArg (Value.int .i64) hw) ?_
    refine m_run ?_
    by_cases hr : 2 * root + 1 + 1 < hi
    · have hc1 := cellD (b := b) (c := c) (Γ := Γ) hsz (show first + (2 * root + 1) < n by omega)
      have hc2 := cellD (b := b) (c := c) (Γ := Γ) hsz (show first + (2 * root + 1) + 1 < n by omega)
      refine TK.drawS mixed rfl ?_
      refine m_take (At.mk : At 0) ?_; refine m_take (At.mk : At 1) ?_
      refine TA.know (t := 18) (v := .int .i64 ((2 * root + 1 + 1 : Nat) : Int)) (congrArg (Value.int .i64) (by rw [i64_in (by omega) (by omega)]; omega)) ?_
      refine m_take (At.mk : At 2) ?_; refine m_take (At.mk : At 3) ?_
      refine TA.isT 20 rfl (decide_eq_true (by omega)) ?_
      refine m_take (At.mk : At 4) ?_; refine m_take (At.mk : At 5) ?_; refine m_take (At.mk : At 6) ?_; refine m_take (At.mk : At 7) ?_; refine m_take (At.mk : At 8) ?_
      refine TA.know (t := 25) (v := .int .i64 ((first + (2 * root + 1) : Nat) : Int)) (congrArg (Value.int .i64) (by rw [i64_in (by omega) (by omega)]; omega)) ?_
      refine m_take (At.mk : At 9) ?_; refine m_take (At.mk : At 10) ?_; refine m_take (At.mk : At 11) ?_; refine m_take (At.mk : At 12) ?_; refine m_take (At.mk : At 13) ?_; refine m_take (At.mk : At 14) ?_
      refine TA.know (t := 31) (v := .int .i64 ((first + (2 * root + 1) : Nat) : Int)) (congrArg (Value.int .i64) (by rw [i64_in (by omega) (by omega)]; omega)) ?_
      refine m_take (At.mk : At 15) ?_
      refine TA.know (t := 32) (v := .int .i64 ((first + (2 * root + 1) + 1 : Nat) : Int)) (congrArg (Value.int .i64) (by rw [i64_in (by omega) (by omega)]; omega)) ?_
      refine m_take (At.mk : At 16) ?_; refine m_take (At.mk : At 17) ?_
      (apply TA.one 18; kernel_rfl; exact rfl)
      refine m_rrun ?_
      (apply TL.callV; exact rfl; exact callB_of (by kernel_rfl); exact rfl; exact fun _ h => h)
      exact less_t _ _ _
      rintro _ _ ⟨rfl, rfl⟩
      refine TL.back (by (focus ((repeat (first | assumption | exact Ent.refl _ | apply Ent.tail)); done))) ?_
      refine m_take (At.mk : At 19) ?_
      by_cases h1 : d[first + (2 * root + 1)]! < d[first + (2 * root + 1) + 1]!
      · rw [if_pos (by simp [ltInt, h1]; omega)] at hX
        refine TA.isT 36 rfl (decide_eq_true h1) ?_
        refine TA.done (by kernel_rfl) ?_
        clear hc1 hc2
        refine m_run ?_
        refine TK.know (t := 9) (v := .int .i64 ((2 * root + 2 : Nat) : Int)) (congrArg (Value.int .i64) (by rw [i64_in (by omega) (by omega)]; omega)) ?_
        have hc3 := cellD (b := b) (c := c) (Γ := Γ) hsz (show first + root < n by omega)
        have hc4 := cellD (b := b) (c := c) (Γ := Γ) hsz (show first + (2 * root + 2) < n by omega)
        refine m_run ?_
        refine TK.drawS mixed rfl ?_
        refine m_take (At.mk : At 0) ?_; refine m_take (At.mk : At 1) ?_; refine m_take (At.mk : At 2) ?_; refine m_take (At.mk : At 3) ?_
        refine TA.know (t := 42) (v := .int .i64 ((first + root : Nat) : Int)) (congrArg (Value.int .i64) (by rw [i64_in (by omega) (by omega)]; omega)) ?_
        refine m_take (At.mk : At 4) ?_; refine m_take (At.mk : At 5) ?_; refine m_take (At.mk : At 6) ?_; refine m_take (At.mk : At 7) ?_; refine m_take (At.mk : At 8) ?_; refine m_take (At.mk : At 9) ?_
        refine TA.know (t := 48) (v := .int .i64 ((first + (2 * root + 2) : Nat) : Int)) (congrArg (Value.int .i64) (by rw [i64_in (by omega) (by omega)]; omega)) ?_
        refine m_take (At.mk : At 10) ?_; refine m_take (At.mk : At 11) ?_
        (apply TA.one 12; kernel_rfl; exact rfl)
        (apply TL.callV; exact rfl; exact callB_of (by kernel_rfl); exact rfl; exact fun _ h => h)
        exact less_t _ _ _
        rintro _ _ ⟨rfl, rfl⟩
        refine TL.back (by (focus ((repeat (first | assumption | exact Ent.refl _ | apply Ent.tail)); done))) ?_
        refine m_take (At.mk : At 13) ?_
        by_cases h2 : d[first + root]! < d[first + (2 * root + 2)]!
        · refine TA.isF 52 rfl (not_f (decide_eq_true h2)) ?_
          refine TA.done (by kernel_rfl) ?_
          rw [if_neg (by simp [ltInt, h2])] at hX
          rw [dif_pos (by omega)] at hX
          clear hc3 hc4
          refine m_run ?_
          have hcI := cellD (b := b) (c := c) (Γ := Γ) hsz (show first + root < n by omega)
          have hcK := cellD (b := b) (c := c) (Γ := Γ) hsz (show first + (2 * root + 2) < n by omega)
          refine TK.drawB mixed rfl 21 (DD b c n d :: Γ) (Γ) ?_
          refine m_bake (At.mk : At 0) ?_; refine m_bake (At.mk : At 1) ?_; refine m_bake (At.mk : At 2) ?_; refine m_bake (At.mk : At 3) ?_
          refine TB.know (t := 56) (v := .int .i64 ((first + root : Nat) : Int)) (congrArg (Value.int .i64) (by rw [i64_in (by omega) (by omega)]; omega)) ?_
          refine m_bake (At.mk : At 4) ?_; refine m_bake (At.mk : At 5) ?_; refine m_bake (At.mk : At 6) ?_; refine m_bake (At.mk : At 7) ?_
          refine TB.know (t := 60) (v := .int .i64 ((first + (2 * root + 2) : Nat) : Int)) (congrArg (Value.int .i64) (by rw [i64_in (by omega) (by omega)]; omega)) ?_
          refine m_bake (At.mk : At 8) ?_; refine m_bake (At.mk : At 9) ?_; refine m_bake (At.mk : At 10) ?_; refine m_bake (At.mk : At 11) ?_
          refine TB.know (t := 64) (v := .int .i64 ((first + (2 * root + 2) : Nat) : Int)) (congrArg (Value.int .i64) (by rw [i64_in (by omega) (by omega)]; omega)) ?_
          refine m_bake (At.mk : At 12) ?_; refine m_bake (At.mk : At 13) ?_; refine m_bake (At.mk : At 14) ?_; refine m_bake (At.mk : At 15) ?_; refine m_bake (At.mk : At 16) ?_; refine m_bake (At.mk : At 17) ?_
          refine TB.know (t := 70) (v := .int .i64 ((first + root : Nat) : Int)) (congrArg (Value.int .i64) (by rw [i64_in (by omega) (by omega)]; omega)) ?_
          refine m_bake (At.mk : At 18) ?_; refine m_bake (At.mk : At 19) ?_; refine m_bake (At.mk : At 20) ?_
          (apply TB.last; kernel_rfl; exact rfl)
          (apply TL.storeOwn 0 (first + root); exact rfl; exact rfl; exact rfl; exact rfl; exact tb rfl; exact rfl; exact (Nat.zero_add _).symm; exact (by omega))
          refine TL.back (by (focus ((repeat (first | assumption | exact Ent.refl _ | apply Ent.tail)); done))) ?_
          refine m_take (At.mk : At 22) ?_
          (apply TA.one 23; kernel_rfl; exact rfl)
          (apply TL.storeOwn 0 (first + (2 * root + 2)); exact rfl; exact rfl; exact rfl; exact rfl; exact tb rfl; exact rfl; exact (Nat.zero_add _).symm; exact (by omega))
          refine TL.back (by (focus ((repeat (first | assumption | exact Ent.refl _ | apply Ent.tail)); done))) ?_
          refine TA.done (by kernel_rfl) ?_
          refine TK.imp (Δ := DD b c n (swp d (first + root) (first + (2 * root + 2))) :: Γ) (fun _ h => by show all (own _ _ _ _ (nums _ (swp d (first + root) (first + (2 * root + 2))).toList) :: _) _; rw [← swpD]; exact h) ?_
          have hsz : (swp d (first + root) (first + (2 * root + 2))).size = n := (size_swp _ _ _).trans hsz
          clear hcI hcK
          refine m_run ?_
          exact IH (m - 1) _ _ (by omega) ⟨2 * root + 2, _, by omega, by omega, hsz, hX, rfl, rfl, rfl, rfl, rfl⟩
        · refine TA.isT 52 rfl (not_t (decide_eq_false h2)) ?_
          refine TA.done (by kernel_rfl) ?_
          rw [if_pos (by simp [ltInt, h2])] at hX
          rw [hX]
          refine m_run ?_
          (apply TK.ret0; exact rfl; exact rfl)
          exact ⟨_, rfl, rfl, rfl⟩
      · rw [if_neg (by simp [ltInt, h1])] at hX
        refine TA.isF 36 rfl (decide_eq_false h1) ?_
        refine TA.done (by kernel_rfl) ?_
        clear hc1 hc2
        have hc3 := cellD (b := b) (c := c) (Γ := Γ) hsz (show first + root < n by omega)
        have hc4 := cellD (b := b) (c := c) (Γ := Γ) hsz (show first + (2 * root + 1) < n by omega)
        refine m_run ?_
        refine TK.drawS mixed rfl ?_
        refine m_take (At.mk : At 0) ?_; refine m_take (At.mk : At 1) ?_; refine m_take (At.mk : At 2) ?_; refine m_take (At.mk : At 3) ?_
        refine TA.know (t := 42) (v := .int .i64 ((first + root : Nat) : Int)) (congrArg (Value.int .i64) (by rw [i64_in (by omega) (by omega)]; omega)) ?_
        refine m_take (At.mk : At 4) ?_; refine m_take (At.mk : At 5) ?_; refine m_take (At.mk : At 6) ?_; refine m_take (At.mk : At 7) ?_; refine m_take (At.mk : At 8) ?_; refine m_take (At.mk : At 9) ?_
        refine TA.know (t := 48) (v := .int .i64 ((first + (2 * root + 1) : Nat) : Int)) (congrArg (Value.int .i64) (by rw [i64_in (by omega) (by omega)]; omega)) ?_
        refine m_take (At.mk : At 10) ?_; refine m_take (At.mk : At 11) ?_
        (apply TA.one 12; kernel_rfl; exact rfl)
        (apply TL.callV; exact rfl; exact callB_of (by kernel_rfl); exact rfl; exact fun _ h => h)
        exact less_t _ _ _
        rintro _ _ ⟨rfl, rfl⟩
        refine TL.back (by (focus ((repeat (first | assumption | exact Ent.refl _ | apply Ent.tail)); done))) ?_
        refine m_take (At.mk : At 13) ?_
        by_cases h2 : d[first + root]! < d[first + (2 * root + 1)]!
        · refine TA.isF 52 rfl (not_f (decide_eq_true h2)) ?_
          refine TA.done (by kernel_rfl) ?_
          rw [if_neg (by simp [ltInt, h2])] at hX
          skip
          clear hc3 hc4
          refine m_run ?_
          have hcI := cellD (b := b) (c := c) (Γ := Γ) hsz (show first + root < n by omega)
          have hcK := cellD (b := b) (c := c) (Γ := Γ) hsz (show first + (2 * root + 1) < n by omega)
          refine TK.drawB mixed rfl 21 (DD b c n d :: Γ) (Γ) ?_
          refine m_bake (At.mk : At 0) ?_; refine m_bake (At.mk : At 1) ?_; refine m_bake (At.mk : At 2) ?_; refine m_bake (At.mk : At 3) ?_
          refine TB.know (t := 56) (v := .int .i64 ((first + root : Nat) : Int)) (congrArg (Value.int .i64) (by rw [i64_in (by omega) (by omega)]; omega)) ?_
          refine m_bake (At.mk : At 4) ?_; refine m_bake (At.mk : At 5) ?_; refine m_bake (At.mk : At 6) ?_; refine m_bake (At.mk : At 7) ?_
          refine TB.know (t := 60) (v := .int .i64 ((first + (2 * root + 1) : Nat) : Int)) (congrArg (Value.int .i64) (by rw [i64_in (by omega) (by omega)]; omega)) ?_
          refine m_bake (At.mk : At 8) ?_; refine m_bake (At.mk : At 9) ?_; refine m_bake (At.mk : At 10) ?_; refine m_bake (At.mk : At 11) ?_
          refine TB.know (t := 64) (v := .int .i64 ((first + (2 * root + 1) : Nat) : Int)) (congrArg (Value.int .i64) (by rw [i64_in (by omega) (by omega)]; omega)) ?_
          refine m_bake (At.mk : At 12) ?_; refine m_bake (At.mk : At 13) ?_; refine m_bake (At.mk : At 14) ?_; refine m_bake (At.mk : At 15) ?_; refine m_bake (At.mk : At 16) ?_; refine m_bake (At.mk : At 17) ?_
          refine TB.know (t := 70) (v := .int .i64 ((first + root : Nat) : Int)) (congrArg (Value.int .i64) (by rw [i64_in (by omega) (by omega)]; omega)) ?_
          refine m_bake (At.mk : At 18) ?_; refine m_bake (At.mk : At 19) ?_; refine m_bake (At.mk : At 20) ?_
          (apply TB.last; kernel_rfl; exact rfl)
          (apply TL.storeOwn 0 (first + root); exact rfl; exact rfl; exact rfl; exact rfl; exact tb rfl; exact rfl; exact (Nat.zero_add _).symm; exact (by omega))
          refine TL.back (by (focus ((repeat (first | assumption | exact Ent.refl _ | apply Ent.tail)); done))) ?_
          refine m_take (At.mk : At 22) ?_
          (apply TA.one 23; kernel_rfl; exact rfl)
          (apply TL.storeOwn 0 (first + (2 * root + 1)); exact rfl; exact rfl; exact rfl; exact rfl; exact tb rfl; exact rfl; exact (Nat.zero_add _).symm; exact (by omega))
          refine TL.back (by (focus ((repeat (first | assumption | exact Ent.refl _ | apply Ent.tail)); done))) ?_
          refine TA.done (by kernel_rfl) ?_
          refine TK.imp (Δ := DD b c n (swp d (first + root) (first + (2 * root + 1))) :: Γ) (fun _ h => by show all (own _ _ _ _ (nums _ (swp d (first + root) (first + (2 * root + 1))).toList) :: _) _; rw [← swpD]; exact h) ?_
          have hsz : (swp d (first + root) (first + (2 * root + 1))).size = n := (size_swp _ _ _).trans hsz
          clear hcI hcK
          refine m_run ?_
          exact IH (m - 1) _ _ (by omega) ⟨2 * root + 1, _, by omega, by omega, hsz, hX, rfl, rfl, rfl, rfl, rfl⟩
        · refine TA.isT 52 rfl (not_t (decide_eq_false h2)) ?_
          refine TA.done (by kernel_rfl) ?_
          rw [if_pos (by simp [ltInt, h2])] at hX
          rw [hX]
          refine m_run ?_
          (apply TK.ret0; exact rfl; exact rfl)
          exact ⟨_, rfl, rfl, rfl⟩
    · rw [if_neg (by simp; omega)] at hX
      refine TK.drawS mixed rfl ?_
      refine m_take (At.mk : At 0) ?_; refine m_take (At.mk : At 1) ?_
      refine TA.know (t := 18) (v := .int .i64 ((2 * root + 1 + 1 : Nat) : Int)) (congrArg (Value.int .i64) (by rw [i64_in (by omega) (by omega)]; omega)) ?_
      refine m_take (At.mk : At 2) ?_; refine m_take (At.mk : At 3) ?_
      refine TA.isF 20 rfl (decide_eq_false (by omega)) ?_
      refine m_take (At.mk : At 4) ?_; refine m_take (At.mk : At 5) ?_; refine m_take (At.mk : At 6) ?_; refine m_take (At.mk : At 7) ?_; refine m_take (At.mk : At 8) ?_; refine m_take (At.mk : At 9) ?_; refine m_take (At.mk : At 10) ?_; refine m_take (At.mk : At 11) ?_; refine m_take (At.mk : At 12) ?_; refine m_take (At.mk : At 13) ?_; refine m_take (At.mk : At 14) ?_; refine m_take (At.mk : At 15) ?_; refine m_take (At.mk : At 16) ?_; refine m_take (At.mk : At 17) ?_; refine m_take (At.mk : At 18) ?_; refine m_take (At.mk : At 19) ?_
      refine TA.done (by kernel_rfl) ?_
      have hc3 := cellD (b := b) (c := c) (Γ := Γ) hsz (show first + root < n by omega)
      have hc4 := cellD (b := b) (c := c) (Γ := Γ) hsz (show first + (2 * root + 1) < n by omega)
      refine m_run ?_
      refine TK.drawS mixed rfl ?_
      refine m_take (At.mk : At 0) ?_; refine m_take (At.mk : At 1) ?_; refine m_take (At.mk : At 2) ?_; refine m_take (At.mk : At 3) ?_
      refine TA.know (t := 42) (v := .int .i64 ((first + root : Nat) : Int)) (congrArg (Value.int .i64) (by rw [i64_in (by omega) (by omega)]; omega)) ?_
      refine m_take (At.mk : At 4) ?_; refine m_take (At.mk : At 5) ?_; refine m_take (At.mk : At 6) ?_; refine m_take (At.mk : At 7) ?_; refine m_take (At.mk : At 8) ?_; refine m_take (At.mk : At 9) ?_
      refine TA.know (t := 48) (v := .int .i64 ((first + (2 * root + 1) : Nat) : Int)) (congrArg (Value.int .i64) (by rw [i64_in (by omega) (by omega)]; omega)) ?_
      refine m_take (At.mk : At 10) ?_; refine m_take (At.mk : At 11) ?_
      (apply TA.one 12; kernel_rfl; exact rfl)
      (apply TL.callV; exact rfl; exact callB_of (by kernel_rfl); exact rfl; exact fun _ h => h)
      exact less_t _ _ _
      rintro _ _ ⟨rfl, rfl⟩
      refine TL.back (by (focus ((repeat (first | assumption | exact Ent.refl _ | apply Ent.tail)); done))) ?_
      refine m_take (At.mk : At 13) ?_
      by_cases h2 : d[first + root]! < d[first + (2 * root + 1)]!
      · refine TA.isF 52 rfl (not_f (decide_eq_true h2)) ?_
        refine TA.done (by kernel_rfl) ?_
        rw [if_neg (by simp [ltInt, h2])] at hX
        skip
        clear hc3 hc4
        refine m_run ?_
        have hcI := cellD (b := b) (c := c) (Γ := Γ) hsz (show first + root < n by omega)
        have hcK := cellD (b := b) (c := c) (Γ := Γ) hsz (show first + (2 * root + 1) < n by omega)
        refine TK.drawB mixed rfl 21 (DD b c n d :: Γ) (Γ) ?_
        refine m_bake (At.mk : At 0) ?_; refine m_bake (At.mk : At 1) ?_; refine m_bake (At.mk : At 2) ?_; refine m_bake (At.mk : At 3) ?_
        refine TB.know (t := 56) (v := .int .i64 ((first + root : Nat) : Int)) (congrArg (Value.int .i64) (by rw [i64_in (by omega) (by omega)]; omega)) ?_
        refine m_bake (At.mk : At 4) ?_; refine m_bake (At.mk : At 5) ?_; refine m_bake (At.mk : At 6) ?_; refine m_bake (At.mk : At 7) ?_
        refine TB.know (t := 60) (v := .int .i64 ((first + (2 * root + 1) : Nat) : Int)) (congrArg (Value.int .i64) (by rw [i64_in (by omega) (by omega)]; omega)) ?_
        refine m_bake (At.mk : At 8) ?_; refine m_bake (At.mk : At 9) ?_; refine m_bake (At.mk : At 10) ?_; refine m_bake (At.mk : At 11) ?_
        refine TB.know (t := 64) (v := .int .i64 ((first + (2 * root + 1) : Nat) : Int)) (congrArg (Value.int .i64) (by rw [i64_in (by omega) (by omega)]; omega)) ?_
        refine m_bake (At.mk : At 12) ?_; refine m_bake (At.mk : At 13) ?_; refine m_bake (At.mk : At 14) ?_; refine m_bake (At.mk : At 15) ?_; refine m_bake (At.mk : At 16) ?_; refine m_bake (At.mk : At 17) ?_
        refine TB.know (t := 70) (v := .int .i64 ((first + root : Nat) : Int)) (congrArg (Value.int .i64) (by rw [i64_in (by omega) (by omega)]; omega)) ?_
        refine m_bake (At.mk : At 18) ?_; refine m_bake (At.mk : At 19) ?_; refine m_bake (At.mk : At 20) ?_
        (apply TB.last; kernel_rfl; exact rfl)
        (apply TL.storeOwn 0 (first + root); exact rfl; exact rfl; exact rfl; exact rfl; exact tb rfl; exact rfl; exact (Nat.zero_add _).symm; exact (by omega))
        refine TL.back (by (focus ((repeat (first | assumption | exact Ent.refl _ | apply Ent.tail)); done))) ?_
        refine m_take (At.mk : At 22) ?_
        (apply TA.one 23; kernel_rfl; exact rfl)
        (apply TL.storeOwn 0 (first + (2 * root + 1)); exact rfl; exact rfl; exact rfl; exact rfl; exact tb rfl; exact rfl; exact (Nat.zero_add _).symm; exact (by omega))
        refine TL.back (by (focus ((repeat (first | assumption | exact Ent.refl _ | apply Ent.tail)); done))) ?_
        refine TA.done (by kernel_rfl) ?_
        refine TK.imp (Δ := DD b c n (swp d (first + root) (first + (2 * root + 1))) :: Γ) (fun _ h => by show all (own _ _ _ _ (nums _ (swp d (first + root) (first + (2 * root + 1))).toList) :: _) _; rw [← swpD]; exact h) ?_
        have hsz : (swp d (first + root) (first + (2 * root + 1))).size = n := (size_swp _ _ _).trans hsz
        clear hcI hcK
        refine m_run ?_
        exact IH (m - 1) _ _ (by omega) ⟨2 * root + 1, _, by omega, by omega, hsz, hX, rfl, rfl, rfl, rfl, rfl⟩
      · refine TA.isT 52 rfl (not_t (decide_eq_false h2)) ?_
        refine TA.done (by kernel_rfl) ?_
        rw [if_pos (by simp [ltInt, h2])] at hX
        rw [hX]
        refine m_run ?_
        (apply TK.ret0; exact rfl; exact rfl)
        exact ⟨_, rfl, rfl, rfl⟩

theorem sift_size (hi first root : Nat) (d : Array Int) (h : first + hi ≤ d.size) : (siftDown ltInt hi first root d).size = d.size := by
  have key : ∀ (N root : Nat) (d : Array Int), hi - root ≤ N → (siftDown ltInt hi first root d).size = d.size := by
    intro N
    induction N with
    | zero => intro root d hN; rw [Sort.siftDown, dif_pos (by omega)]
    | succ N ih =>
      intro root d hN
      rw [Sort.siftDown]
      split
      · rfl
      · split
        · split
          · rfl
          · split
            · rw [ih _ _ (by omega), size_swp]
            · rfl
        · split
          · rfl
          · rw [ih _ _ (by omega), size_swp]
  exact key _ root d (Nat.le_refl _)
set_option maxRecDepth 100000 in
set_option maxHeartbeats 4000000 in
theorem heap_t (b c n a e : Nat) (d0 : Array Int) (Γ : List HP) (hsz0 : d0.size = n) (hae : a < e) (he : e ≤ n) (hn : n ≤ 1000000000) :
    FnV Tryz.prog 161 [.slice (some ⟨b, 0, none⟩) n c, .int .i64 (a : Int), .int .i64 (e : Int)] (DD b c n d0 :: Γ) fun v Γ' => v = .tuple #[] ∧ Γ' = DD b c n (heapSort ltInt d0 a e) :: Γ := by
  refine Fn.enter Tryz.func161 rfl rfl rfl fun E => ?_
  unfold heapSort
  generalize hB : heapBuild ltInt (e - a) a ((e - a - 1) / 2 + 1) d0 = B
  generalize hX : heapPop ltInt a (e - a) B = X
  have hq : IntKind.i64.wrap ((IntKind.i64.wrap (((e - a : Nat) : Int) - 1)).tdiv 2) = (((e - a - 1) / 2 : Nat) : Int) := by
    rw [i64_in (x := ((e - a : Nat) : Int) - 1) (by omega) (by omega), show ((e - a : Nat) : Int) - 1 = ((e - a - 1 : Nat) : Int) by omega, show ((e - a - 1 : Nat) : Int).tdiv 2 = (((e - a - 1) / 2 : Nat) : Int) from rfl, i64_in (by omega) (by omega)]
  refine m_run ?_
  refine TK.know (t := 8) (v := .int .i64 ((e - a : Nat) : Int)) (congrArg (Value.int .i64) (by rw [i64_in (by omega) (by omega)]; omega)) ?_
  refine m_run ?_
  apply TK.iter (fun m ρ' Γ' => ∃ (d : Array Int), m ≤ (e - a - 1) / 2 + 1 ∧ d.size = n ∧ heapBuild ltInt (e - a) a m d = B ∧ lk ρ' 0 = .slice (some ⟨b, 0, none⟩) n c ∧ lk ρ' 6 = .int .i64 (a : Int) ∧ lk ρ' 7 = .int .i64 0 ∧ lk ρ' 8 = .int .i64 ((e - a : Nat) : Int) ∧ lk ρ' 9 = .int .i64 ((m : Int) - 1) ∧ Γ' = DD b c n d :: Γ) ((e - a - 1) / 2 + 1)
  · exact ⟨d0, Nat.le_refl _, hsz0, hB, rfl, rfl, rfl, rfl, congrArg (Value.int .i64) (by
      rw [show IntKind.i64.wrap ((e : Int) - (a : Int)) = ((e - a : Nat) : Int) by rw [i64_in (by omega) (by omega)]; omega, hq]; omega), rfl⟩
  clear hB
  rintro m IH ρ' _ ⟨d, hm, hsz, hB, e0, e6, e7, e8, e9, rfl⟩
  refine TK.know5 e0 e6 e7 e8 e9 ?_
  cases m with
  | succ m =>
    rw [Sort.heapBuild] at hB
    refine TK.know (t := 9) (v := .int .i64 (m : Int)) (congrArg (Value.int .i64) (by omega)) ?_
    refine m_run ?_
    (apply TL.callV; exact rfl; exact callB_of (by kernel_rfl); exact rfl; exact fun _ h => h)
    exact sift_t b c n m (e - a) a d Γ hsz (by omega) (by omega) hn
    rintro _ _ ⟨rfl, rfl⟩
    have hsz : (siftDown ltInt (e - a) a m d).size = n := (sift_size _ _ _ _ (by omega)).trans hsz
    refine m_run ?_
    exact IH m _ _ (by omega) ⟨_, by omega, hsz, hB, rfl, rfl, rfl, rfl, congrArg (Value.int .i64) (by rw [i64_in (by omega) (by omega)]), rfl⟩
  | zero =>
    rw [Sort.heapBuild] at hB
    rw [hB]
    refine TK.know (t := 9) (v := .int .i64 (-1)) (congrArg (Value.int .i64) (by omega)) ?_
    have hszB : B.size = n := hB ▸ hsz
    clear IH hB hsz
    refine m_run ?_
    apply TK.iter (fun m ρ' Γ' => ∃ (d : Array Int), m ≤ e - a ∧ d.size = n ∧ heapPop ltInt a m d = X ∧ lk ρ' 0 = .slice (some ⟨b, 0, none⟩) n c ∧ lk ρ' 6 = .int .i64 (a : Int) ∧ lk ρ' 7 = .int .i64 0 ∧ lk ρ' 10 = .int .i64 ((m : Int) - 1) ∧ Γ' = DD b c n d :: Γ) (e - a)
    · exact ⟨B, Nat.le_refl _, hszB, hX, rfl, rfl, rfl, congrArg (Value.int .i64) (by rw [i64_in (by omega) (by omega)]), rfl⟩
    clear hX
    rintro m IH ρ' _ ⟨d, hm, hsz, hX, e0, e6, e7, e10, rfl⟩
    refine TK.know4 e0 e6 e7 e10 ?_
    cases m with
    | succ m =>
      rw [Sort.heapPop] at hX
      refine TK.know (t := 10) (v := .int .i64 (m : Int)) (congrArg (Value.int .i64) (by omega)) ?_
      refine m_run ?_
      have hcI := cellD (b := b) (c := c) (Γ := Γ) hsz (show a < n by omega)
      have hcK := cellD (b := b) (c := c) (Γ := Γ) hsz (show a + m < n by omega)
      refine TK.drawB mixed rfl 17 (DD b c n d :: Γ) (Γ) ?_
      refine m_bake (At.mk : At 0) ?_; refine m_bake (At.mk : At 1) ?_; refine m_bake (At.mk : At 2) ?_; refine m_bake (At.mk : At 3) ?_; refine m_bake (At.mk : At 4) ?_; refine m_bake (At.mk : At 5) ?_
      refine TB.know (t := 38) (v := .int .i64 ((a + m : Nat) : Int)) (congrArg (Value.int .i64) (by rw [i64_in (by omega) (by omega)]; omega)) ?_
      refine m_bake (At.mk : At 6) ?_; refine m_bake (At.mk : At 7) ?_; refine m_bake (At.mk : At 8) ?_; refine m_bake (At.mk : At 9) ?_
      refine TB.know (t := 42) (v := .int .i64 ((a + m : Nat) : Int)) (congrArg (Value.int .i64) (by rw [i64_in (by omega) (by omega)]; omega)) ?_
      refine m_bake (At.mk : At 10) ?_; refine m_bake (At.mk : At 11) ?_; refine m_bake (At.mk : At 12) ?_; refine m_bake (At.mk : At 13) ?_; refine m_bake (At.mk : At 14) ?_; refine m_bake (At.mk : At 15) ?_; refine m_bake (At.mk : At 16) ?_
      (apply TB.last; kernel_rfl; exact rfl)
      (apply TL.storeOwn 0 (a); exact rfl; exact rfl; exact rfl; exact rfl; exact tb rfl; exact rfl; exact (Nat.zero_add _).symm; exact (by omega))
      refine TL.back (by (focus ((repeat (first | assumption | exact Ent.refl _ | apply Ent.tail)); done))) ?_
      refine m_take (At.mk : At 18) ?_
      (apply TA.one 19; kernel_rfl; exact rfl)
      (apply TL.storeOwn 0 (a + m); exact rfl; exact rfl; exact rfl; exact rfl; exact tb rfl; exact rfl; exact (Nat.zero_add _).symm; exact (by omega))
      refine TL.back (by (focus ((repeat (first | assumption | exact Ent.refl _ | apply Ent.tail)); done))) ?_
      refine TA.done (by kernel_rfl) ?_
      refine TK.imp (Δ := DD b c n (swp d (a) (a + m)) :: Γ) (fun _ h => by show all (own _ _ _ _ (nums _ (swp d (a) (a + m)).toList) :: _) _; rw [← swpD]; exact h) ?_
      have hsz : (swp d (a) (a + m)).size = n := (size_swp _ _ _).trans hsz
      clear hcI hcK
      refine m_run ?_
      (apply TL.callV; exact rfl; exact callB_of (by kernel_rfl); exact rfl; exact fun _ h => h)
      exact sift_t b c n 0 m a _ Γ hsz (by omega) (by omega) hn
      rintro _ _ ⟨rfl, rfl⟩
      have hsz : (siftDown ltInt m a 0 (swp d a (a + m))).size = n := (sift_size _ _ _ _ (by omega)).trans hsz
      refine m_run ?_
      exact IH m _ _ (by omega) ⟨_, by omega, hsz, hX, rfl, rfl, rfl, congrArg (Value.int .i64) (by rw [i64_in (by omega) (by omega)]), rfl⟩
    | zero =>
      rw [Sort.heapPop] at hX
      rw [hX]
      refine TK.know (t := 10) (v := .int .i64 (-1)) (congrArg (Value.int .i64) (by omega)) ?_
      refine m_run ?_
      exact TK.over0 rfl rfl ⟨_, rfl, rfl, rfl⟩

set_option maxRecDepth 100000 in
set_option maxHeartbeats 4000000 in
theorem partEq_t (b c n a e p : Nat) (d0 : Array Int) (Γ : List HP) (hsz0 : d0.size = n) (hap : a ≤ p) (hpe : p < e) (he : e ≤ n) (hn : n ≤ 1000000000) :
    FnV Tryz.prog 167 [.slice (some ⟨b, 0, none⟩) n c, .int .i64 (a : Int), .int .i64 (e : Int), .int .i64 (p : Int)] (DD b c n d0 :: Γ) fun v Γ' => v = .int .i64 ((partitionEqual ltInt d0 a e p).1 : Int) ∧ Γ' = DD b c n (partitionEqual ltInt d0 a e p).2 :: Γ := by
  refine Fn.enter Tryz.func167 rfl rfl rfl fun E => ?_
  unfold partitionEqual
  generalize hX : partEqLoop ltInt a (a + 1) (e - 1) (swp d0 a p) = X
  have hsz := hsz0
  refine m_run ?_
  have hcI := cellD (b := b) (c := c) (Γ := Γ) hsz (show a < n by omega)
  have hcK := cellD (b := b) (c := c) (Γ := Γ) hsz (show p < n by omega)
  refine TK.drawB mixed rfl 13 (DD b c n d0 :: Γ) (Γ) ?_
  refine m_bake (At.mk : At 0) ?_; refine m_bake (At.mk : At 1) ?_; refine m_bake (At.mk : At 2) ?_; refine m_bake (At.mk : At 3) ?_; refine m_bake (At.mk : At 4) ?_; refine m_bake (At.mk : At 5) ?_; refine m_bake (At.mk : At 6) ?_; refine m_bake (At.mk : At 7) ?_; refine m_bake (At.mk : At 8) ?_; refine m_bake (At.mk : At 9) ?_; refine m_bake (At.mk : At 10) ?_; refine m_bake (At.mk : At 11) ?_; refine m_bake (At.mk : At 12) ?_
  (apply TB.last; kernel_rfl; exact rfl)
  (apply TL.storeOwn 0 (a); exact rfl; exact rfl; exact rfl; exact rfl; exact tb rfl; exact rfl; exact (Nat.zero_add _).symm; exact (by omega))
  refine TL.back (by (focus ((repeat (first | assumption | exact Ent.refl _ | apply Ent.tail)); done))) ?_
  refine m_take (At.mk : At 14) ?_
  (apply TA.one 15; kernel_rfl; exact rfl)
  (apply TL.storeOwn 0 (p); exact rfl; exact rfl; exact rfl; exact rfl; exact tb rfl; exact rfl; exact (Nat.zero_add _).symm; exact (by omega))
  refine TL.back (by (focus ((repeat (first | assumption | exact Ent.refl _ | apply Ent.tail)); done))) ?_
  refine TA.done (by kernel_rfl) ?_
  refine TK.imp (Δ := DD b c n (swp d0 (a) (p)) :: Γ) (fun _ h => by show all (own _ _ _ _ (nums _ (swp d0 (a) (p)).toList) :: _) _; rw [← swpD]; exact h) ?_
  have hsz : (swp d0 (a) (p)).size = n := (size_swp _ _ _).trans hsz
  clear hcI hcK
  refine m_run ?_
  apply TK.iter (fun m ρ' Γ' => ∃ (i j : Nat) (d : Array Int), j + 1 - i ≤ m ∧ a + 1 ≤ i ∧ i ≤ j + 1 ∧ j < n ∧ d.size = n ∧ partEqLoop ltInt a i j d = X ∧ lk ρ' 0 = .slice (some ⟨b, 0, none⟩) n c ∧ lk ρ' 1 = .int .i64 (a : Int) ∧ lk ρ' 9 = .int .i64 (i : Int) ∧ lk ρ' 10 = .int .i64 (j : Int) ∧ Γ' = DD b c n d :: Γ) n
  · exact ⟨a + 1, e - 1, _, by omega, by omega, by omega, by omega, hsz, hX, rfl, rfl, congrArg (Value.int .i64) (by rw [i64_in (by omega) (by omega)]; omega), congrArg (Value.int .i64) (by rw [i64_in (by omega) (by omega)]; omega), rfl⟩
  clear hX hsz
  rintro m IH ρ' _ ⟨i, j, d, hm, hi1, hij, hjn, hsz, hX, e0, e1, e9, e10, rfl⟩
  refine TK.know4 e0 e1 e9 e10 ?_
  rw [partEqLoop_eq] at hX
  (repeat (first | refine TK.seq ?_ | refine TK.skip ?_))
  refine TK.block ?_
  (repeat (first | refine TK.seq ?_ | refine TK.skip ?_))
  apply TK.cut (fun ρ' Γ' => lk ρ' 0 = .slice (some ⟨b, 0, none⟩) n c ∧ lk ρ' 1 = .int .i64 (a : Int) ∧ lk ρ' 9 = .int .i64 ((scanUp (fun x => !ltInt d[a]! x) d (j) (i) : Nat) : Int) ∧ lk ρ' 10 = .int .i64 (j : Int) ∧ Γ' = DD b c n d :: Γ)
  · intro k' hk'
    generalize hS : scanUp (fun x => !ltInt d[a]! x) d (j) (i) = I at hk'
    refine m_run ?_
    apply TK.iter (fun m ρ' Γ' => ∃ (x : Nat), (j) + 1 - x ≤ m ∧ (i) ≤ x ∧ x ≤ (j) + 1 ∧ scanUp (fun x => !ltInt d[a]! x) d (j) x = I ∧ lk ρ' 0 = .slice (some ⟨b, 0, none⟩) n c ∧ lk ρ' 1 = .int .i64 (a : Int) ∧ lk ρ' 9 = .int .i64 (x : Int) ∧ lk ρ' 10 = .int .i64 (j : Int) ∧ Γ' = DD b c n d :: Γ) ((j) + 1)
    · exact ⟨i, by omega, Nat.le_refl _, by omega, hS, rfl, rfl, rfl, rfl, rfl⟩
    clear hS
    rintro m IH ρ' _ ⟨x, hm, hx1, hx2, hS, e0, e1, ei, ej, rfl⟩
    refine TK.know4 e0 e1 ei ej ?_
    rw [Sort.scanUp] at hS
    by_cases hx : x ≤ j
    · have hc1 := cellD (b := b) (c := c) (Γ := Γ) hsz (show x < n by omega)
      have hc2 := cellD (b := b) (c := c) (Γ := Γ) hsz (show a < n by omega)
      refine m_run ?_
      refine TK.drawS mixed rfl ?_
      refine m_take (At.mk : At 0) ?_; refine m_take (At.mk : At 1) ?_; refine m_take (At.mk : At 2) ?_
      refine TA.isT 31 rfl (decide_eq_true (by omega)) ?_
      refine m_take (At.mk : At 3) ?_; refine m_take (At.mk : At 4) ?_; refine m_take (At.mk : At 5) ?_; refine m_take (At.mk : At 6) ?_; refine m_take (At.mk : At 7) ?_; refine m_take (At.mk : At 8) ?_; refine m_take (At.mk : At 9) ?_; refine m_take (At.mk : At 10) ?_; refine m_take (At.mk : At 11) ?_
      (apply TA.one 12; kernel_rfl; exact rfl)
      refine m_rrun ?_
      (apply TL.callV; exact rfl; exact callB_of (by kernel_rfl); exact rfl; exact fun _ h => h)
      exact less_t _ _ _
      rintro _ _ ⟨rfl, rfl⟩
      refine TL.back (by (focus ((repeat (first | assumption | exact Ent.refl _ | apply Ent.tail)); done))) ?_
      refine m_take (At.mk : At 13) ?_; refine m_take (At.mk : At 14) ?_
      by_cases h : d[a]! < d[x]!
      · rw [if_neg (by simp [ltInt, h])] at hS
        refine TA.isF 43 rfl (not_f (decide_eq_true h)) ?_
        refine TA.done (by kernel_rfl) ?_
        clear hc1 hc2
        refine m_run ?_
        exact hk' _ _ ⟨rfl, rfl, congrArg (fun z : Nat => Value.int .i64 (z : Int)) hS, rfl, rfl⟩
      · rw [if_pos (by simp [ltInt, h]; omega)] at hS
        refine TA.isT 43 rfl (not_t (decide_eq_false h)) ?_
        refine TA.done (by kernel_rfl) ?_
        clear hc1 hc2
        refine m_run ?_
        exact IH (m - 1) _ _ (by omega) ⟨x + 1, by omega, by omega, by omega, hS, rfl, rfl, congrArg (Value.int .i64) (i64_succ x (by omega)), rfl, rfl⟩
    · rw [if_neg (by simp; omega)] at hS
      refine m_run ?_
      refine TK.drawS mixed rfl ?_
      refine m_take (At.mk : At 0) ?_; refine m_take (At.mk : At 1) ?_; refine m_take (At.mk : At 2) ?_
      refine TA.isF 31 rfl (decide_eq_false (by omega)) ?_
      refine m_take (At.mk : At 3) ?_; refine m_take (At.mk : At 4) ?_; refine m_take (At.mk : At 5) ?_; refine m_take (At.mk : At 6) ?_; refine m_take (At.mk : At 7) ?_; refine m_take (At.mk : At 8) ?_; refine m_take (At.mk : At 9) ?_; refine m_take (At.mk : At 10) ?_; refine m_take (At.mk : At 11) ?_; refine m_take (At.mk : At 12) ?_; refine m_take (At.mk : At 13) ?_; refine m_take (At.mk : At 14) ?_
      refine TA.done (by kernel_rfl) ?_
      refine m_run ?_
      exact hk' _ _ ⟨rfl, rfl, congrArg (fun z : Nat => Value.int .i64 (z : Int)) hS, rfl, rfl⟩
  rintro ρ' _ ⟨e0, e1, ei, ej, rfl⟩
  refine TK.know4 e0 e1 ei ej ?_
  obtain ⟨hs1, hs2, _, hs4⟩ := scanUp_spec (fun x => !ltInt d[a]! x) d j _ i rfl
  have hs2 := hs2 hij
  generalize hI : scanUp (fun x => !ltInt d[a]! x) d j i = i2 at *
  (repeat (first | refine TK.seq ?_ | refine TK.skip ?_))
  apply TK.cut (fun ρ' Γ' => lk ρ' 0 = .slice (some ⟨b, 0, none⟩) n c ∧ lk ρ' 1 = .int .i64 (a : Int) ∧ lk ρ' 9 = .int .i64 (i2 : Int) ∧ lk ρ' 10 = .int .i64 ((scanDown (fun x => ltInt d[a]! x) d (i2) (j) : Nat) : Int) ∧ Γ' = DD b c n d :: Γ)
  · intro k' hk'
    generalize hS : scanDown (fun x => ltInt d[a]! x) d (i2) (j) = J at hk'
    refine m_run ?_
    apply TK.iter (fun m ρ' Γ' => m ≤ j ∧ (i2) ≤ m + 1 ∧ scanDown (fun x => ltInt d[a]! x) d (i2) m = J ∧ lk ρ' 0 = .slice (some ⟨b, 0, none⟩) n c ∧ lk ρ' 1 = .int .i64 (a : Int) ∧ lk ρ' 9 = .int .i64 (i2 : Int) ∧ lk ρ' 10 = .int .i64 (m : Int) ∧ Γ' = DD b c n d :: Γ) (j)
    · exact ⟨Nat.le_refl _, by omega, hS, rfl, rfl, rfl, rfl, rfl⟩
    clear hS
    rintro x IH ρ' _ ⟨hx1, hx2, hS, e0, e1, ei, ej, rfl⟩
    refine TK.know4 e0 e1 ei ej ?_
    by_cases hx : i2 ≤ x
    · obtain ⟨w, rfl⟩ : ∃ w, x = w + 1 := ⟨x - 1, by omega⟩
      rw [Sort.scanDown] at hS
      have hc1 := cellD (b := b) (c := c) (Γ := Γ) hsz (show w + 1 < n by omega)
      have hc2 := cellD (b := b) (c := c) (Γ := Γ) hsz (show a < n by omega)
      refine m_run ?_
      refine TK.drawS mixed rfl ?_
      refine m_take (At.mk : At 0) ?_; refine m_take (At.mk : At 1) ?_; refine m_take (At.mk : At 2) ?_
      refine TA.isT 48 rfl (decide_eq_true (by omega)) ?_
      refine m_take (At.mk : At 3) ?_; refine m_take (At.mk : At 4) ?_; refine m_take (At.mk : At 5) ?_; refine m_take (At.mk : At 6) ?_; refine m_take (At.mk : At 7) ?_; refine m_take (At.mk : At 8) ?_; refine m_take (At.mk : At 9) ?_; refine m_take (At.mk : At 10) ?_; refine m_take (At.mk : At 11) ?_
      (apply TA.one 12; kernel_rfl; exact rfl)
      refine m_rrun ?_
      (apply TL.callV; exact rfl; exact callB_of (by kernel_rfl); exact rfl; exact fun _ h => h)
      exact less_t _ _ _
      rintro _ _ ⟨rfl, rfl⟩
      refine TL.back (by (focus ((repeat (first | assumption | exact Ent.refl _ | apply Ent.tail)); done))) ?_
      refine m_take (At.mk : At 13) ?_
      by_cases h : d[a]! < d[w + 1]!
      · rw [if_pos (by simp [ltInt, h]; omega)] at hS
        refine TA.isT 59 rfl (decide_eq_true h) ?_
        refine TA.done (by kernel_rfl) ?_
        clear hc1 hc2
        refine m_run ?_
        exact IH w _ _ (by omega) ⟨by omega, by omega, hS, rfl, rfl, rfl, congrArg (Value.int .i64) (by rw [i64_in (by omega) (by omega)]; omega), rfl⟩
      · rw [if_neg (by simp [ltInt, h])] at hS
        refine TA.isF 59 rfl (decide_eq_false h) ?_
        refine TA.done (by kernel_rfl) ?_
        clear hc1 hc2
        refine m_run ?_
        exact hk' _ _ ⟨rfl, rfl, rfl, congrArg (fun z : Nat => Value.int .i64 (z : Int)) hS, rfl⟩
    · have hS : x = J := by
        rw [← hS]
        cases x with
        | zero => rw [Sort.scanDown]
        | succ w => rw [Sort.scanDown, if_neg (by simp; omega)]
      refine m_run ?_
      refine TK.drawS mixed rfl ?_
      refine m_take (At.mk : At 0) ?_; refine m_take (At.mk : At 1) ?_; refine m_take (At.mk : At 2) ?_
      refine TA.isF 48 rfl (decide_eq_false (by omega)) ?_
      refine m_take (At.mk : At 3) ?_; refine m_take (At.mk : At 4) ?_; refine m_take (At.mk : At 5) ?_; refine m_take (At.mk : At 6) ?_; refine m_take (At.mk : At 7) ?_; refine m_take (At.mk : At 8) ?_; refine m_take (At.mk : At 9) ?_; refine m_take (At.mk : At 10) ?_; refine m_take (At.mk : At 11) ?_; refine m_take (At.mk : At 12) ?_; refine m_take (At.mk : At 13) ?_
      refine TA.done (by kernel_rfl) ?_
      refine m_run ?_
      exact hk' _ _ ⟨rfl, rfl, rfl, congrArg (fun z : Nat => Value.int .i64 (z : Int)) hS, rfl⟩
  rintro ρ' _ ⟨e0, e1, ei, ej, rfl⟩
  refine TK.know4 e0 e1 ei ej ?_
  obtain ⟨ht1, ht2, _, ht4⟩ := scanDown_spec (fun x => ltInt d[a]! x) d i2 j
  have ht2 := ht2 hs2
  generalize hJ : scanDown (fun x => ltInt d[a]! x) d i2 j = j2 at *
  by_cases hgt : i2 > j2
  · rw [if_pos hgt] at hX
    rw [← hX]
    refine m_run ?_
    (apply TK.ret1; exact rfl; exact rfl; (exact m_val))
    exact ⟨_, rfl, rfl, rfl⟩
  · rw [if_neg hgt] at hX
    have hne : i2 ≠ j2 := fun e => by
      have h1 := hs4 (by omega)
      have h2 := ht4 (by omega) (by omega)
      rw [← e] at h2
      simp only [h2] at h1
      cases h1
    refine m_run ?_
    have hcI := cellD (b := b) (c := c) (Γ := Γ) hsz (show i2 < n by omega)
    have hcK := cellD (b := b) (c := c) (Γ := Γ) hsz (show j2 < n by omega)
    refine TK.drawB mixed rfl 13 (DD b c n d :: Γ) (Γ) ?_
    refine m_bake (At.mk : At 0) ?_; refine m_bake (At.mk : At 1) ?_; refine m_bake (At.mk : At 2) ?_; refine m_bake (At.mk : At 3) ?_; refine m_bake (At.mk : At 4) ?_; refine m_bake (At.mk : At 5) ?_; refine m_bake (At.mk : At 6) ?_; refine m_bake (At.mk : At 7) ?_; refine m_bake (At.mk : At 8) ?_; refine m_bake (At.mk : At 9) ?_; refine m_bake (At.mk : At 10) ?_; refine m_bake (At.mk : At 11) ?_; refine m_bake (At.mk : At 12) ?_
    (apply TB.last; kernel_rfl; exact rfl)
    (apply TL.storeOwn 0 (i2); exact rfl; exact rfl; exact rfl; exact rfl; exact tb rfl; exact rfl; exact (Nat.zero_add _).symm; exact (by omega))
    refine TL.back (by (focus ((repeat (first | assumption | exact Ent.refl _ | apply Ent.tail)); done))) ?_
    refine m_take (At.mk : At 14) ?_
    (apply TA.one 15; kernel_rfl; exact rfl)
    (apply TL.storeOwn 0 (j2); exact rfl; exact rfl; exact rfl; exact rfl; exact tb rfl; exact rfl; exact (Nat.zero_add _).symm; exact (by omega))
    refine TL.back (by (focus ((repeat (first | assumption | exact Ent.refl _ | apply Ent.tail)); done))) ?_
    refine TA.done (by kernel_rfl) ?_
    refine TK.imp (Δ := DD b c n (swp d (i2) (j2)) :: Γ) (fun _ h => by show all (own _ _ _ _ (nums _ (swp d (i2) (j2)).toList) :: _) _; rw [← swpD]; exact h) ?_
    have hsz : (swp d (i2) (j2)).size = n := (size_swp _ _ _).trans hsz
    clear hcI hcK
    refine m_run ?_
    exact IH (m - 1) _ _ (by omega) ⟨i2 + 1, j2 - 1, _, by omega, by omega, by omega, by omega, hsz, hX, rfl, rfl, congrArg (Value.int .i64) (by rw [i64_in (by omega) (by omega)]; omega), congrArg (Value.int .i64) (by rw [i64_in (by omega) (by omega)]; omega), rfl⟩
end Go.Proofs.YthbcfamfaicneaaGreat.E.SI
