/- My own texts, one behind the other: Ng Nh Ni. -/
import Derived.Test.YthbcfamfaicneaaPe6
import Derived.Test.YthbcfamfaicneaaPe5
/- What is said of a depth is said of each greater one: plainly. -/
namespace Go.Proofs.Ythbcfamfaicneaa.E
open Go Go.RowKit
theorem said_enc {l : List Cr} {x : PF} (h : Said (credsC l) x) : 1 ≤ x.1 % 8 ∧ x.1 % 8 ≤ 4 ∧ x.1 < 1073741824 := by
  cases h with
  | base h => exact h.elim
  | step σ hc =>
    obtain ⟨c, _, _, k, _, h1⟩ := creds_iff.1 hc
    obtain ⟨⟨_, h2, h3, h4⟩, _⟩ := one_enc h1
    exact ⟨h2, h3, h4⟩
theorem said_step {l : List Cr} {c : Cr} {k : Nat} {C : PC} (hcl : c ∈ l) (hm : mayCr c = true) (hk : k < 4) (h : OneIs c k C) (σ : Nat → Nat) (hp : ∀ y ∈ C.2.2, Said (credsC l) (instS σ y.2)) : Said (credsC l) (instS σ (C.1, C.2.1)) :=
  .step σ (creds_iff.2 ⟨c, hcl, hm, k, hk, h⟩) (fun y hy _ => hp y hy) (fun y hy hn => by rw [one_pos h y hy] at hn; cases hn)
theorem deeper {l : List Cr} {x : PF} (h : Said (credsC l) x) : x.1 % 8 ≤ 3 → Said (credsC l) (x.1 + 1, x.2) := by
  induction h with
  | base h => exact h.elim
  | step σ hc hpos hn ih =>
    obtain ⟨c, hcl, hm, k, hk4, h1⟩ := creds_iff.1 hc
    intro hx
    have h8 := (one_enc h1).2.1
    have hk : k + 1 ≤ 3 := by rw [← h8]; exact hx
    cases h1 with
    | rule hkd hr hp hn' h3 hb =>
      refine said_step hcl hm (by omega) (.rule hkd hr hp hn' (by omega) hb : OneIs c (k + 1) _) σ fun y hy => ?_
      obtain ⟨z, hz, rfl⟩ := List.mem_map.1 hy
      have hzy : (false, 64 * z.y.a.p + 8 * z.y.a.l.length + 1 + k, z.y.w :: z.y.a.l) ∈ c.r.l.map fun y => ((false, 64 * y.y.a.p + 8 * y.y.a.l.length + 1 + k, y.y.w :: y.y.a.l) : PL) := List.mem_map.2 ⟨z, hz, rfl⟩
      have := ih _ hzy rfl (by
        show (64 * z.y.a.p + 8 * z.y.a.l.length + 1 + k) % 8 ≤ 3
        omega)
      exact this
    | give n d hkd hg hn' h6 hp hk1 h3 hd =>
      obtain ⟨_, _, hd0, hd3⟩ := giveB_of hg
      obtain ⟨d', hd'⟩ : ∃ d' : Nat, (d' : Int) = min (((k + 1 : Nat) : Int) - 1) c.dep := ⟨(min (((k + 1 : Nat) : Int) - 1) c.dep).toNat, by omega⟩
      refine said_step hcl hm (by omega) (.give n d' hkd hg hn' h6 hp (by omega) (by omega) hd' : OneIs c (k + 1) _) σ fun y hy => ?_
      rw [List.mem_singleton.1 hy]
      have hmem := List.mem_singleton.2 (rfl : ((false, 64 * c.p + 8 * n + 1 + d, ⟨false, c.to⟩ :: varsT n) : PL) = _)
      rcases (by omega : d' = d ∨ d' = d + 1) with rfl | rfl
      · exact hpos _ hmem rfl
      · exact ih _ hmem rfl (by show (64 * c.p + 8 * n + 1 + d) % 8 ≤ 3; omega)
def deepen (c : Cr) (e : Int) : Cr := { c with dep := e }
theorem more_said {l : List Cr} {j : Nat} {c : Cr} {e : Int} (hj : l[j]? = some c) (hk2 : c.kind = 2) (hd3 : c.dep < 3) (he : 0 ≤ c.dep → e = c.dep + 1) {x : PF} (h : Said (credsC l) x) : Said (credsC (l.set j (deepen c e))) x := by
  induction h with
  | base h => exact h.elim
  | step σ hc hpos hn ih =>
    obtain ⟨z, hzl, hm, k, hk4, h1⟩ := creds_iff.1 hc
    have hjl := (List.getElem?_eq_some_iff.1 hj).1
    have hc' : deepen c e ∈ l.set j (deepen c e) := List.mem_iff_getElem?.2 ⟨j, by rw [List.getElem?_set, if_pos rfl, if_pos hjl]⟩
    have hih : ∀ y ∈ (_ : PC).2.2, Said (credsC (l.set j (deepen c e))) (instS σ y.2) := fun y hy => ih y hy (one_pos h1 y hy)
    by_cases hz : z ∈ l.set j (deepen c e)
    · exact said_step hz hm hk4 h1 σ hih
    · have hzc : z = c := by
        obtain ⟨i, hi⟩ := List.mem_iff_getElem?.1 hzl
        by_cases hij : j = i
        · subst hij; rw [hj] at hi; exact (Option.some.inj hi).symm
        · exact absurd (List.mem_iff_getElem?.2 ⟨i, by rw [List.getElem?_set, if_neg hij]; exact hi⟩) hz
      subst hzc
      have hg : giveB z = true := by
        rcases mayCr_kind hm with ⟨h, _⟩ | ⟨_, h⟩
        · rw [hk2] at h; cases h
        · exact h
      obtain ⟨_, _, hd0, _⟩ := giveB_of hg
      replace he := he hd0
      have hg' : giveB (deepen z e) = true := by
        unfold giveB at hg ⊢
        simp only [Bool.and_eq_true, decide_eq_true_iff] at hg ⊢
        exact ⟨⟨hg.1.1, by show 0 ≤ e; omega⟩, by show e ≤ 3; omega⟩
      have hm' : mayCr (deepen z e) = true := by
        unfold mayCr at hm ⊢
        simp only [Bool.and_eq_true, Bool.or_eq_true, decide_eq_true_iff] at hm ⊢
        exact ⟨hm.1, .inr ⟨hk2, hg'⟩⟩
      cases h1 with
      | rule hkd => rw [hk2] at hkd; cases hkd
      | give n d hkd _ hn' h6 hp hk1 h3 hd =>
        obtain ⟨d', hd'⟩ : ∃ d' : Nat, (d' : Int) = min ((k : Int) - 1) (deepen z e).dep := ⟨(min ((k : Int) - 1) (z.dep + 1)).toNat, by show _ = min ((k : Int) - 1) e; omega⟩
        have hd2 : (d' : Int) = min ((k : Int) - 1) e := hd'
        refine said_step hc' hm' hk4 (.give n d' hk2 hg' hn' h6 hp hk1 h3 hd' : OneIs (deepen z e) k _) σ fun y hy => ?_
        rw [List.mem_singleton.1 hy]
        have hmem := List.mem_singleton.2 (rfl : ((false, 64 * z.p + 8 * n + 1 + d, ⟨false, z.to⟩ :: varsT n) : PL) = _)
        rcases (by omega : d' = d ∨ d' = d + 1) with rfl | rfl
        · exact hih _ hmem
        · exact deeper (hih _ hmem) (by show (64 * z.p + 8 * n + 1 + d) % 8 ≤ 3; omega)
end Go.Proofs.Ythbcfamfaicneaa.E

/- The chapter's examples of what is said; small credentials: walked. -/
namespace Go.Proofs.Ythbcfamfaicneaa.E
open Go Go.RowKit Go.Proofs
attribute [local irreducible] TK TL TQ TA TB Fn PV
set_option maxRecDepth 100000 in
theorem small21_t (A : Option Addr) (cc : Nat) (l : List Cr) (Γ : List HP) (hs : has Γ (srcAt 15 A l.length (crsC l))) : FnV Try.prog 8 [.slice A l.length cc] Γ fun v Γ' => (∃ b : Bool, v = .bool b ∧ (b = true ↔ l.length ≤ 8 ∧ ∀ x ∈ l, x.r.l.length ≤ 2)) ∧ Γ' = Γ := by
  refine Fn.enter Try.func8 rfl rfl rfl fun E => ?_
  refine m_run ?_
  by_cases h8 : l.length ≤ 8
  rotate_left
  · refine m_run ?_
    (apply TK.ret1; exact rfl; exact rfl; (exact m_val))
    exact ⟨_, rfl, ⟨false, rfl, ⟨fun h => (by cases h), fun h => absurd h.1 h8⟩⟩, rfl⟩
  refine m_run ?_
  apply TK.iter (fun j ρ' Γ' => ∃ i : Nat, i + j = l.length ∧ (∀ x ∈ l.take i, x.r.l.length ≤ 2) ∧ lk ρ' 0 = .slice A l.length cc ∧ lk ρ' 3 = .int .i64 (i : Int) ∧ Γ' = Γ) l.length
  · exact ⟨0, Nat.zero_add _, by simp, rfl, rfl, rfl⟩
  rintro j IH ρ' Γ ⟨i, hij, hg, e0, e3, rfl⟩
  refine TK.know2 e0 e3 ?_
  by_cases hi : i < l.length
  · obtain ⟨x, hx⟩ : ∃ x, l[i]? = some x := ⟨l[i], List.getElem?_eq_getElem hi⟩
    refine TK.mem fun m0 hm0 => ?_
    obtain ⟨g, u, rfl⟩ := src_some (hs m0 hm0) (by rw [crsC_len]; omega)
    clear hm0 m0
    have hc : has Γ (fun m => cellAt m g (u + i * 15 + 10) (.slice x.r.A x.r.l.length x.r.c)) := has_imp (has_el (sz := 15) (f := Cr.cells) (fun _ => rfl) (by decide) hs hx) fun m hm => hm 10 _ rfl
    refine m_run ?_
    by_cases h2 : x.r.l.length ≤ 2
    · refine m_run ?_
      refine IH (j - 1) _ _ (by omega) ⟨i + 1, by omega, fun y hy => ?_, rfl, congrArg (Value.int .i64) (i64_succ i (by omega)), rfl⟩
      rw [List.take_add_one, hx] at hy
      rcases List.mem_append.1 hy with h1 | h1
      · exact hg y h1
      · obtain rfl : y = x := by simpa using h1
        exact h2
    · refine m_run ?_
      (apply TK.ret1; exact rfl; exact rfl; (exact m_val))
      exact ⟨_, rfl, ⟨false, rfl, ⟨fun h => (by cases h), fun h => absurd (h.2 x (List.mem_of_getElem? hx)) h2⟩⟩, rfl⟩
  obtain rfl : i = l.length := by omega
  rw [List.take_length] at hg
  refine m_run ?_
  (apply TK.ret1; exact rfl; exact rfl; (exact m_val))
  exact ⟨_, rfl, ⟨true, rfl, ⟨fun _ => ⟨h8, hg⟩, fun _ => rfl⟩⟩, rfl⟩
def ex21 : Cr := ⟨5, 1, 0, 9, 2, ⟨⟨false, ⟨false, 0⟩, ⟨0, none, 0, []⟩⟩, none, 0, []⟩, 7, 1, 6, 0⟩
theorem ex21_is : credsC [ex21] = [(458, [⟨false, 5⟩, ⟨true, 0⟩], [(false, 457, [⟨false, 6⟩, ⟨true, 0⟩])]), (459, [⟨false, 5⟩, ⟨true, 0⟩], [(false, 457, [⟨false, 6⟩, ⟨true, 0⟩])]), (460, [⟨false, 5⟩, ⟨true, 0⟩], [(false, 457, [⟨false, 6⟩, ⟨true, 0⟩])])] := by decide +kernel
theorem pure_one {C : Cl} {p q : Nat} {T U : List Tm} (h : pureC C = (p, T, [(false, q, U)])) : C.h.p = p ∧ ∃ x, C.l = [x] ∧ x.a.p = q := by
  have h1 : C.h.p = p := congrArg (·.1) h
  have h2 : C.l.map pureL = [(false, q, U)] := congrArg (fun p => p.2.2) h
  obtain ⟨x, t, h3, h4, h5⟩ := List.map_eq_cons_iff.1 h2
  obtain rfl := List.map_eq_nil_iff.1 h5
  exact ⟨h1, x, h3, congrArg (fun p => p.2.1) h4⟩
set_option maxRecDepth 100000 in
set_option maxHeartbeats 8000000 in
theorem works21_t (Γ0 : List HP) : FnV Try.prog 9 [] Γ0 fun v Γ' => v = .bool true ∧ Γ0.Sublist Γ' := by
  refine Fn.enter Try.func9 rfl rfl rfl fun E => ?_
  refine m_run ?_
  (apply TL.callV; exact rfl; exact callB_of (by kernel_rfl); exact rfl; exact fun _ h => h)
  exact pred_t 7 1 false 9 _
  rintro _ Γ0 ⟨rfl, rfl⟩
  refine m_run ?_
  (apply TL.callV; exact rfl; exact callB_of (by kernel_rfl); exact rfl; exact fun _ h => h)
  exact pred_t 7 1 true 2 _
  rintro _ Γ0 ⟨rfl, rfl⟩
  rw [show predS 7 1 false 9 = (456, true) from rfl, show predS 7 1 true 2 = (459, true) from rfl]
  refine m_run ?_
  (apply TL.pv; exact rfl; (apply PV.build tabs; exact rfl; exact rfl; exact rfl; exact rfl; exact rfl; exact (rfl : _ = ex21.cells)))
  (apply TL.buildSlice (l := crsC [ex21]); exact rfl; exact tb rfl; exact rfl; exact tb rfl; exact rfl; exact rfl; exact rfl; exact rfl; exact rfl)
  intro b15
  (apply TL.callV; exact rfl; exact callB_of (by kernel_rfl); exact rfl; exact fun _ h => h)
  refine creds_t (some ⟨b15, 0, none⟩) 1 [ex21] _ ⟨has_src_row 0 rfl rfl, fun x hx => ?_, fun x hx => ?_, by show 1 ≤ 100000; decide⟩ (by show 1 ≤ 1000; decide)
  · rw [List.mem_singleton.1 hx]; exact ⟨⟨has_srcnil _ _, Nat.le_refl _⟩, has_srcnil _ _, Nat.le_refl _, fun x hx => by cases hx⟩
  · rw [List.mem_singleton.1 hx]; exact ⟨by show 0 ≤ 30; decide, by show 0 ≤ 30; decide, fun x hx => by cases hx⟩
  rintro _ Γ1 ⟨L, B, k, rfl, hLk, hL, hok, _, hs1⟩
  rw [ex21_is] at hL
  obtain ⟨C0, L1, rfl, hC0, hL1⟩ := List.map_eq_cons_iff.1 hL
  obtain ⟨C1, L2, rfl, hC1, hL2⟩ := List.map_eq_cons_iff.1 hL1
  obtain ⟨C2, L3, rfl, hC2, hL3⟩ := List.map_eq_cons_iff.1 hL2
  obtain rfl := List.map_eq_nil_iff.1 hL3
  obtain ⟨_, x0, hx0, hp0⟩ := pure_one hC0
  obtain ⟨hh1, x1, hx1, hp1⟩ := pure_one hC1
  have hS0 : Γ0.Sublist Γ1 := (List.Sublist.cons _ (.refl _)).trans hs1
  have ho0 := (hok.2 C0 (by simp)).1.2.1
  have ho1 := (hok.2 C1 (by simp)).1.2.1
  have hsrc := hok.1
  rw [hx0] at ho0
  rw [hx1] at ho1
  refine TL.mem fun m0 hm0 => ?_
  obtain ⟨g, u, rfl⟩ := src_some (hsrc m0 hm0) (by rw [clsC_len]; simp)
  obtain ⟨g0, u0, hg0⟩ := src_some (ho0 m0 hm0) (by rw [ltsC_len]; simp)
  obtain ⟨g1, u1, hg1⟩ := src_some (ho1 m0 hm0) (by rw [ltsC_len]; simp)
  clear hm0 m0
  rw [hg0] at ho0
  rw [hg1] at ho1
  rw [show ([C0, C1, C2] : List Cl).length = 3 from rfl]
  have he0 := has_el (sz := 3) (f := Cl.cells) (fun _ => rfl) (by decide) hsrc (i := 0) (x := C0) rfl
  have he1 := has_el (sz := 3) (f := Cl.cells) (fun _ => rfl) (by decide) hsrc (i := 1) (x := C1) rfl
  have c0 : has Γ1 (fun m => cellAt m g (u + 0 * 3 + 2) (.slice (some ⟨g0, u0, none⟩) 1 C0.c)) := by
    have := has_cell he0 2 (v := .slice C0.A C0.l.length C0.c) rfl
    rwa [hx0, hg0] at this
  have c1 : has Γ1 (fun m => cellAt m g (u + 1 * 3 + 2) (.slice (some ⟨g1, u1, none⟩) 1 C1.c)) := by
    have := has_cell he1 2 (v := .slice C1.A C1.l.length C1.c) rfl
    rwa [hx1, hg1] at this
  have c1p : has Γ1 (fun m => cellAt m g (u + 1 * 3) (.int .u32 (459 : Nat))) := by
    have := has_cell he1 0 (v := .int .u32 (C1.h.p : Int)) rfl
    rwa [hh1] at this
  have d0 : has Γ1 (fun m => cellAt m g0 (u0 + 0 * 3 + 1) (.int .u32 (457 : Nat))) := by
    have := has_cell (has_el (sz := 3) (f := Lt.cells) (fun _ => rfl) (by decide) ho0 (i := 0) (x := x0) rfl) 1 (v := .int .u32 (x0.a.p : Int)) rfl
    rwa [hp0] at this
  have d1 : has Γ1 (fun m => cellAt m g1 (u1 + 0 * 3 + 1) (.int .u32 (457 : Nat))) := by
    have := has_cell (has_el (sz := 3) (f := Lt.cells) (fun _ => rfl) (by decide) ho1 (i := 0) (x := x1) rfl) 1 (v := .int .u32 (x1.a.p : Int)) rfl
    rwa [hp1] at this
  refine m_run ?_
  (apply TK.retS1; exact rfl; exact rfl; (exact m_val))
  exact ⟨_, rfl, rfl, hS0⟩
  exact .refl _
end Go.Proofs.Ythbcfamfaicneaa.E

/- What is said of a depth is said of each greater one: walked. -/
namespace Go.Proofs.Ythbcfamfaicneaa.E
open Go Go.RowKit Go.Proofs
attribute [local irreducible] TK TL TQ TA TB Fn PV
theorem one_body {x : Cr} {k : Nat} {C : PC} (h : OneIs x k C) : C.2.2.length ≤ max x.r.l.length 1 := by
  cases h with
  | rule => show (List.map _ x.r.l).length ≤ _; rw [List.length_map]; omega
  | give => show 1 ≤ _; omega
theorem creds_body {l : List Cr} {L : List Cl} (hL : L.map pureC = credsC l) (hs : ∀ x ∈ l, x.r.l.length ≤ 2) : ∀ c ∈ L, c.l.length ≤ 2 := by
  intro c hc
  have : pureC c ∈ credsC l := by rw [← hL]; exact List.mem_map_of_mem hc
  obtain ⟨x, hx, _, k, _, h⟩ := creds_iff.1 this
  have h1 := one_body h
  have h2 : (pureC c).2.2.length = c.l.length := List.length_map ..
  have h3 := hs x hx
  omega
theorem pow_two {n b : Nat} (h : n ≤ 2) (hb : b ≤ 1001) : b ^ n ≤ 1000000000 := by
  have h1 : b ^ n ≤ 1001 ^ n := Nat.pow_le_pow_left hb n
  have h2 : 1001 ^ n ≤ 1001 ^ 2 := Nat.pow_le_pow_right (by decide) h
  have h3 : 1001 ^ 2 ≤ 1000000000 := by decide
  omega
/-- What the document's model gives of what credentials say. -/
def ModIs (l : List Cr) (most : Nat) (Γ : List HP) (v : Value) (Γ' : List HP) : Prop := Γ.Sublist Γ' ∧ ((∃ (R : List Fct) (A : Option Addr) (k : Nat), v = .tuple #[.slice A R.length k, .int .i64 0] ∧ Fcs A R Γ' ∧ Srt (R.map pf) ∧ R.length ≤ most ∧ ∀ x, x ∈ R.map pf ↔ Said (credsC l) x) ∨
      (v = .tuple #[.slice none 0 0, .int .i64 6] ∧ ∃ M, Srt M ∧ (∀ x ∈ M, Said (credsC l) x) ∧ most < M.length))
theorem model_t (l : List Cr) (L : List Cl) (B : Option Addr) (k : Nat) (most : Nat) (Γ : List HP) (hok : clsOk B L Γ) (hLk : L.length ≤ k) (hL : L.map pureC = credsC l) (hl : l.length ≤ 50) (hs : ∀ x ∈ l, x.r.l.length ≤ 2) (hm : most ≤ 1000) :
    FnV Try.prog 10 [.slice B L.length k, .slice none 0 0, .int .i64 (most : Int)] Γ fun v Γ' => ModIs l most Γ v Γ' := by
  have hb := creds_body hL hs
  have hLl : L.length ≤ 200 := by
    have h1 := congrArg List.length hL
    have h2 := credsC_len l
    rw [List.length_map] at h1
    omega
  have hall := allA_bound (l := L) fun c hc => by have := hb c hc; omega
  refine Fn.mono (ref15_t B none k 0 L [] most Γ hok hLk (by omega) (by omega) (Fcs.nil _) (by decide) (by omega) fun c hc _ => pow_two (hb c hc) (by omega)) ?_
  rintro e Γ' ⟨v, rfl, h⟩
  exact ⟨v, rfl, creds_model hL (by omega) h⟩
set_option maxRecDepth 100000 in
set_option maxHeartbeats 16000000 in
theorem saysDeeper_t (A : Option Addr) (cc : Nat) (l : List Cr) (at_ : Nat) (Γ0 : List HP) (hs0 : has Γ0 (srcAt 15 A l.length (crsC l))) (ho0 : ∀ x ∈ l, x.ok Γ0) (hat : at_ ≤ 255) :
    FnV Try.prog 3 [.slice A l.length cc, .int .u8 (at_ : Int)] Γ0 fun v Γ' => v = .bool true ∧ Γ' = Γ0 := by
  refine Fn.enter Try.func3 rfl rfl rfl fun E => ?_
  refine m_run ?_
  (apply TL.callV; exact rfl; exact callB_of (by kernel_rfl); exact rfl; exact fun _ h => h)
  exact fewCreds_t A cc l _ hs0 ho0
  rintro _ Γ0 ⟨⟨b, rfl, hb⟩, rfl⟩
  cases b with
  | false =>
    refine m_run ?_
    (apply TL.callV; exact rfl; exact callB_of (by kernel_rfl); exact rfl; exact fun _ h => h)
    exact works21_t _
    rintro _ Γ1 ⟨rfl, hs1⟩
    refine m_run ?_
    (apply TK.retS1; exact rfl; exact rfl; (exact m_val))
    exact ⟨_, rfl, rfl, rfl⟩
    exact hs1
  | true =>
  obtain ⟨hl40, hfew⟩ := hb.1 rfl
  refine m_run ?_
  (apply TL.callV; exact rfl; exact callB_of (by kernel_rfl); exact rfl; exact fun _ h => h)
  exact small21_t A cc l _ hs0
  rintro _ Γ0 ⟨⟨b, rfl, hb2⟩, rfl⟩
  cases b with
  | false =>
    refine m_run ?_
    (apply TL.callV; exact rfl; exact callB_of (by kernel_rfl); exact rfl; exact fun _ h => h)
    exact works21_t _
    rintro _ Γ1 ⟨rfl, hs1⟩
    refine m_run ?_
    (apply TK.retS1; exact rfl; exact rfl; (exact m_val))
    exact ⟨_, rfl, rfl, rfl⟩
    exact hs1
  | true =>
  obtain ⟨hl8, hsm⟩ := hb2.1 rfl
  have hC0 : Crs A l Γ0 := ⟨hs0, ho0, hfew, by omega⟩
  refine m_run ?_
  (apply TL.callV; exact rfl; exact callB_of (by kernel_rfl); exact rfl; exact fun _ h => h)
  exact creds_t A cc l _ hC0 (by omega)
  rintro _ Γ1 ⟨L, B, k, rfl, hLk, hL, hok, _, hS1⟩
  refine m_run ?_
  (apply TL.callV; exact rfl; exact callB_of (by kernel_rfl); exact rfl; exact fun _ h => h)
  exact model_t l L B k 200 _ hok hLk hL (by omega) hsm (by decide)
  rintro _ Γ2 ⟨hS2, ⟨R, RA, Rk, rfl, hR, hRS, hRl, hRm⟩ | ⟨rfl, _⟩⟩
  rotate_left
  · refine m_run ?_
    (apply TL.callV; exact rfl; exact callB_of (by kernel_rfl); exact rfl; exact fun _ h => h)
    exact works21_t _
    rintro _ Γ3 ⟨rfl, hS3⟩
    refine m_run ?_
    (apply TK.retS1; exact rfl; exact rfl; (exact m_val))
    exact ⟨_, rfl, rfl, rfl⟩
    exact hS1.trans (hS2.trans hS3)
  have hsaid : ∀ f ∈ R, Said (credsC l) (pf f) := fun f hf => (hRm _).1 (List.mem_map_of_mem hf)
  refine m_run ?_
  apply TK.iter (fun j ρ' Γ' => ∃ i : Nat, i + j = R.length ∧ lk ρ' 0 = .slice A l.length cc ∧ lk ρ' 1 = .int .u8 (at_ : Int) ∧ lk ρ' 5 = .slice RA R.length Rk ∧ lk ρ' 7 = .int .i64 (i : Int) ∧ Γ' = Γ2) R.length
  · exact ⟨0, Nat.zero_add _, rfl, rfl, rfl, rfl, rfl⟩
  rintro j IH ρ' Γ2 ⟨i, hij, e0, e1, e5, e7, rfl⟩
  refine TK.know4 e0 e1 e5 e7 ?_
  by_cases hi : i < R.length
  · obtain ⟨f, hf⟩ : ∃ f, R[i]? = some f := ⟨R[i], List.getElem?_eq_getElem hi⟩
    have hfm := List.mem_of_getElem? hf
    obtain ⟨h81, h84, hp30⟩ := said_enc (hsaid f hfm)
    replace h81 : 1 ≤ f.p % 8 := h81
    replace h84 : f.p % 8 ≤ 4 := h84
    replace hp30 : f.p < 1073741824 := hp30
    have hRs := hR.src
    refine TK.mem fun m0 hm0 => ?_
    obtain ⟨g, u, hg⟩ := src_some (hRs m0 hm0) (by rw [fcsC_len]; omega)
    clear hm0 m0
    subst hg
    have hcf := fct_el hRs hf
    have hcp : has Γ2 (fun m => cellAt m g (u + i * 2) (.int .u32 (f.p : Int))) := has_cell hcf 0 rfl
    have hcl : has Γ2 (fun m => cellAt m g (u + i * 2 + 1) (.slice f.A f.l.length f.c)) := has_cell hcf 1 rfl
    refine m_run ?_
    refine TK.drawS mixed rfl ?_
    refine m_take (At.mk : At 0) ?_; refine m_take (At.mk : At 1) ?_; refine m_take (At.mk : At 2) ?_
    by_cases h3 : f.p % 8 ≤ 3
    · refine TA.isT 56 rfl (decide_eq_true (by omega)) ?_
      refine m_take (At.mk : At 3) ?_; refine m_take (At.mk : At 4) ?_; refine m_take (At.mk : At 5) ?_; refine m_take (At.mk : At 6) ?_; refine m_take (At.mk : At 7) ?_; refine m_take (At.mk : At 8) ?_; refine m_take (At.mk : At 9) ?_
      refine TA.know (t := 63) (v := .int .u32 ((f.p + 1 : Nat) : Int)) (congrArg (Value.int .u32) (by rw [u32_in (by omega) (by omega)]; omega)) ?_
      refine m_take (At.mk : At 10) ?_; refine m_take (At.mk : At 11) ?_; refine m_take (At.mk : At 12) ?_; refine m_take (At.mk : At 13) ?_; refine m_take (At.mk : At 14) ?_
      (apply TA.takeY (At.mk : At 15); exact rfl; exact rfl; exact rfl; exact rfl; exact rfl; kernel_rfl; ((focus ((repeat (first | assumption | exact Ent.refl _ | apply Ent.tail)); done))); (apply PV.build tabs; exact rfl; exact rfl; exact rfl; exact rfl; exact rfl; exact (rfl : _ = Fct.cells ⟨f.p + 1, f.A, f.c, f.l⟩)))
      (apply TA.one 16; kernel_rfl; exact rfl)
      refine m_rrun ?_
      (apply TL.callV; exact rfl; exact callB_of (by kernel_rfl); exact rfl; exact fun _ h => h)
      exact has13_t (some ⟨g, u, none⟩) Rk R ⟨f.p + 1, f.A, f.c, f.l⟩ _ hR (hR.ok f hfm) (by omega)
      rintro _ _ ⟨rfl, rfl⟩
      rw [decide_eq_true ((hRm _).2 (deeper (hsaid f hfm) h3) : pf ⟨f.p + 1, f.A, f.c, f.l⟩ ∈ R.map pf)]
      refine TL.back (by (focus ((repeat (first | assumption | exact Ent.refl _ | apply Ent.tail)); done))) ?_
      refine m_take (At.mk : At 17) ?_; refine m_take (At.mk : At 18) ?_
      refine TA.done (by kernel_rfl) ?_
      refine m_run ?_
      exact IH (j - 1) _ _ (by omega) ⟨i + 1, by omega, rfl, rfl, rfl, congrArg (Value.int .i64) (i64_succ i (by omega)), rfl⟩
    · refine TA.isF 56 rfl (decide_eq_false (by omega)) ?_
      refine m_take (At.mk : At 3) ?_; refine m_take (At.mk : At 4) ?_; refine m_take (At.mk : At 5) ?_; refine m_take (At.mk : At 6) ?_; refine m_take (At.mk : At 7) ?_; refine m_take (At.mk : At 8) ?_; refine m_take (At.mk : At 9) ?_; refine m_take (At.mk : At 10) ?_; refine m_take (At.mk : At 11) ?_; refine m_take (At.mk : At 12) ?_; refine m_take (At.mk : At 13) ?_; refine m_take (At.mk : At 14) ?_; refine m_take (At.mk : At 15) ?_; refine m_take (At.mk : At 16) ?_; refine m_take (At.mk : At 17) ?_; refine m_take (At.mk : At 18) ?_
      refine TA.done (by kernel_rfl) ?_
      refine m_run ?_
      exact IH (j - 1) _ _ (by omega) ⟨i + 1, by omega, rfl, rfl, rfl, congrArg (Value.int .i64) (i64_succ i (by omega)), rfl⟩
  obtain rfl : i = R.length := by omega
  clear IH
  by_cases hl0 : l.length = 0
  · refine m_run ?_
    (apply TL.callV; exact rfl; exact callB_of (by kernel_rfl); exact rfl; exact fun _ h => h)
    exact works21_t _
    rintro _ Γ3 ⟨rfl, hS3⟩
    refine m_run ?_
    (apply TK.retS1; exact rfl; exact rfl; (exact m_val))
    exact ⟨_, rfl, rfl, rfl⟩
    exact hS1.trans (hS2.trans hS3)
  have hC2 := hC0.sub (hS1.trans hS2)
  refine m_run ?_
  (apply TL.buildSlice (l := []); exact rfl; exact tb rfl; exact rfl; exact tb rfl; exact rfl; exact rfl; exact rfl; exact rfl; exact rfl)
  intro b77
  refine m_run ?_
  (apply TL.append 0 (n := 0) (m := l.length) (cs := []) (news := crsC l); exact rfl; exact rfl; exact tb rfl; exact rfl; exact tb rfl; exact rfl; exact rfl; exact rfl)
  · exact fun _ h => own_row (n := 0) rfl (by decide) h
  · exact rfl
  · exact has_tls hC2.src
  · exact crs_one _
  · show (0 + l.length) * 144 ≤ _; omega
  · show 0 + l.length ≤ maxLen; unfold maxLen; omega
  · exact fun _ => (rfl : _ = _ :: _)
  intro B9 k9 hk9
  simp only [Nat.zero_add, List.nil_append] at hk9 ⊢
  refine TL.mem fun m0 hm0 => ?_
  obtain ⟨g9, hg9⟩ := own_addr hm0 (by omega)
  clear hm0 m0
  subst hg9
  obtain ⟨j9, hj9⟩ : ∃ j9, at_ % l.length = j9 := ⟨_, rfl⟩
  have hj : j9 < l.length := by rw [← hj9]; exact Nat.mod_lt _ (by omega)
  obtain ⟨X, hX⟩ : ∃ X, l[j9]? = some X := ⟨l[j9], List.getElem?_eq_getElem hj⟩
  have hown : has (own 48 15 (.slice (some ⟨g9, 0, none⟩) l.length k9) l.length (crsC l) :: Γ2) (srcAt 15 (some ⟨g9, 0, none⟩) l.length (crsC l)) := has_at (up_src _ _ _ _) 0 rfl fun _ h => own_src h
  have hel := has_el (sz := 15) (f := Cr.cells) (fun _ => rfl) (by decide) hown hX
  rw [Nat.zero_add] at hel
  have hck : has (own 48 15 (.slice (some ⟨g9, 0, none⟩) l.length k9) l.length (crsC l) :: Γ2) (fun m => cellAt m g9 (j9 * 15 + 4) (.int .u8 (X.kind : Int))) := has_imp hel fun m hm => hm 4 _ rfl
  have hcd : has (own 48 15 (.slice (some ⟨g9, 0, none⟩) l.length k9) l.length (crsC l) :: Γ2) (fun m => cellAt m g9 (j9 * 15 + 14) (.int .i64 X.dep)) := has_imp hel fun m hm => hm 14 _ rfl
  refine m_run ?_
  refine TL.know (t := 81) (v := .int .i64 ((at_ : Nat) : Int)) (congrArg (Value.int .i64) (i64_in (by omega) (by omega))) ?_
  refine m_run ?_
  (apply TL.pv; exact rfl; (apply PV.remN (n := at_) (m := l.length); exact rfl; exact rfl; exact rfl; exact (by omega)))
  rw [hj9]
  by_cases hgo : X.kind = 2 ∧ X.dep < 3
  rotate_left
  · have hstop : ¬ X.kind = 2 ∨ ¬ X.dep < 3 := by
      by_cases h : X.kind = 2
      · exact .inr fun h' => hgo ⟨h, h'⟩
      · exact .inl h
    by_cases hk2 : X.kind = 2
    · have hd := hstop.resolve_left fun h => h hk2
      refine m_run ?_
      (apply TL.callV; exact rfl; exact callB_of (by kernel_rfl); exact rfl; exact fun _ h => h)
      exact works21_t _
      rintro _ Γ3 ⟨rfl, hS3⟩
      refine m_run ?_
      (apply TK.retS1; exact rfl; exact rfl; (exact m_val))
      exact ⟨_, rfl, rfl, rfl⟩
      exact hS1.trans (hS2.trans ((List.Sublist.cons _ (.refl _)).trans hS3))
    · refine m_run ?_
      (apply TL.callV; exact rfl; exact callB_of (by kernel_rfl); exact rfl; exact fun _ h => h)
      exact works21_t _
      rintro _ Γ3 ⟨rfl, hS3⟩
      refine m_run ?_
      (apply TK.retS1; exact rfl; exact rfl; (exact m_val))
      exact ⟨_, rfl, rfl, rfl⟩
      exact hS1.trans (hS2.trans ((List.Sublist.cons _ (.refl _)).trans hS3))
  obtain ⟨hk2, hd3⟩ := hgo
  refine m_run ?_
  (apply TL.storeOwnF 0 (j9 * 15 + 14) (cs' := crsC (l.set j9 (deepen X (IntKind.i64.wrap (X.dep + 1))))); exact rfl; exact rfl; (exact m_val); exact rfl; exact tb rfl; exact rfl; exact rfl; exact (by omega); exact set_flat Cr.cells 15 (fun _ => rfl) _ _ l _ 14 X hX (by decide) rfl; exact rfl)
  refine TL.imp (Δ := own 48 15 (.slice (some ⟨g9, 0, none⟩) l.length k9) l.length (crsC (l.set j9 (deepen X (IntKind.i64.wrap (X.dep + 1))))) :: Γ2) (fun _ h => h) ?_
  have hXm := List.mem_of_getElem? hX
  have hmem : ∀ x ∈ l.set j9 (deepen X (IntKind.i64.wrap (X.dep + 1))), ∃ y ∈ l, x.r = y.r := fun x hx => by
    rcases List.mem_or_eq_of_mem_set hx with h | h
    · exact ⟨x, h, rfl⟩
    · exact ⟨X, hXm, by rw [h]; rfl⟩
  have hll : (l.set j9 (deepen X (IntKind.i64.wrap (X.dep + 1)))).length = l.length := List.length_set ..
  have hms : ∀ x, Said (credsC l) x → Said (credsC (l.set j9 (deepen X (IntKind.i64.wrap (X.dep + 1))))) x := fun x h => more_said hX hk2 hd3 (fun h0 => i64_in (by omega) (by omega)) h
  have hCm : Crs (some ⟨g9, 0, none⟩) (l.set j9 (deepen X (IntKind.i64.wrap (X.dep + 1)))) (own 48 15 (.slice (some ⟨g9, 0, none⟩) l.length k9) l.length (crsC (l.set j9 (deepen X (IntKind.i64.wrap (X.dep + 1))))) :: Γ2) := by
    refine ⟨by rw [hll]; exact has_at (up_src _ _ _ _) 0 rfl fun _ h => own_src h, fun x hx => ?_, fun x hx => ?_, by omega⟩
    · obtain ⟨y, hy, e⟩ := hmem x hx
      have : Rl.ok y.r (own 48 15 (.slice (some ⟨g9, 0, none⟩) l.length k9) l.length (crsC (l.set j9 (deepen X (IntKind.i64.wrap (X.dep + 1))))) :: Γ2) := Cr.ok_tl (hC2.ok y hy)
      rw [← e] at this
      exact this
    · obtain ⟨y, hy, e⟩ := hmem x hx
      have := hfew y hy
      unfold Cr.few at this ⊢
      rwa [e]
  have hsm' : ∀ x ∈ l.set j9 (deepen X (IntKind.i64.wrap (X.dep + 1))), x.r.l.length ≤ 2 := fun x hx => by
    obtain ⟨y, hy, e⟩ := hmem x hx
    rw [e]; exact hsm y hy
  rw [← hll] at hl40
  have hS2b : Γ2.Sublist (own 48 15 (.slice (some ⟨g9, 0, none⟩) l.length k9) l.length (crsC (l.set j9 (deepen X (IntKind.i64.wrap (X.dep + 1))))) :: Γ2) := .cons _ (.refl _)
  generalize l.set j9 (deepen X (IntKind.i64.wrap (X.dep + 1))) = M at *
  generalize own 48 15 (.slice (some ⟨g9, 0, none⟩) l.length k9) l.length (crsC M) :: Γ2 = Γ3 at *
  refine m_run ?_
  (apply TL.callV; exact rfl; exact callB_of (by kernel_rfl); exact rfl; exact fun _ h => h)
  have hcr := creds_t (some ⟨g9, 0, none⟩) k9 M _ hCm (by omega)
  rw [hll] at hcr
  exact hcr
  rintro _ Γ4 ⟨L2, B2, k2, rfl, hLk2, hL2, hok2, _, hS4⟩
  refine m_run ?_
  (apply TL.callV; exact rfl; exact callB_of (by kernel_rfl); exact rfl; exact fun _ h => h)
  exact model_t M L2 B2 k2 200 _ hok2 hLk2 hL2 (by omega) hsm' (by decide)
  rintro _ Γ5 ⟨hS5, ⟨Q, QA, Qk, rfl, hQ, hQS, hQl, hQm⟩ | ⟨rfl, _⟩⟩
  rotate_left
  · refine m_run ?_
    (apply TL.callV; exact rfl; exact callB_of (by kernel_rfl); exact rfl; exact fun _ h => h)
    exact works21_t _
    rintro _ Γ6 ⟨rfl, hS6⟩
    refine m_run ?_
    (apply TK.retS1; exact rfl; exact rfl; (exact m_val))
    exact ⟨_, rfl, rfl, rfl⟩
    exact hS1.trans (hS2.trans (hS2b.trans (hS4.trans (hS5.trans hS6))))
  have hR5 := hR.sub (hS2b.trans (hS4.trans hS5))
  refine m_run ?_
  apply TK.iter (fun j ρ' Γ' => ∃ i : Nat, i + j = R.length ∧ lk ρ' 5 = .slice RA R.length Rk ∧ lk ρ' 11 = .slice QA Q.length Qk ∧ lk ρ' 13 = .int .i64 (i : Int) ∧ Γ' = Γ5) R.length
  · exact ⟨0, Nat.zero_add _, rfl, rfl, rfl, rfl⟩
  rintro j IH ρ' Γ5 ⟨i, hij, e5, e11, e13, rfl⟩
  refine TK.know3 e5 e11 e13 ?_
  by_cases hi : i < R.length
  · obtain ⟨f, hf⟩ : ∃ f, R[i]? = some f := ⟨R[i], List.getElem?_eq_getElem hi⟩
    have hfm := List.mem_of_getElem? hf
    have hRs := hR5.src
    refine TK.mem fun m0 hm0 => ?_
    obtain ⟨g, u, hg⟩ := src_some (hRs m0 hm0) (by rw [fcsC_len]; omega)
    clear hm0 m0
    subst hg
    have hcf : has Γ5 (fun m => cellsAt m g (u + i * 2) [.int .u32 (f.p : Int), .slice f.A f.l.length f.c]) := fct_el hRs hf
    refine m_run ?_
    (apply TL.callV; exact rfl; exact callB_of (by kernel_rfl); exact rfl; exact fun _ h => h)
    exact has13_t QA Qk Q f _ hQ (hR5.ok f hfm) (by omega)
    rintro _ Γ5 ⟨rfl, rfl⟩
    rw [decide_eq_true ((hQm _).2 (hms _ (hsaid f hfm)))]
    refine m_run ?_
    exact IH (j - 1) _ _ (by omega) ⟨i + 1, by omega, rfl, rfl, congrArg (Value.int .i64) (i64_succ i (by omega)), rfl⟩
  obtain rfl : i = R.length := by omega
  refine m_run ?_
  (apply TL.callV; exact rfl; exact callB_of (by kernel_rfl); exact rfl; exact fun _ h => h)
  exact works21_t _
  rintro _ Γ6 ⟨rfl, hS6⟩
  refine m_run ?_
  (apply TK.retS1; exact rfl; exact rfl; (exact m_val))
  exact ⟨_, rfl, rfl, rfl⟩
  exact hS1.trans (hS2.trans (hS2b.trans (hS4.trans (hS5.trans hS6))))
end Go.Proofs.Ythbcfamfaicneaa.E
