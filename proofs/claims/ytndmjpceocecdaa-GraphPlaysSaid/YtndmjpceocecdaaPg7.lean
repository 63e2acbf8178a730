/- My own texts, one behind the other: Gwj Gwk Grg Gwl Gwn. -/
import Derived.Test.YtndmjpceocecdaaPg6
import Derived.OpenShut
/- The parts in order: walked. -/
namespace Go.Proofs.Ytndmjpceocecdaa.E
open Go Go.RowKit Go.Proofs
attribute [local irreducible] TK TL TQ TA TB Fn PV
/-- What is known while it is found who waits for whom. -/
structure WL (P : Nat → Nat → Prop) (m : Nat) (wl : List Wt) (lr : List Rw) : Prop where
  lw : wl.length = m
  ll : lr.length = m
  get : ∀ (a : Nat) (x : Wt), wl[a]? = some x → ∀ b : Nat, (x.get b = some 1 ∧ P a b) ∨ (x.get b = none ∧ ¬ P a b)
  ok : ∀ (a : Nat) (x : Wt), wl[a]? = some x → Wt.ok x
  row : ∀ (b : Nat) (r : Rw), lr[b]? = some r → (∀ a : Nat, a ∈ r.w ↔ P a b) ∧ r.w.Nodup
theorem WL.congr {P P' : Nat → Nat → Prop} {m : Nat} {wl : List Wt} {lr : List Rw} (h : WL P m wl lr) (e : ∀ a b, P a b ↔ P' a b) : WL P' m wl lr :=
  ⟨h.lw, h.ll, fun a x hx b => by rw [← e]; exact h.get a x hx b, h.ok, fun b r hr => ⟨fun a => by rw [← e]; exact (h.row b r hr).1 a, (h.row b r hr).2⟩⟩
theorem WL.zero {m : Nat} {of : List (Option Nat)} {out : List (List Nat)} : WL (Gph.PQ out of 0 0) m (List.replicate m none) (List.replicate m rw0) :=
  ⟨List.length_replicate, List.length_replicate, fun a x hx b => by
    obtain rfl := List.eq_of_mem_replicate (List.mem_of_getElem? hx)
    exact .inr ⟨rfl, Gph.PQ.zero a b⟩, fun a x hx => by
    obtain rfl := List.eq_of_mem_replicate (List.mem_of_getElem? hx)
    trivial, fun b r hr => by
    obtain rfl := List.eq_of_mem_replicate (List.mem_of_getElem? hr)
    exact ⟨fun a => ⟨fun h => (by cases h), fun h => absurd h (Gph.PQ.zero a b)⟩, List.nodup_nil⟩⟩
/-- One more that waits. -/
theorem WL.add {P P' : Nat → Nat → Prop} {m a b mb : Nat} {wl : List Wt} {lr : List Rw} {es : List (Nat × Nat)} {r r' : Rw} (h : WL P m wl lr) (e : ∀ x y, P' x y ↔ P x y ∨ (x = a ∧ y = b)) (hn : ¬ P a b) (hwa : wl[a]? = some (some (mb, es))) (hes : es.length < 1000000) (hr : lr[b]? = some r) (hr' : r'.w = r.w ++ [a]) :
    WL P' m (wl.set a (some (mb, setE es b 1))) (lr.set b r') := by
  have hla := (List.getElem?_eq_some_iff.1 hwa).1
  have hlb := (List.getElem?_eq_some_iff.1 hr).1
  have hg := h.get a _ hwa
  have hnone : lookE es b = none := by
    rcases hg b with h1 | h1
    · exact absurd h1.2 hn
    · exact h1.1
  refine ⟨by rw [List.length_set]; exact h.lw, by rw [List.length_set]; exact h.ll, fun x y hy z => ?_, fun x y hy => ?_, fun y q hq => ?_⟩
  · rw [List.getElem?_set] at hy
    split at hy
    · rename_i hax
      subst hax
      try rw [if_pos hla] at hy
      injection hy with hy
      subst hy
      show (lookE (setE es b 1) z = some 1 ∧ _) ∨ (lookE (setE es b 1) z = none ∧ _)
      rw [lookE_set, e]
      by_cases hz : z = b
      · rw [if_pos hz]; exact .inl ⟨rfl, .inr ⟨rfl, hz⟩⟩
      · rw [if_neg hz]
        rcases hg z with h1 | h1
        · exact .inl ⟨h1.1, .inl h1.2⟩
        · exact .inr ⟨h1.1, fun hc => hc.elim h1.2 fun hc => hz hc.2⟩
    · rename_i hax
      rw [e]
      rcases h.get x y hy z with h1 | h1
      · exact .inl ⟨h1.1, .inl h1.2⟩
      · exact .inr ⟨h1.1, fun hc => hc.elim h1.2 fun hc => hax hc.1.symm⟩
  · rw [List.getElem?_set] at hy
    split at hy
    · rename_i hax
      subst hax
      try rw [if_pos hla] at hy
      injection hy with hy
      subst hy
      have := h.ok a _ hwa
      refine ⟨?_, ?_⟩
      · show (List.map (·.1) (setE es b 1)).Nodup
        rw [setE_none hnone, List.map_append, List.nodup_append]
        exact ⟨this.1, by simp, fun p hp q hq e' => by
          simp at hq
          subst hq
          exact lookE_none.1 hnone (e' ▸ hp)⟩
      · rw [setE_none hnone]; simp; omega
    · exact h.ok x y hy
  · rw [List.getElem?_set] at hq
    split at hq
    · rename_i hby
      subst hby
      try rw [if_pos hlb] at hq
      injection hq with hq
      subst hq
      obtain ⟨h1, h2⟩ := h.row b r hr
      rw [hr']
      refine ⟨fun x => ?_, ?_⟩
      · rw [List.mem_append, List.mem_singleton, h1, e]
        exact or_congr_right ⟨fun h => ⟨h, rfl⟩, fun h => h.1⟩
      · rw [List.nodup_append]
        exact ⟨h2, by simp, fun p hp q hq e' => by
          rw [List.mem_singleton] at hq
          subst hq
          exact hn ((h1 _).1 (e' ▸ hp))⟩
    · rename_i hby
      obtain ⟨h1, h2⟩ := h.row y q hq
      exact ⟨fun x => by rw [h1, e]; exact ⟨.inl, fun hc => hc.elim id fun hc => absurd hc.2.symm hby⟩, h2⟩
theorem nodup_keys_le {P : Nat → Nat → Prop} {m a mb : Nat} {wl : List Wt} {lr : List Rw} {es : List (Nat × Nat)} (h : WL P m wl lr) (hx : wl[a]? = some (some (mb, es))) (hP : ∀ x y, P x y → x < m ∧ y < m) : es.length ≤ m := by
  have h1 := (h.ok a _ hx).1
  have := Gph.nodup_len (show (es.map (·.1)).Nodup from h1) (n := m) fun y hy => by
    rcases h.get a _ hx y with h2 | h2
    · exact (hP _ _ h2.2).2
    · exact absurd hy (lookE_none.1 h2.1)
  simpa using this
theorem wts0 (n : Nat) {m : Mem} (h : emp m) : alls Wt.h (List.replicate n none) m := by
  induction n with
  | zero => exact h
  | succ n ih => exact ⟨m, fun _ => none, fun _ => .inr rfl, by funext k; simp [Mem.join], h, by
      have : m = fun _ => none := by funext k; exact h k
      rw [← this]; exact ih⟩
set_option maxRecDepth 100000 in
set_option maxHeartbeats 16000000 in
theorem ordered_t (bf oB fB n : Nat) (O P : Option Addr) (oc pc : Nat) (outR rows : List Rw) (of : List (Option Nat)) (Γ : List HP) (h0 : has Γ (fun m => cellAt m bf 0 (.slice O outR.length oc))) (h3 : has Γ (fun m => cellAt m bf 3 (.slice (some ⟨fB, 0, none⟩) n n))) (h4 : has Γ (fun m => cellAt m bf 4 (.slice P rows.length pc)))
    (hO : Rows O outR Γ) (hF : has Γ (srcAt 1 (some ⟨fB, 0, none⟩) n (ofsC of))) (hP : Rows P rows Γ) (hon : outR.length = n) (hn : n ≤ 100000) (hdeg : ∀ r ∈ outR, r.w.length ≤ 1000000) (hrl : rows.length ≤ 100000) (hS : Gph.Split (outR.map Rw.w) of (rows.map Rw.w)) :
    FnV Try.prog 52 [.pointer (some ⟨bf, 0, none⟩)] Γ
      fun v Γ' => ∃ (Q : Option Addr) (qc : Nat) (L : List Rw), v = .slice Q L.length qc ∧ Gph.IsParts (Gph.Edge (outR.map Rw.w)) n (L.map Rw.w) ∧ (∀ r ∈ L, r ∈ rows) ∧ (own 54 1 (.slice Q L.length qc) L.length (L.map Rw.v) :: Γ).Sublist Γ' := by
  have hof : ∀ v k, of.getD v none = some k → of[v]? = some (some k) := fun v k h => by
    rw [List.getD_eq_getElem?_getD] at h
    cases hv : of[v]? with
    | none => rw [hv] at h; cases h
    | some x => rw [hv] at h; simp only [Option.getD_some] at h; rw [h]
  have hEg : ∀ {a : Nat} {r : Rw}, outR[a]? = some r → (outR.map Rw.w).getD a [] = r.w := fun {a r} h => by
    rw [List.getD_eq_getElem?_getD, List.getElem?_map, h]; rfl
  refine Fn.enter Try.func52 rfl rfl rfl fun E => ?_
  refine m_run ?_
  (apply TL.box; exact rfl; exact rfl; (exact m_lst))
  intro b1
  refine m_run ?_
  (apply TL.makeN (n := rows.length) (c := rows.length); exact rfl; exact rfl; exact rfl; exact tb rfl; exact rfl; exact tb rfl; exact rfl; exact rfl; exact Nat.le_refl _; exact (show 8 * rows.length ≤ _ by omega); exact (show rows.length ≤ maxLen by unfold maxLen; omega))
  intro wB
  refine m_run ?_
  (apply TL.makeN (n := rows.length) (c := rows.length); exact rfl; exact rfl; exact rfl; exact tb rfl; exact rfl; exact tb rfl; exact rfl; exact rfl; exact Nat.le_refl _; exact (show 24 * rows.length ≤ _ by omega); exact (show rows.length ≤ maxLen by unfold maxLen; omega))
  intro lB
  refine m_run ?_
  refine TK.free (H := alls (Rw.h 3) (List.replicate rows.length rw0)) (fun m hm => rws0 _ _ hm) ?_
  refine TK.free (H := alls Wt.h (List.replicate rows.length none)) (fun m hm => wts0 _ hm) ?_
  refine TK.imp (Δ := own 121 1 (.slice (some ⟨wB, 0, none⟩) rows.length rows.length) rows.length ((List.replicate rows.length none).map Wt.v) :: alls Wt.h (List.replicate rows.length none) :: own 54 1 (.slice (some ⟨lB, 0, none⟩) rows.length rows.length) rows.length ((List.replicate rows.length rw0).map Rw.v) :: alls (Rw.h 3) (List.replicate rows.length rw0) :: row b1 [.pointer (some ⟨bf, 0, none⟩)] 81 :: Γ) (fun m hm => ?_) ?_
  · have h5 := all_perm (List.Perm.trans (List.Perm.cons _ (List.Perm.trans (List.Perm.cons _ (List.Perm.swap _ _ _)) (List.Perm.trans (List.Perm.swap _ _ _) (List.Perm.refl _)))) (List.Perm.trans (List.Perm.swap _ _ _) (List.Perm.cons _ (List.Perm.cons _ (List.Perm.swap _ _ _))))) hm
    rw [show (List.replicate rows.length (none : Wt)).map Wt.v = List.replicate rows.length (.map none) by rw [List.map_replicate]; rfl, show (List.replicate rows.length rw0).map Rw.v = List.replicate rows.length (.slice none 0 0) by rw [List.map_replicate]; rfl]
    exact h5
  apply TK.iter (fun j ρ' Γ' => ∃ (i : Nat) (wl : List Wt) (lr : List Rw) (Γ2 : List HP), i + j = n ∧ Γ.Sublist Γ2 ∧ WL (Gph.PQ (outR.map Rw.w) of i 0) rows.length wl lr ∧ lk ρ' 1 = .pointer (some ⟨b1, 0, none⟩) ∧ lk ρ' 3 = .slice (some ⟨wB, 0, none⟩) rows.length rows.length ∧ lk ρ' 4 = .slice (some ⟨lB, 0, none⟩) rows.length rows.length ∧ lk ρ' 34 = .slice O outR.length oc ∧ lk ρ' 35 = .int .i64 (outR.length : Int) ∧ lk ρ' 36 = .int .i64 (i : Int) ∧ Γ' = own 121 1 (.slice (some ⟨wB, 0, none⟩) rows.length rows.length) rows.length (wl.map Wt.v) :: alls Wt.h wl :: own 54 1 (.slice (some ⟨lB, 0, none⟩) rows.length rows.length) rows.length (lr.map Rw.v) :: alls (Rw.h 3) lr :: row b1 [.pointer (some ⟨bf, 0, none⟩)] 81 :: Γ2) n
  · exact ⟨0, _, _, Γ, Nat.zero_add _, .refl _, WL.zero, rfl, rfl, rfl, rfl, rfl, rfl, rfl⟩
  rintro j IH ρ' _ ⟨i, wl, lr, Γ2, hij, hs2, hW, e1, e3, e4, e34, e35, e36, rfl⟩
  refine TK.know6 e1 e3 e4 e34 e35 e36 ?_
  by_cases hi : i < outR.length
  · obtain ⟨r, hr⟩ : ∃ r, outR[i]? = some r := ⟨outR[i], List.getElem?_eq_getElem hi⟩
    have hrl' := hdeg r (List.mem_of_getElem? hr)
    obtain ⟨a, ha⟩ := hS.whole i (by rw [List.length_map]; exact hi)
    have hal := hS.lt ha
    rw [List.length_map] at hal
    have hO1 := ((((((hO.sub hs2).tl (H := row b1 [.pointer (some ⟨bf, 0, none⟩)] 81)).tl (H := alls (Rw.h 3) lr)).tl (H := own 54 1 (.slice (some ⟨lB, 0, none⟩) rows.length rows.length) rows.length (lr.map Rw.v))).tl (H := alls Wt.h wl)).tl (H := own 121 1 (.slice (some ⟨wB, 0, none⟩) rows.length rows.length) rows.length (wl.map Wt.v)))
    refine TK.mem fun m0 hm0 => ?_
    obtain ⟨gO, oO, rfl⟩ := hO1.some hm0 (by omega)
    clear hm0 m0
    have hcr := hO1.v rfl hr
    refine m_run ?_
    apply TK.iter (fun j2 ρ' Γ' => ∃ (k : Nat) (wl : List Wt) (lr : List Rw) (Γ2 : List HP), k + j2 = r.w.length ∧ Γ.Sublist Γ2 ∧ WL (Gph.PQ (outR.map Rw.w) of i k) rows.length wl lr ∧ lk ρ' 1 = .pointer (some ⟨b1, 0, none⟩) ∧ lk ρ' 3 = .slice (some ⟨wB, 0, none⟩) rows.length rows.length ∧ lk ρ' 4 = .slice (some ⟨lB, 0, none⟩) rows.length rows.length ∧ lk ρ' 5 = .int .i64 (i : Int) ∧ lk ρ' 34 = .slice (some ⟨gO, oO, none⟩) outR.length oc ∧ lk ρ' 35 = .int .i64 (outR.length : Int) ∧ lk ρ' 36 = .int .i64 (i : Int) ∧ lk ρ' 41 = r.v ∧ lk ρ' 42 = .int .i64 (r.w.length : Int) ∧ lk ρ' 43 = .int .i64 (k : Int) ∧ Γ' = own 121 1 (.slice (some ⟨wB, 0, none⟩) rows.length rows.length) rows.length (wl.map Wt.v) :: alls Wt.h wl :: own 54 1 (.slice (some ⟨lB, 0, none⟩) rows.length rows.length) rows.length (lr.map Rw.v) :: alls (Rw.h 3) lr :: row b1 [.pointer (some ⟨bf, 0, none⟩)] 81 :: Γ2) r.w.length
    · exact ⟨0, wl, lr, Γ2, Nat.zero_add _, hs2, hW, rfl, rfl, rfl, rfl, rfl, rfl, rfl, rfl, rfl, rfl, rfl⟩
    clear hW hs2 hO1 hcr e1 e3 e4 e34 e35 e36 wl lr Γ2
    rintro j2 IH2 ρ' _ ⟨k, wl, lr, Γ2, hkj, hs2, hW, e1, e3, e4, e5, e34, e35, e36, e41, e42, e43, rfl⟩
    refine TK.know10 e1 e3 e4 e5 e34 e35 e36 e41 e42 e43 ?_
    by_cases hk : k < r.w.length
    · obtain ⟨w, hw⟩ : ∃ w, r.w[k]? = some w := ⟨r.w[k], List.getElem?_eq_getElem hk⟩
      have hE : Gph.Edge (outR.map Rw.w) i w := by
        unfold Gph.Edge
        rw [hEg hr]
        exact List.mem_of_getElem? hw
      have hwn : w < outR.length := by have := hS.ok _ _ hE; rwa [List.length_map] at this
      obtain ⟨b, hb⟩ := hS.whole w (by rw [List.length_map]; exact hwn)
      have hbl := hS.lt hb
      rw [List.length_map] at hbl
      have hPQ := Gph.PQ.succ (of := of) (by rw [hEg hr]; exact hw) ha hb
      have hPb : ∀ x y, Gph.PQ (outR.map Rw.w) of i k x y → x < rows.length ∧ y < rows.length := fun x y ⟨_, v, u, _, h1, h2⟩ => by
        have g1 := hS.lt h1
        have g2 := hS.lt h2
        rw [List.length_map] at g1 g2
        exact ⟨g1, g2⟩
      have hrow : has (own 121 1 (.slice (some ⟨wB, 0, none⟩) rows.length rows.length) rows.length ((wl).map Wt.v) :: alls Wt.h (wl) :: own 54 1 (.slice (some ⟨lB, 0, none⟩) rows.length rows.length) rows.length ((lr).map Rw.v) :: alls (Rw.h 3) (lr) :: row b1 [.pointer (some ⟨bf, 0, none⟩)] 81 :: Γ2) (srcAt 1 r.A r.w.length (ints r.w)) := has_tls (has_tls (has_tls (has_tls (has_tls (has_sublist (up_src _ _ _ _) hs2 (hO.row r (List.mem_of_getElem? hr)))))))
      refine TK.mem fun m0 hm0 => ?_
      obtain ⟨gr, or_, hrA⟩ := src_some (hrow m0 hm0) (by rw [ints_len]; omega)
      clear hm0 m0
      rw [hrA] at hrow
      refine TK.know (t := 41) (v := .slice (some ⟨gr, or_, none⟩) r.w.length r.c) (show r.v = _ by unfold Rw.v; rw [hrA]) ?_
      have hv41 : Value.slice (some ⟨gr, or_, none⟩) r.w.length r.c = r.v := by unfold Rw.v; rw [hrA]
      have hcw := has_ints hrow hw
      have g3 : has (own 121 1 (.slice (some ⟨wB, 0, none⟩) rows.length rows.length) rows.length ((wl).map Wt.v) :: alls Wt.h (wl) :: own 54 1 (.slice (some ⟨lB, 0, none⟩) rows.length rows.length) rows.length ((lr).map Rw.v) :: alls (Rw.h 3) (lr) :: row b1 [.pointer (some ⟨bf, 0, none⟩)] 81 :: Γ2) (fun m => cellAt m bf 3 (.slice (some ⟨fB, 0, none⟩) n n)) := has_tlc (has_tlc (has_tlc (has_tlc (has_tlc (has_sublist (up_cell _ _ _) hs2 h3)))))
      have gF : has (own 121 1 (.slice (some ⟨wB, 0, none⟩) rows.length rows.length) rows.length ((wl).map Wt.v) :: alls Wt.h (wl) :: own 54 1 (.slice (some ⟨lB, 0, none⟩) rows.length rows.length) rows.length ((lr).map Rw.v) :: alls (Rw.h 3) (lr) :: row b1 [.pointer (some ⟨bf, 0, none⟩)] 81 :: Γ2) (srcAt 1 (some ⟨fB, 0, none⟩) n (ofsC of)) := has_tls (has_tls (has_tls (has_tls (has_tls (has_sublist (up_src _ _ _ _) hs2 hF)))))
      have ga : has (own 121 1 (.slice (some ⟨wB, 0, none⟩) rows.length rows.length) rows.length ((wl).map Wt.v) :: alls Wt.h (wl) :: own 54 1 (.slice (some ⟨lB, 0, none⟩) rows.length rows.length) rows.length ((lr).map Rw.v) :: alls (Rw.h 3) (lr) :: row b1 [.pointer (some ⟨bf, 0, none⟩)] 81 :: Γ2) (fun m => cellAt m fB (0 + i) (.int .i64 (a : Int))) := has_v gF (by rw [List.getElem?_map, hof i a ha]; rfl)
      have gb : has (own 121 1 (.slice (some ⟨wB, 0, none⟩) rows.length rows.length) rows.length ((wl).map Wt.v) :: alls Wt.h (wl) :: own 54 1 (.slice (some ⟨lB, 0, none⟩) rows.length rows.length) rows.length ((lr).map Rw.v) :: alls (Rw.h 3) (lr) :: row b1 [.pointer (some ⟨bf, 0, none⟩)] 81 :: Γ2) (fun m => cellAt m fB (0 + w) (.int .i64 (b : Int))) := has_v gF (by rw [List.getElem?_map, hof w b hb]; rfl)
      rw [Nat.zero_add] at ga gb
      refine m_run ?_
      refine TK.drawS mixed rfl ?_
      refine m_take (At.mk : At 0) ?_; refine m_take (At.mk : At 1) ?_; refine m_take (At.mk : At 2) ?_; refine m_take (At.mk : At 3) ?_; refine m_take (At.mk : At 4) ?_; refine m_take (At.mk : At 5) ?_; refine m_take (At.mk : At 6) ?_; refine m_take (At.mk : At 7) ?_; refine m_take (At.mk : At 8) ?_; refine m_take (At.mk : At 9) ?_; refine m_take (At.mk : At 10) ?_; refine m_take (At.mk : At 11) ?_; refine m_take (At.mk : At 12) ?_; refine m_take (At.mk : At 13) ?_; refine m_take (At.mk : At 14) ?_; refine m_take (At.mk : At 15) ?_
      refine TA.done (by kernel_rfl) ?_
      by_cases hab : a = b
      · refine m_run ?_
        exact IH2 (j2 - 1) _ _ (by omega) ⟨k + 1, wl, lr, Γ2, by omega, hs2, hW.congr (fun x y => by rw [hPQ]; exact ⟨.inl, fun h => h.elim id fun h => absurd hab h.2.2⟩), rfl, rfl, rfl, rfl, rfl, rfl, rfl, hv41, rfl, congrArg (Value.int .i64) (i64_succ k (by omega)), rfl⟩
      obtain ⟨x, hx⟩ : ∃ x, wl[a]? = some x := ⟨wl[a]'(by rw [hW.lw]; exact hal), List.getElem?_eq_getElem _⟩
      obtain ⟨q, hq⟩ : ∃ q, lr[b]? = some q := ⟨lr[b]'(by rw [hW.ll]; exact hbl), List.getElem?_eq_getElem _⟩
      have hql : q.w.length ≤ rows.length := by
        obtain ⟨h1, h2⟩ := hW.row b q hq
        exact Gph.nodup_len h2 fun y hy => (hPb _ _ ((h1 y).1 hy)).1
      have hcx : has (own 121 1 (.slice (some ⟨wB, 0, none⟩) rows.length rows.length) rows.length ((wl).map Wt.v) :: alls Wt.h (wl) :: own 54 1 (.slice (some ⟨lB, 0, none⟩) rows.length rows.length) rows.length ((lr).map Rw.v) :: alls (Rw.h 3) (lr) :: row b1 [.pointer (some ⟨bf, 0, none⟩)] 81 :: Γ2) (fun m => cellAt m wB (0 + a) x.v) := has_v (has_at (up_src 1 (some ⟨wB, 0, none⟩) rows.length (wl.map Wt.v)) 0 rfl fun _ h => own_src h) (by rw [List.getElem?_map, hx]; rfl)
      rw [Nat.zero_add] at hcx
      have hgx := hW.get a x hx b
      cases x with
      | none =>
        have hno : ¬ Gph.PQ (outR.map Rw.w) of i k a b := by
          rcases hgx with h | h
          · cases h.1
          · exact h.2
        unfold Wt.v at hcx
        simp only at hcx
        refine m_run ?_
        (apply TL.pv; exact rfl; (apply PV.look0 (kv := iN) (k := b) keyI; exact tb rfl; exact rfl; exact ⟨_, (tb rfl : TabOk Try.prog 3 _).1⟩; exact (tb rfl : TabOk Try.prog 3 _); exact rfl; exact rfl))
        refine m_run ?_
        (apply TL.makeMap iN iN; exact rfl)
        intro mb
        refine m_run ?_
        (apply TL.storeOwn 1 a; exact rfl; exact rfl; (exact m_val); exact rfl; exact tb rfl; exact rfl; exact (Nat.zero_add _).symm; exact hal)
        have hW2 : WL (Gph.PQ (outR.map Rw.w) of i k) rows.length (wl.set a (some (mb, []))) lr := by
          refine ⟨by rw [List.length_set]; exact hW.lw, hW.ll, fun y z hz c => ?_, fun y z hz => ?_, hW.row⟩
          · rw [List.getElem?_set] at hz
            split at hz
            · rename_i hy
              subst hy
              try rw [if_pos (List.getElem?_eq_some_iff.1 hx).1] at hz
              injection hz with hz
              subst hz
              exact hW.get a none hx c
            · exact hW.get y z hz c
          · rw [List.getElem?_set] at hz
            split at hz
            · rename_i hy
              subst hy
              try rw [if_pos (List.getElem?_eq_some_iff.1 hx).1] at hz
              injection hz with hz
              subst hz
              exact ⟨List.nodup_nil, Nat.zero_le _⟩
            · exact hW.ok y z hz
        refine TL.imp (Δ := own 121 1 (.slice (some ⟨wB, 0, none⟩) rows.length rows.length) rows.length ((wl.set a (some (mb, []))).map Wt.v) :: alls Wt.h (wl.set a (some (mb, []))) :: own 54 1 (.slice (some ⟨lB, 0, none⟩) rows.length rows.length) rows.length ((lr).map Rw.v) :: alls (Rw.h 3) (lr) :: row b1 [.pointer (some ⟨bf, 0, none⟩)] 81 :: Γ2) (fun m hm => ?_) ?_
        · have h5 := all_out3 (f := Wt.h) (Δ := [_, _]) hx hm
          have h6 := sep_of_emp (sep_comm h5)
          rw [show (wl.map Wt.v).set a (.map (some mb)) = (wl.set a (some (mb, []))).map Wt.v by rw [List.map_set]; rfl] at h6
          exact all_in3 (f := Wt.h) (Δ := [_]) (some (mb, [])) hx h6
        have hx2 : (wl.set a (some (mb, [])))[a]? = some (some (mb, [])) := by rw [List.getElem?_set_self (List.getElem?_eq_some_iff.1 hx).1]
        have hcx2 : has (own 121 1 (.slice (some ⟨wB, 0, none⟩) rows.length rows.length) rows.length ((wl.set a (some (mb, []))).map Wt.v) :: alls Wt.h (wl.set a (some (mb, []))) :: own 54 1 (.slice (some ⟨lB, 0, none⟩) rows.length rows.length) rows.length ((lr).map Rw.v) :: alls (Rw.h 3) (lr) :: row b1 [.pointer (some ⟨bf, 0, none⟩)] 81 :: Γ2) (fun m => cellAt m wB (0 + a) (.map (some mb))) := has_v (has_at (up_src 1 (some ⟨wB, 0, none⟩) rows.length ((wl.set a (some (mb, []))).map Wt.v)) 0 rfl fun _ h => own_src h) (by rw [List.getElem?_map, hx2]; rfl)
        rw [Nat.zero_add] at hcx2
        refine m_run ?_
        refine TL.imp (Δ := mapA iN iN mb [] :: own 121 1 (.slice (some ⟨wB, 0, none⟩) rows.length rows.length) rows.length ((wl.set a (some (mb, []))).map Wt.v) :: alls Wt.h ((wl.set a (some (mb, []))).eraseIdx a) :: own 54 1 (.slice (some ⟨lB, 0, none⟩) rows.length rows.length) rows.length (lr.map Rw.v) :: alls (Rw.h 3) lr :: row b1 [.pointer (some ⟨bf, 0, none⟩)] 81 :: Γ2) (fun m hm => all_out3 (Δ := [_]) hx2 hm) ?_
        (apply TL.mapPut 0 (kv := iN) (vv := iN) (es := []) (k := b) (nv := 1); exact rfl; exact keyI; exact tb rfl; exact rfl; exact ⟨_, (tb rfl : TabOk Try.prog 3 _).1⟩; exact rfl; exact rfl; exact rfl; exact rfl)
        refine TL.imp (Δ := own 121 1 (.slice (some ⟨wB, 0, none⟩) rows.length rows.length) rows.length ((wl.set a (some (mb, []))).map Wt.v) :: alls Wt.h ((wl.set a (some (mb, []))).set a (some (mb, setE [] b 1))) :: own 54 1 (.slice (some ⟨lB, 0, none⟩) rows.length rows.length) rows.length (lr.map Rw.v) :: alls (Rw.h 3) lr :: row b1 [.pointer (some ⟨bf, 0, none⟩)] 81 :: Γ2) (fun m hm => all_in3 (f := Wt.h) (Δ := [_]) (some (mb, setE [] b 1)) hx2 hm) ?_
        rw [← wt_set (y := some (mb, setE [] b 1)) hx2 rfl]
        have hcl2 : has (own 121 1 (.slice (some ⟨wB, 0, none⟩) rows.length rows.length) rows.length (((wl.set a (some (mb, []))).set a (some (mb, setE [] b 1))).map Wt.v) :: alls Wt.h ((wl.set a (some (mb, []))).set a (some (mb, setE [] b 1))) :: own 54 1 (.slice (some ⟨lB, 0, none⟩) rows.length rows.length) rows.length ((lr).map Rw.v) :: alls (Rw.h 3) (lr) :: row b1 [.pointer (some ⟨bf, 0, none⟩)] 81 :: Γ2) (fun m => cellAt m lB (0 + b) q.v) := has_v (has_at (up_src 1 (some ⟨lB, 0, none⟩) rows.length (lr.map Rw.v)) 2 rfl fun _ h => own_src h) (by rw [List.getElem?_map, hq]; rfl)
        rw [Nat.zero_add] at hcl2
        refine m_run ?_
        (apply TL.buildSlice (l := ints [a]); exact rfl; exact tb rfl; exact rfl; exact tb rfl; exact rfl; exact rfl; exact rfl; exact rfl; exact rfl)
        intro b94
        refine TL.imp (Δ := q.h 3 :: row b94 (ints [a]) 3 :: own 121 1 (.slice (some ⟨wB, 0, none⟩) rows.length rows.length) rows.length (((wl.set a (some (mb, []))).set a (some (mb, setE [] b 1))).map Wt.v) :: alls Wt.h ((wl.set a (some (mb, []))).set a (some (mb, setE [] b 1))) :: own 54 1 (.slice (some ⟨lB, 0, none⟩) rows.length rows.length) rows.length (lr.map Rw.v) :: alls (Rw.h 3) (lr.eraseIdx b) :: row b1 [.pointer (some ⟨bf, 0, none⟩)] 81 :: Γ2) (fun m hm => all_out3 (Δ := [_, _, _, _]) hq hm) ?_
        refine m_run ?_
        (apply TL.append 0 (n := q.w.length) (m := 1) (cs := ints q.w) (news := ints [a]); exact rfl; exact rfl; exact tb rfl; exact rfl; exact tb rfl; exact rfl; exact rfl; exact rfl)
        · exact fun _ h => h
        · exact rfl
        · exact has_src_row 1 rfl rfl
        · exact ints_one [a]
        · show (q.w.length + 1) * 8 ≤ _; omega
        · show q.w.length + 1 ≤ maxLen; unfold maxLen; omega
        · exact fun _ => (rfl : _ = _ :: _)
        intro A2 c2 hc2
        refine m_run ?_
        (apply TL.storeOwn 4 b; exact rfl; exact rfl; (exact m_val); exact rfl; exact tb rfl; exact rfl; exact (Nat.zero_add _).symm; exact hbl)
        refine TL.imp (Δ := own 121 1 (.slice (some ⟨wB, 0, none⟩) rows.length rows.length) rows.length (((wl.set a (some (mb, []))).set a (some (mb, setE [] b 1))).map Wt.v) :: alls Wt.h ((wl.set a (some (mb, []))).set a (some (mb, setE [] b 1))) :: own 54 1 (.slice (some ⟨lB, 0, none⟩) rows.length rows.length) rows.length ((lr.set b ⟨A2, c2, q.w ++ [a]⟩).map Rw.v) :: alls (Rw.h 3) (lr.set b ⟨A2, c2, q.w ++ [a]⟩) :: row b1 [.pointer (some ⟨bf, 0, none⟩)] 81 :: row b94 (ints [a]) 3 :: Γ2) (fun m hm => ?_) ?_
        · rw [show own 3 1 (.slice A2 (q.w.length + 1) c2) (q.w.length + 1) (ints q.w ++ ints [a]) = Rw.h 3 ⟨A2, c2, q.w ++ [a]⟩ by simp [Rw.h, Rw.v], show (lr.map Rw.v).set b (.slice A2 (q.w.length + 1) c2) = (lr.set b ⟨A2, c2, q.w ++ [a]⟩).map Rw.v by rw [List.map_set]; simp [Rw.v]] at hm
          exact all_perm (List.perm_middle (l₁ := [_, _, _, _, _])).symm (all_in3 (f := Rw.h 3) (Δ := [_, _, _, _]) ⟨A2, c2, q.w ++ [a]⟩ hq hm)
        refine m_run ?_
        refine IH2 (j2 - 1) _ _ (by omega) ⟨k + 1, _, _, _, by omega, .cons _ hs2, WL.add hW2 (fun x y => by rw [hPQ]; exact or_congr_right ⟨fun h => ⟨h.1, h.2.1⟩, fun h => ⟨h.1, h.2, hab⟩⟩) hno hx2 (by
          have := nodup_keys_le hW2 hx2 hPb
          omega) hq (r' := ⟨A2, c2, q.w ++ [a]⟩) rfl, rfl, rfl, rfl, rfl, rfl, rfl, rfl, hv41, rfl, congrArg (Value.int .i64) (i64_succ k (by omega)), rfl⟩
      | some y =>
        have hx' : wl[a]? = some (some (y.1, y.2)) := hx
        unfold Wt.v at hcx
        simp only at hcx
        have hmap : has (own 121 1 (.slice (some ⟨wB, 0, none⟩) rows.length rows.length) rows.length ((wl).map Wt.v) :: alls Wt.h (wl) :: own 54 1 (.slice (some ⟨lB, 0, none⟩) rows.length rows.length) rows.length ((lr).map Rw.v) :: alls (Rw.h 3) (lr) :: row b1 [.pointer (some ⟨bf, 0, none⟩)] 81 :: Γ2) (mapAt iN iN y.1 y.2) := has_allsW (k := 1) (up_map _ _ _ _) rfl hx fun _ h => mapA_at h
        rcases hgx with ⟨hg, hp⟩ | ⟨hg, hno⟩
        · refine m_run ?_
          (apply TL.pv; exact rfl; (apply PV.look1S (kv := iN) (vv := iN) (k := b) (v := 1) keyI; exact tb rfl; exact rfl; exact ⟨_, (tb rfl : TabOk Try.prog 3 _).1⟩; exact (tb rfl : TabOk Try.prog 3 _); exact rfl; exact rfl; exact hmap; exact hg))
          refine m_run ?_
          exact IH2 (j2 - 1) _ _ (by omega) ⟨k + 1, wl, lr, Γ2, by omega, hs2, hW.congr (fun x y => by rw [hPQ]; exact ⟨.inl, fun h => h.elim id fun h => by rw [h.1, h.2.1]; exact hp⟩), rfl, rfl, rfl, rfl, rfl, rfl, rfl, hv41, rfl, congrArg (Value.int .i64) (i64_succ k (by omega)), rfl⟩
        refine m_run ?_
        (apply TL.pv; exact rfl; (apply PV.look1N (kv := iN) (vv := iN) (k := b) keyI; exact tb rfl; exact rfl; exact ⟨_, (tb rfl : TabOk Try.prog 3 _).1⟩; exact (tb rfl : TabOk Try.prog 3 _); exact rfl; exact rfl; exact hmap; exact hg))
        refine m_run ?_
        refine TL.imp (Δ := mapA iN iN y.1 y.2 :: own 121 1 (.slice (some ⟨wB, 0, none⟩) rows.length rows.length) rows.length ((wl).map Wt.v) :: alls Wt.h ((wl).eraseIdx a) :: own 54 1 (.slice (some ⟨lB, 0, none⟩) rows.length rows.length) rows.length (lr.map Rw.v) :: alls (Rw.h 3) lr :: row b1 [.pointer (some ⟨bf, 0, none⟩)] 81 :: Γ2) (fun m hm => all_out3 (Δ := [_]) hx' hm) ?_
        (apply TL.mapPut 0 (kv := iN) (vv := iN) (es := y.2) (k := b) (nv := 1); exact rfl; exact keyI; exact tb rfl; exact rfl; exact ⟨_, (tb rfl : TabOk Try.prog 3 _).1⟩; exact rfl; exact rfl; exact rfl; exact rfl)
        refine TL.imp (Δ := own 121 1 (.slice (some ⟨wB, 0, none⟩) rows.length rows.length) rows.length ((wl).map Wt.v) :: alls Wt.h ((wl).set a (some (y.1, setE y.2 b 1))) :: own 54 1 (.slice (some ⟨lB, 0, none⟩) rows.length rows.length) rows.length (lr.map Rw.v) :: alls (Rw.h 3) lr :: row b1 [.pointer (some ⟨bf, 0, none⟩)] 81 :: Γ2) (fun m hm => all_in3 (f := Wt.h) (Δ := [_]) (some (y.1, setE y.2 b 1)) hx' hm) ?_
        rw [← wt_set (y := some (y.1, setE y.2 b 1)) hx' rfl]
        have hcl2 : has (own 121 1 (.slice (some ⟨wB, 0, none⟩) rows.length rows.length) rows.length (((wl).set a (some (y.1, setE y.2 b 1))).map Wt.v) :: alls Wt.h ((wl).set a (some (y.1, setE y.2 b 1))) :: own 54 1 (.slice (some ⟨lB, 0, none⟩) rows.length rows.length) rows.length ((lr).map Rw.v) :: alls (Rw.h 3) (lr) :: row b1 [.pointer (some ⟨bf, 0, none⟩)] 81 :: Γ2) (fun m => cellAt m lB (0 + b) q.v) := has_v (has_at (up_src 1 (some ⟨lB, 0, none⟩) rows.length (lr.map Rw.v)) 2 rfl fun _ h => own_src h) (by rw [List.getElem?_map, hq]; rfl)
        rw [Nat.zero_add] at hcl2
        refine m_run ?_
        (apply TL.buildSlice (l := ints [a]); exact rfl; exact tb rfl; exact rfl; exact tb rfl; exact rfl; exact rfl; exact rfl; exact rfl; exact rfl)
        intro b94
        refine TL.imp (Δ := q.h 3 :: row b94 (ints [a]) 3 :: own 121 1 (.slice (some ⟨wB, 0, none⟩) rows.length rows.length) rows.length (((wl).set a (some (y.1, setE y.2 b 1))).map Wt.v) :: alls Wt.h ((wl).set a (some (y.1, setE y.2 b 1))) :: own 54 1 (.slice (some ⟨lB, 0, none⟩) rows.length rows.length) rows.length (lr.map Rw.v) :: alls (Rw.h 3) (lr.eraseIdx b) :: row b1 [.pointer (some ⟨bf, 0, none⟩)] 81 :: Γ2) (fun m hm => all_out3 (Δ := [_, _, _, _]) hq hm) ?_
        refine m_run ?_
        (apply TL.append 0 (n := q.w.length) (m := 1) (cs := ints q.w) (news := ints [a]); exact rfl; exact rfl; exact tb rfl; exact rfl; exact tb rfl; exact rfl; exact rfl; exact rfl)
        · exact fun _ h => h
        · exact rfl
        · exact has_src_row 1 rfl rfl
        · exact ints_one [a]
        · show (q.w.length + 1) * 8 ≤ _; omega
        · show q.w.length + 1 ≤ maxLen; unfold maxLen; omega
        · exact fun _ => (rfl : _ = _ :: _)
        intro A2 c2 hc2
        refine m_run ?_
        (apply TL.storeOwn 4 b; exact rfl; exact rfl; (exact m_val); exact rfl; exact tb rfl; exact rfl; exact (Nat.zero_add _).symm; exact hbl)
        refine TL.imp (Δ := own 121 1 (.slice (some ⟨wB, 0, none⟩) rows.length rows.length) rows.length (((wl).set a (some (y.1, setE y.2 b 1))).map Wt.v) :: alls Wt.h ((wl).set a (some (y.1, setE y.2 b 1))) :: own 54 1 (.slice (some ⟨lB, 0, none⟩) rows.length rows.length) rows.length ((lr.set b ⟨A2, c2, q.w ++ [a]⟩).map Rw.v) :: alls (Rw.h 3) (lr.set b ⟨A2, c2, q.w ++ [a]⟩) :: row b1 [.pointer (some ⟨bf, 0, none⟩)] 81 :: row b94 (ints [a]) 3 :: Γ2) (fun m hm => ?_) ?_
        · rw [show own 3 1 (.slice A2 (q.w.length + 1) c2) (q.w.length + 1) (ints q.w ++ ints [a]) = Rw.h 3 ⟨A2, c2, q.w ++ [a]⟩ by simp [Rw.h, Rw.v], show (lr.map Rw.v).set b (.slice A2 (q.w.length + 1) c2) = (lr.set b ⟨A2, c2, q.w ++ [a]⟩).map Rw.v by rw [List.map_set]; simp [Rw.v]] at hm
          exact all_perm (List.perm_middle (l₁ := [_, _, _, _, _])).symm (all_in3 (f := Rw.h 3) (Δ := [_, _, _, _]) ⟨A2, c2, q.w ++ [a]⟩ hq hm)
        refine m_run ?_
        refine IH2 (j2 - 1) _ _ (by omega) ⟨k + 1, _, _, _, by omega, .cons _ hs2, WL.add hW (fun x y => by rw [hPQ]; exact or_congr_right ⟨fun h => ⟨h.1, h.2.1⟩, fun h => ⟨h.1, h.2, hab⟩⟩) hno hx' (by
          have := nodup_keys_le hW hx' hPb
          omega) hq (r' := ⟨A2, c2, q.w ++ [a]⟩) rfl, rfl, rfl, rfl, rfl, rfl, rfl, rfl, hv41, rfl, congrArg (Value.int .i64) (i64_succ k (by omega)), rfl⟩
    obtain rfl : k = r.w.length := by omega
    refine m_run ?_
    exact IH (j - 1) _ _ (by omega) ⟨i + 1, wl, lr, Γ2, by omega, hs2, hW.congr (Gph.PQ.row (by rw [hEg hr]; exact Nat.le_refl _)), rfl, rfl, rfl, rfl, rfl, congrArg (Value.int .i64) (i64_succ i (by omega)), rfl⟩
  obtain rfl : i = outR.length := by omega
  clear IH
  replace hW := hW.congr (Gph.PQ.whole (by rw [List.length_map]))
  refine m_run ?_
  (apply TL.pv; exact rfl; (apply PV.makeFunc (fs := []) (cs := [.pointer (some ⟨b1, 0, none⟩)]); exact rfl; exact rfl))
  refine m_run ?_
  (apply TL.alloc; exact rfl; exact tb rfl; (exact m_lst))
  intro b11
  refine m_run ?_
  (apply TL.alloc; exact rfl; exact tb rfl; (exact m_lst))
  intro b12
  refine m_run ?_
  (apply TL.pv; exact rfl; (apply PV.makeFunc (fs := []) (cs := [.pointer (some ⟨b12, 0, none⟩), .pointer (some ⟨b11, 0, none⟩)]); exact rfl; exact rfl))
  have g4 : has (own 121 1 (.slice (some ⟨wB, 0, none⟩) rows.length rows.length) rows.length (wl.map Wt.v) :: alls Wt.h wl :: own 54 1 (.slice (some ⟨lB, 0, none⟩) rows.length rows.length) rows.length (lr.map Rw.v) :: alls (Rw.h 3) lr :: row b11 [.func (.func 72) #[] #[.pointer (some ⟨b1, 0, none⟩)]] 122 :: row b1 [.pointer (some ⟨bf, 0, none⟩)] 81 :: Γ2) (fun m => cellAt m bf 4 (.slice P rows.length pc)) := has_tlc (has_tlc (has_tlc (has_tlc (has_tlc (has_tlc (has_sublist (up_cell _ _ _) hs2 h4))))))
  have g4' := has_tlc (K := row b12 [.slice none 0 0] 54) (has_tlc (K := ownO 3 (.slice none 0 0) 0 []) g4)
  have g1' : has (row b12 [.slice none 0 0] 54 :: ownO 3 (.slice none 0 0) 0 [] :: own 121 1 (.slice (some ⟨wB, 0, none⟩) rows.length rows.length) rows.length (wl.map Wt.v) :: alls Wt.h wl :: own 54 1 (.slice (some ⟨lB, 0, none⟩) rows.length rows.length) rows.length (lr.map Rw.v) :: alls (Rw.h 3) lr :: row b11 [.func (.func 72) #[] #[.pointer (some ⟨b1, 0, none⟩)]] 122 :: row b1 [.pointer (some ⟨bf, 0, none⟩)] 81 :: Γ2) (fun m => cellAt m b1 0 (.pointer (some ⟨bf, 0, none⟩))) := has_row 7 rfl rfl
  refine TL.free (H := ownO 3 (.slice none 0 0) 0 []) (fun m hm => ownO_nil _ hm) ?_
  refine TL.imp (Δ := row b12 [.slice none 0 0] 54 :: ownO 3 (.slice none 0 0) 0 [] :: own 121 1 (.slice (some ⟨wB, 0, none⟩) rows.length rows.length) rows.length (wl.map Wt.v) :: alls Wt.h wl :: own 54 1 (.slice (some ⟨lB, 0, none⟩) rows.length rows.length) rows.length (lr.map Rw.v) :: alls (Rw.h 3) lr :: row b11 [.func (.func 72) #[] #[.pointer (some ⟨b1, 0, none⟩)]] 122 :: row b1 [.pointer (some ⟨bf, 0, none⟩)] 81 :: Γ2) (fun m hm => ?_) ?_
  · refine all_perm ?_ hm
    refine (List.Perm.swap _ _ _).trans (.cons _ (.cons _ ?_))
    exact (List.perm_middle (l₁ := [_, _, _, _])).symm
  refine m_run ?_
  obtain ⟨f, hf⟩ : ∃ f, f = Gph.fst (rows.map Rw.w) := ⟨_, rfl⟩
  have hfi : ∀ k j, k < rows.length → j < rows.length → f k = f j → k = j := fun k j h1 h2 e => hS.fst_inj (by rw [List.length_map]; exact h1) (by rw [List.length_map]; exact h2) (by rw [← hf]; exact e)
  have hwk : ∀ r ∈ rows, r.w ≠ [] ∧ ∀ x ∈ r.w, x ≤ 1000000 := fun r hr => by
    have hm : r.w ∈ rows.map Rw.w := List.mem_map_of_mem hr
    refine ⟨(hS.scc _ hm).2.1, fun x hx => ?_⟩
    obtain ⟨k, hk⟩ := List.getElem?_of_mem hm
    have h1 := (hS.iff x k).2 ⟨_, hk, hx⟩
    have h2 : x < of.length := by
      apply Classical.byContradiction
      intro hc
      rw [List.getD_eq_getElem?_getD, List.getElem?_eq_none (by omega)] at h1
      cases h1
    rw [hS.len, List.length_map] at h2
    omega
  have hne : ∀ r ∈ rows, r.w ≠ [] := fun r hr => (hwk r hr).1
  have hlt : ∀ r ∈ rows, ∀ x ∈ r.w, x ≤ 1000000 := fun r hr => (hwk r hr).2
  clear hwk g4 g4' g1'
  apply TK.iter (fun j ρ' Γ' => ∃ (k : Nat) (R : List Nat) (A : Option Addr) (c : Nat), k + j = rows.length ∧ (R.Pairwise fun a b => f a < f b) ∧ (∀ x, x ∈ R ↔ x < k ∧ ∀ b, ¬ Gph.Lead (outR.map Rw.w) of x b) ∧ lk ρ' 1 = .pointer (some ⟨b1, 0, none⟩) ∧ lk ρ' 3 = .slice (some ⟨wB, 0, none⟩) rows.length rows.length ∧ lk ρ' 4 = .slice (some ⟨lB, 0, none⟩) rows.length rows.length ∧ lk ρ' 12 = .pointer (some ⟨b12, 0, none⟩) ∧ lk ρ' 13 = .func (.func 73) #[] #[.pointer (some ⟨b12, 0, none⟩), .pointer (some ⟨b11, 0, none⟩)] ∧ lk ρ' 105 = .int .i64 (rows.length : Int) ∧ lk ρ' 106 = .int .i64 (k : Int) ∧ Γ' = row b12 [.slice A R.length c] 54 :: ownO 3 (.slice A R.length c) R.length (ints R) :: own 121 1 (.slice (some ⟨wB, 0, none⟩) rows.length rows.length) rows.length ((wl).map Wt.v) :: alls Wt.h (wl) :: own 54 1 (.slice (some ⟨lB, 0, none⟩) rows.length rows.length) rows.length (lr.map Rw.v) :: alls (Rw.h 3) lr :: row b11 [.func (.func 72) #[] #[.pointer (some ⟨b1, 0, none⟩)]] 122 :: row b1 [.pointer (some ⟨bf, 0, none⟩)] 81 :: Γ2) rows.length
  · exact ⟨0, [], none, 0, Nat.zero_add _, List.Pairwise.nil, fun x => ⟨fun h => (by cases h), fun h => absurd h.1 (Nat.not_lt_zero _)⟩, rfl, rfl, rfl, rfl, rfl, rfl, rfl, rfl⟩
  rintro j IH ρ' _ ⟨k, R, A, c, hkj, hRs, hRm, e1, e3, e4, e12, e13, e105, e106, rfl⟩
  refine TK.know7 e1 e3 e4 e12 e13 e105 e106 ?_
  have hRl : R.length ≤ rows.length := Gph.nodup_len (hRs.imp fun {a b} h e => by rw [e] at h; exact Nat.lt_irrefl _ h) fun x hx => by have := ((hRm x).1 hx).1; omega
  by_cases hk : k < rows.length
  · obtain ⟨x, hx⟩ : ∃ x, wl[k]? = some x := ⟨wl[k]'(by rw [hW.lw]; exact hk), List.getElem?_eq_getElem _⟩
    have hcx : has (row b12 [.slice A R.length c] 54 :: ownO 3 (.slice A R.length c) R.length (ints R) :: own 121 1 (.slice (some ⟨wB, 0, none⟩) rows.length rows.length) rows.length ((wl).map Wt.v) :: alls Wt.h (wl) :: own 54 1 (.slice (some ⟨lB, 0, none⟩) rows.length rows.length) rows.length (lr.map Rw.v) :: alls (Rw.h 3) lr :: row b11 [.func (.func 72) #[] #[.pointer (some ⟨b1, 0, none⟩)]] 122 :: row b1 [.pointer (some ⟨bf, 0, none⟩)] 81 :: Γ2) (fun m => cellAt m wB (0 + k) x.v) := has_v (has_at (up_src 1 (some ⟨wB, 0, none⟩) rows.length (wl.map Wt.v)) 2 rfl fun _ h => own_src h) (by rw [List.getElem?_map, hx]; rfl)
    rw [Nat.zero_add] at hcx
    have hzz : x.len = 0 ↔ ∀ b, ¬ Gph.Lead (outR.map Rw.w) of k b := by
      rw [Wt.len_zero]
      refine forall_congr' fun b => ?_
      rcases hW.get k x hx b with h | h
      · rw [h.1]; exact ⟨fun e => (by cases e), fun e => absurd h.2 e⟩
      · exact ⟨fun _ => h.2, fun _ => h.1⟩
    refine m_run ?_
    (apply TL.pv; exact rfl; (apply PV.lenWt (x := x); exact rfl; exact tb rfl; exact rfl; exact (fun y hy => by subst hy; exact has_allsW (k := 3) (up_map _ _ _ _) rfl hx fun _ h => mapA_at h)))
    by_cases hz : x.len = 0
    · refine m_run ?_
      (apply TL.callFV (fs := []) (cs := [.pointer (some ⟨b12, 0, none⟩), .pointer (some ⟨b11, 0, none⟩)]); exact rfl; exact rfl; exact callB_of (by kernel_rfl); exact rfl; exact fun _ h => h)
      have q11 : has (own 121 1 (.slice (some ⟨wB, 0, none⟩) rows.length rows.length) rows.length ((wl).map Wt.v) :: alls Wt.h (wl) :: own 54 1 (.slice (some ⟨lB, 0, none⟩) rows.length rows.length) rows.length (lr.map Rw.v) :: alls (Rw.h 3) lr :: row b11 [.func (.func 72) #[] #[.pointer (some ⟨b1, 0, none⟩)]] 122 :: row b1 [.pointer (some ⟨bf, 0, none⟩)] 81 :: Γ2) (fun m => cellAt m b11 0 (.func (.func 72) #[] #[.pointer (some ⟨b1, 0, none⟩)])) := has_row 4 rfl rfl
      have q1 : has (own 121 1 (.slice (some ⟨wB, 0, none⟩) rows.length rows.length) rows.length ((wl).map Wt.v) :: alls Wt.h (wl) :: own 54 1 (.slice (some ⟨lB, 0, none⟩) rows.length rows.length) rows.length (lr.map Rw.v) :: alls (Rw.h 3) lr :: row b11 [.func (.func 72) #[] #[.pointer (some ⟨b1, 0, none⟩)]] 122 :: row b1 [.pointer (some ⟨bf, 0, none⟩)] 81 :: Γ2) (fun m => cellAt m b1 0 (.pointer (some ⟨bf, 0, none⟩))) := has_row 5 rfl rfl
      have q4 : has (own 121 1 (.slice (some ⟨wB, 0, none⟩) rows.length rows.length) rows.length ((wl).map Wt.v) :: alls Wt.h (wl) :: own 54 1 (.slice (some ⟨lB, 0, none⟩) rows.length rows.length) rows.length (lr.map Rw.v) :: alls (Rw.h 3) lr :: row b11 [.func (.func 72) #[] #[.pointer (some ⟨b1, 0, none⟩)]] 122 :: row b1 [.pointer (some ⟨bf, 0, none⟩)] 81 :: Γ2) (fun m => cellAt m bf 4 (.slice P rows.length pc)) := has_tlc (has_tlc (has_tlc (has_tlc (has_tlc (has_tlc (has_sublist (up_cell _ _ _) hs2 h4))))))
      exact add_t b12 b11 b1 bf P pc rows A c R k (own 121 1 (.slice (some ⟨wB, 0, none⟩) rows.length rows.length) rows.length ((wl).map Wt.v) :: alls Wt.h (wl) :: own 54 1 (.slice (some ⟨lB, 0, none⟩) rows.length rows.length) rows.length (lr.map Rw.v) :: alls (Rw.h 3) lr :: row b11 [.func (.func 72) #[] #[.pointer (some ⟨b1, 0, none⟩)]] 122 :: row b1 [.pointer (some ⟨bf, 0, none⟩)] 81 :: Γ2) q11 q1 q4 (hP.sub hs2).tl.tl.tl.tl.tl.tl hne hlt (fun x hx => by have := ((hRm x).1 hx).1; omega) hk (by omega) (by omega) (by rw [← hf]; exact hRs)
      rintro _ _ ⟨rfl, at_, A', c', hat, rfl⟩
      rw [← hf] at hat
      obtain ⟨hs1, hm1⟩ := Gph.KI.begin (m := rows.length) (W := Gph.Lead (outR.map Rw.w) of) (hzz.1 hz) hk hfi hRs hRm hat
      refine m_run ?_
      exact IH (j - 1) _ _ (by omega) ⟨k + 1, insL R at_ k, A', c', by omega, hs1, hm1, rfl, rfl, rfl, rfl, rfl, rfl, congrArg (Value.int .i64) (i64_succ k (by omega)), rfl⟩
    · refine m_run ?_
      exact IH (j - 1) _ _ (by omega) ⟨k + 1, R, A, c, by omega, hRs, Gph.KI.skip (m := rows.length) (fun h => hz (hzz.2 h)) hRm, rfl, rfl, rfl, rfl, rfl, rfl, congrArg (Value.int .i64) (i64_succ k (by omega)), rfl⟩
  obtain rfl : k = rows.length := by omega
  clear IH
  have hK0 := Gph.KI.start hRs hRm
  have hD : ∀ (b : Nat) (r : Rw), lr[b]? = some r → (∀ a, a ∈ r.w ↔ Gph.Lead (outR.map Rw.w) of a b) ∧ r.w.Nodup := hW.row
  have hll := hW.ll
  have hG0 : ∀ (a : Nat) (x : Wt), wl[a]? = some x → Wt.ok x ∧ ∀ b, x.get b ≠ none ↔ (Gph.Lead (outR.map Rw.w) of a b ∧ b ∉ ([] : List Nat)) := fun a x hx => ⟨hW.ok a x hx, fun b => by
    rcases hW.get a x hx b with h | h
    · rw [h.1]; exact ⟨fun _ => ⟨h.2, List.not_mem_nil⟩, fun _ e => by cases e⟩
    · rw [h.1]; exact ⟨fun e => absurd rfl e, fun e => absurd e.1 h.2⟩⟩
  have hlw := hW.lw
  clear hW hRs hRm hRl
  refine m_run ?_
  refine TK.free (H := own 54 1 (.slice none 0 0) 0 []) (fun m hm => own_nil _ _ hm) ?_
  refine TK.perm (Δ := row b12 [.slice A R.length c] 54 :: ownO 3 (.slice A R.length c) R.length (ints R) :: own 121 1 (.slice (some ⟨wB, 0, none⟩) rows.length rows.length) rows.length ((wl).map Wt.v) :: alls Wt.h (wl) :: own 54 1 (.slice none 0 0) 0 [] :: own 54 1 (.slice (some ⟨lB, 0, none⟩) rows.length rows.length) rows.length (lr.map Rw.v) :: alls (Rw.h 3) lr :: row b11 [.func (.func 72) #[] #[.pointer (some ⟨b1, 0, none⟩)]] 122 :: row b1 [.pointer (some ⟨bf, 0, none⟩)] 81 :: Γ2) (List.perm_middle (l₁ := [_, _, _, _])).symm ?_
  apply TK.iter (fun j ρ' Γ' => ∃ (O' R : List Nat) (A : Option Addr) (c : Nat) (wl : List Wt) (Q : Option Addr) (qc : Nat) (Γ2 : List HP), O'.length + j = rows.length ∧ Γ.Sublist Γ2 ∧ Gph.Told (outR.map Rw.w) of rows.length f O' ∧ Gph.KI rows.length f (fun a b => Gph.Lead (outR.map Rw.w) of a b ∧ b ∉ O') O' R ∧ wl.length = rows.length ∧ (∀ (a : Nat) (x : Wt), wl[a]? = some x → Wt.ok x ∧ ∀ b, x.get b ≠ none ↔ (Gph.Lead (outR.map Rw.w) of a b ∧ b ∉ O')) ∧ lk ρ' 1 = .pointer (some ⟨b1, 0, none⟩) ∧ lk ρ' 3 = .slice (some ⟨wB, 0, none⟩) rows.length rows.length ∧ lk ρ' 4 = .slice (some ⟨lB, 0, none⟩) rows.length rows.length ∧ lk ρ' 12 = .pointer (some ⟨b12, 0, none⟩) ∧ lk ρ' 13 = .func (.func 73) #[] #[.pointer (some ⟨b12, 0, none⟩), .pointer (some ⟨b11, 0, none⟩)] ∧ lk ρ' 15 = .slice Q O'.length qc ∧ Γ' = row b12 [.slice A R.length c] 54 :: ownO 3 (.slice A R.length c) R.length (ints R) :: own 121 1 (.slice (some ⟨wB, 0, none⟩) rows.length rows.length) rows.length ((wl).map Wt.v) :: alls Wt.h (wl) :: own 54 1 (.slice Q O'.length qc) O'.length ((O'.map fun k => rows.getD k rw0).map Rw.v) :: own 54 1 (.slice (some ⟨lB, 0, none⟩) rows.length rows.length) rows.length (lr.map Rw.v) :: alls (Rw.h 3) lr :: row b11 [.func (.func 72) #[] #[.pointer (some ⟨b1, 0, none⟩)]] 122 :: row b1 [.pointer (some ⟨bf, 0, none⟩)] 81 :: Γ2) rows.length
  · exact ⟨[], R, A, c, wl, none, 0, Γ2, Nat.zero_add _, hs2, Gph.Told.nil, hK0, hlw, hG0, rfl, rfl, rfl, rfl, rfl, rfl, rfl⟩
  clear hs2 hK0 hlw hG0 wl R A c Γ2 e1 e3 e4 e12 e13
  rintro j IH ρ' _ ⟨O', R, A, c, wl, Q, qc, Γ2, hOj, hs2, hT, hK, hlw, hG, e1, e3, e4, e12, e13, e15, rfl⟩
  refine TK.know6 e1 e3 e4 e12 e13 e15 ?_
  have hRl : R.length ≤ rows.length := Gph.nodup_len (hK.sort.imp fun {a b} h e => by rw [e] at h; exact Nat.lt_irrefl _ h) fun x hx => ((hK.iff x).1 hx).1
  have hOl : O'.length ≤ rows.length := Gph.nodup_len hT.nodup hT.lt
  cases R with
  | nil =>
    refine m_run ?_
    (apply TK.ret1; exact rfl; exact rfl; (exact m_val))
    refine ⟨_, rfl, Q, qc, O'.map fun k => rows.getD k rw0, congrArg (fun z => Value.slice Q z qc) (by simp), ?_, fun r hr => ?_, ?_⟩
    · have h1 := Gph.Told.parts hS (O := O') (by rw [List.length_map, ← hf]; exact hT) (Gph.Told.whole hS (f := f) (by rw [List.length_map]; exact hK))
      rw [List.length_map, hon] at h1
      rw [List.map_map]
      have h2 : (O'.map fun k => (rows.map Rw.w).getD k []) = O'.map (Rw.w ∘ fun k => rows.getD k rw0) := List.map_congr_left fun k _ => by
        simp only [Function.comp, List.getD_eq_getElem?_getD, List.getElem?_map]
        cases rows[k]? <;> rfl
      rw [← h2]
      exact h1
    · obtain ⟨k, hk, rfl⟩ := List.mem_map.1 hr
      have hkm := hT.lt k hk
      rw [List.getD_eq_getElem?_getD, List.getElem?_eq_getElem hkm]
      exact List.getElem_mem hkm
    · rw [List.length_map]
      exact .cons _ (.cons _ (.cons _ (.cons _ (.cons_cons _ (.cons _ (.cons _ (.cons _ (.cons _ hs2))))))))
  | cons k R =>
    obtain ⟨hkm, hkO, hkW⟩ := (hK.iff k).1 (List.mem_cons_self ..)
    have hlen : (k :: R).length = R.length + 1 := rfl
    obtain ⟨rk, hrk⟩ : ∃ rk, rows[k]? = some rk := ⟨rows[k], List.getElem?_eq_getElem hkm⟩
    obtain ⟨dr, hdr⟩ : ∃ dr, lr[k]? = some dr := ⟨lr[k]'(by rw [hll]; exact hkm), List.getElem?_eq_getElem _⟩
    have hrd : rows.getD k rw0 = rk := by rw [List.getD_eq_getElem?_getD, hrk]; rfl
    obtain ⟨hDm, hDn⟩ := hD k dr hdr
    have hDl : dr.w.length ≤ rows.length := Gph.nodup_len hDn fun y hy => by
      obtain ⟨_, v, w, _, h1, _⟩ := (hDm y).1 hy
      have := hS.lt h1
      rwa [List.length_map] at this
    refine TK.mem fun m0 hm0 => ?_
    obtain ⟨g, u, rfl⟩ := src_some ((has_ownO 1 rfl : has (row b12 [.slice A (k :: R).length c] 54 :: ownO 3 (.slice A (k :: R).length c) (k :: R).length (ints (k :: R)) :: own 121 1 (.slice (some ⟨wB, 0, none⟩) rows.length rows.length) rows.length ((wl).map Wt.v) :: alls Wt.h (wl) :: own 54 1 (.slice Q (O').length qc) (O').length (((O').map fun k => rows.getD k rw0).map Rw.v) :: own 54 1 (.slice (some ⟨lB, 0, none⟩) rows.length rows.length) rows.length (lr.map Rw.v) :: alls (Rw.h 3) lr :: row b11 [.func (.func 72) #[] #[.pointer (some ⟨b1, 0, none⟩)]] 122 :: row b1 [.pointer (some ⟨bf, 0, none⟩)] 81 :: Γ2) (srcAt 1 A (k :: R).length (ints (k :: R)))) m0 hm0) (by rw [ints_len]; omega)
    have hcc : (k :: R).length ≤ c := by
      obtain ⟨_, _, _, _, h, _⟩ := all_front (i := 1) rfl hm0
      exact ownO_cap h
    obtain ⟨gp, op, rfl⟩ := (((hP.sub hs2).tl.tl.tl.tl.tl.tl.tl.tl.tl : Rows P rows (row b12 [.slice (some ⟨g, u, none⟩) (k :: R).length c] 54 :: ownO 3 (.slice (some ⟨g, u, none⟩) (k :: R).length c) (k :: R).length (ints (k :: R)) :: own 121 1 (.slice (some ⟨wB, 0, none⟩) rows.length rows.length) rows.length ((wl).map Wt.v) :: alls Wt.h (wl) :: own 54 1 (.slice Q (O').length qc) (O').length (((O').map fun k => rows.getD k rw0).map Rw.v) :: own 54 1 (.slice (some ⟨lB, 0, none⟩) rows.length rows.length) rows.length (lr.map Rw.v) :: alls (Rw.h 3) lr :: row b11 [.func (.func 72) #[] #[.pointer (some ⟨b1, 0, none⟩)]] 122 :: row b1 [.pointer (some ⟨bf, 0, none⟩)] 81 :: Γ2))).some hm0 (by omega)
    clear hm0 m0
    have hck := has_ints (has_ownO 1 rfl : has (row b12 [.slice (some ⟨g, u, none⟩) (k :: R).length c] 54 :: ownO 3 (.slice (some ⟨g, u, none⟩) (k :: R).length c) (k :: R).length (ints (k :: R)) :: own 121 1 (.slice (some ⟨wB, 0, none⟩) rows.length rows.length) rows.length ((wl).map Wt.v) :: alls Wt.h (wl) :: own 54 1 (.slice Q (O').length qc) (O').length (((O').map fun k => rows.getD k rw0).map Rw.v) :: own 54 1 (.slice (some ⟨lB, 0, none⟩) rows.length rows.length) rows.length (lr.map Rw.v) :: alls (Rw.h 3) lr :: row b11 [.func (.func 72) #[] #[.pointer (some ⟨b1, 0, none⟩)]] 122 :: row b1 [.pointer (some ⟨bf, 0, none⟩)] 81 :: Γ2) (srcAt 1 (some ⟨g, u, none⟩) (k :: R).length (ints (k :: R)))) (i := 0) (x := k) rfl
    rw [Nat.add_zero] at hck
    refine m_run ?_
    (apply TL.pv; exact rfl; (apply PV.sliceS (i := 1) (j := (k :: R).length); exact rfl; exact tb rfl; exact rfl; exact tb rfl; exact .some rfl; exact .none; exact (by omega); exact hcc))
    refine TL.know (t := 126) (v := .slice (if c = 1 then (some ⟨g, u, none⟩ : Option Addr) else (some ⟨g, u, none⟩ : Option Addr).map fun a => a.add (1 * 1)) R.length (c - 1)) rfl ?_
    refine m_run ?_
    refine TL.imp (Δ := row b12 [.slice (if c = 1 then (some ⟨g, u, none⟩ : Option Addr) else (some ⟨g, u, none⟩ : Option Addr).map fun a => a.add (1 * 1)) (R).length (c - 1)] 54 :: ownO 3 (.slice (if c = 1 then (some ⟨g, u, none⟩ : Option Addr) else (some ⟨g, u, none⟩ : Option Addr).map fun a => a.add (1 * 1)) (R).length (c - 1)) (R).length (ints (R)) :: own 121 1 (.slice (some ⟨wB, 0, none⟩) rows.length rows.length) rows.length ((wl).map Wt.v) :: alls Wt.h (wl) :: own 54 1 (.slice Q (O').length qc) (O').length (((O').map fun k => rows.getD k rw0).map Rw.v) :: own 54 1 (.slice (some ⟨lB, 0, none⟩) rows.length rows.length) rows.length (lr.map Rw.v) :: alls (Rw.h 3) lr :: row b11 [.func (.func 72) #[] #[.pointer (some ⟨b1, 0, none⟩)]] 122 :: row b1 [.pointer (some ⟨bf, 0, none⟩)] 81 :: Γ2) (fun m hm => sep_mono hm (fun _ h => h) fun _ hm => sep_mono hm (fun _ h => ownO_tail h) (fun _ h => h)) ?_
    have q1 : has (row b12 [.slice (if c = 1 then (some ⟨g, u, none⟩ : Option Addr) else (some ⟨g, u, none⟩ : Option Addr).map fun a => a.add (1 * 1)) (R).length (c - 1)] 54 :: ownO 3 (.slice (if c = 1 then (some ⟨g, u, none⟩ : Option Addr) else (some ⟨g, u, none⟩ : Option Addr).map fun a => a.add (1 * 1)) (R).length (c - 1)) (R).length (ints (R)) :: own 121 1 (.slice (some ⟨wB, 0, none⟩) rows.length rows.length) rows.length ((wl).map Wt.v) :: alls Wt.h (wl) :: own 54 1 (.slice Q (O').length qc) (O').length (((O').map fun k => rows.getD k rw0).map Rw.v) :: own 54 1 (.slice (some ⟨lB, 0, none⟩) rows.length rows.length) rows.length (lr.map Rw.v) :: alls (Rw.h 3) lr :: row b11 [.func (.func 72) #[] #[.pointer (some ⟨b1, 0, none⟩)]] 122 :: row b1 [.pointer (some ⟨bf, 0, none⟩)] 81 :: Γ2) (fun m => cellAt m b1 0 (.pointer (some ⟨bf, 0, none⟩))) := has_row 8 rfl rfl
    have q4 : has (row b12 [.slice (if c = 1 then (some ⟨g, u, none⟩ : Option Addr) else (some ⟨g, u, none⟩ : Option Addr).map fun a => a.add (1 * 1)) (R).length (c - 1)] 54 :: ownO 3 (.slice (if c = 1 then (some ⟨g, u, none⟩ : Option Addr) else (some ⟨g, u, none⟩ : Option Addr).map fun a => a.add (1 * 1)) (R).length (c - 1)) (R).length (ints (R)) :: own 121 1 (.slice (some ⟨wB, 0, none⟩) rows.length rows.length) rows.length ((wl).map Wt.v) :: alls Wt.h (wl) :: own 54 1 (.slice Q (O').length qc) (O').length (((O').map fun k => rows.getD k rw0).map Rw.v) :: own 54 1 (.slice (some ⟨lB, 0, none⟩) rows.length rows.length) rows.length (lr.map Rw.v) :: alls (Rw.h 3) lr :: row b11 [.func (.func 72) #[] #[.pointer (some ⟨b1, 0, none⟩)]] 122 :: row b1 [.pointer (some ⟨bf, 0, none⟩)] 81 :: Γ2) (fun m => cellAt m bf 4 (.slice (some ⟨gp, op, none⟩) rows.length pc)) := has_tlc (has_tlc (has_tlc (has_tlc (has_tlc (has_tlc (has_tlc (has_tlc (has_tlc (has_sublist (up_cell _ _ _) hs2 h4)))))))))
    have qk := (((hP.sub hs2).tl.tl.tl.tl.tl.tl.tl.tl.tl : Rows (some ⟨gp, op, none⟩) rows (row b12 [.slice (if c = 1 then (some ⟨g, u, none⟩ : Option Addr) else (some ⟨g, u, none⟩ : Option Addr).map fun a => a.add (1 * 1)) (R).length (c - 1)] 54 :: ownO 3 (.slice (if c = 1 then (some ⟨g, u, none⟩ : Option Addr) else (some ⟨g, u, none⟩ : Option Addr).map fun a => a.add (1 * 1)) (R).length (c - 1)) (R).length (ints (R)) :: own 121 1 (.slice (some ⟨wB, 0, none⟩) rows.length rows.length) rows.length ((wl).map Wt.v) :: alls Wt.h (wl) :: own 54 1 (.slice Q (O').length qc) (O').length (((O').map fun k => rows.getD k rw0).map Rw.v) :: own 54 1 (.slice (some ⟨lB, 0, none⟩) rows.length rows.length) rows.length (lr.map Rw.v) :: alls (Rw.h 3) lr :: row b11 [.func (.func 72) #[] #[.pointer (some ⟨b1, 0, none⟩)]] 122 :: row b1 [.pointer (some ⟨bf, 0, none⟩)] 81 :: Γ2))).v rfl hrk
    refine m_run ?_
    (apply TL.buildSlice (l := [rk.v]); exact rfl; exact tb rfl; exact rfl; exact tb rfl; exact rfl; exact rfl; exact rfl; exact rfl; exact rfl)
    intro b135
    refine m_run ?_
    (apply TL.append 5 (n := O'.length) (m := 1) (cs := (O'.map fun k => rows.getD k rw0).map Rw.v) (news := [rk.v]); exact rfl; exact rfl; exact tb rfl; exact rfl; exact tb rfl; exact rfl; exact rfl; exact rfl)
    · exact fun _ h => h
    · exact rfl
    · exact has_src_row 0 rfl rfl
    · exact fun u hu => by rw [List.mem_singleton.1 hu]; rfl
    · show (O'.length + 1) * 24 ≤ _; omega
    · show O'.length + 1 ≤ maxLen; unfold maxLen; omega
    · exact fun _ => (rfl : _ = _ :: _ :: _ :: _ :: _ :: _ :: _)
    intro Q2 qc2 hqc2
    rw [show (O'.map fun k => rows.getD k rw0).map Rw.v ++ [rk.v] = ((O' ++ [k]).map fun k => rows.getD k rw0).map Rw.v by simp [hrk], show O'.length + 1 = (O' ++ [k]).length by simp]
    refine TL.perm (Δ := row b12 [.slice (if c = 1 then (some ⟨g, u, none⟩ : Option Addr) else (some ⟨g, u, none⟩ : Option Addr).map fun a => a.add (1 * 1)) (R).length (c - 1)] 54 :: ownO 3 (.slice (if c = 1 then (some ⟨g, u, none⟩ : Option Addr) else (some ⟨g, u, none⟩ : Option Addr).map fun a => a.add (1 * 1)) (R).length (c - 1)) (R).length (ints (R)) :: own 121 1 (.slice (some ⟨wB, 0, none⟩) rows.length rows.length) rows.length ((wl).map Wt.v) :: alls Wt.h (wl) :: own 54 1 (.slice Q2 (O' ++ [k]).length qc2) (O' ++ [k]).length (((O' ++ [k]).map fun k => rows.getD k rw0).map Rw.v) :: own 54 1 (.slice (some ⟨lB, 0, none⟩) rows.length rows.length) rows.length (lr.map Rw.v) :: alls (Rw.h 3) lr :: row b11 [.func (.func 72) #[] #[.pointer (some ⟨b1, 0, none⟩)]] 122 :: row b1 [.pointer (some ⟨bf, 0, none⟩)] 81 :: row b135 [rk.v] 54 :: Γ2) (List.perm_middle (l₁ := [_, _, _, _, _, _, _, _, _])).symm ?_
    have hcl : has (row b12 [.slice (if c = 1 then (some ⟨g, u, none⟩ : Option Addr) else (some ⟨g, u, none⟩ : Option Addr).map fun a => a.add (1 * 1)) (R).length (c - 1)] 54 :: ownO 3 (.slice (if c = 1 then (some ⟨g, u, none⟩ : Option Addr) else (some ⟨g, u, none⟩ : Option Addr).map fun a => a.add (1 * 1)) (R).length (c - 1)) (R).length (ints (R)) :: own 121 1 (.slice (some ⟨wB, 0, none⟩) rows.length rows.length) rows.length ((wl).map Wt.v) :: alls Wt.h (wl) :: own 54 1 (.slice Q2 (O' ++ [k]).length qc2) (O' ++ [k]).length (((O' ++ [k]).map fun k => rows.getD k rw0).map Rw.v) :: own 54 1 (.slice (some ⟨lB, 0, none⟩) rows.length rows.length) rows.length (lr.map Rw.v) :: alls (Rw.h 3) lr :: row b11 [.func (.func 72) #[] #[.pointer (some ⟨b1, 0, none⟩)]] 122 :: row b1 [.pointer (some ⟨bf, 0, none⟩)] 81 :: row b135 [rk.v] 54 :: Γ2) (fun m => cellAt m lB (0 + k) dr.v) := has_v (has_at (up_src 1 (some ⟨lB, 0, none⟩) rows.length (lr.map Rw.v)) 5 rfl fun _ h => own_src h) (by rw [List.getElem?_map, hdr]; rfl)
    rw [Nat.zero_add] at hcl
    refine m_run ?_
    have hK1 := hK.pop
    apply TK.iter (fun j2 ρ' Γ' => ∃ (p : Nat) (R : List Nat) (A : Option Addr) (c : Nat) (wl : List Wt), p + j2 = dr.w.length ∧ Gph.KI rows.length f (fun a b => (Gph.Lead (outR.map Rw.w) of a b ∧ b ∉ O') ∧ ¬ (b = k ∧ a ∈ dr.w.take p)) (O' ++ [k]) R ∧ wl.length = rows.length ∧ (∀ (a : Nat) (x : Wt), wl[a]? = some x → Wt.ok x ∧ ∀ b, x.get b ≠ none ↔ ((Gph.Lead (outR.map Rw.w) of a b ∧ b ∉ O') ∧ ¬ (b = k ∧ a ∈ dr.w.take p))) ∧ lk ρ' 1 = .pointer (some ⟨b1, 0, none⟩) ∧ lk ρ' 3 = .slice (some ⟨wB, 0, none⟩) rows.length rows.length ∧ lk ρ' 4 = .slice (some ⟨lB, 0, none⟩) rows.length rows.length ∧ lk ρ' 12 = .pointer (some ⟨b12, 0, none⟩) ∧ lk ρ' 13 = .func (.func 73) #[] #[.pointer (some ⟨b12, 0, none⟩), .pointer (some ⟨b11, 0, none⟩)] ∧ lk ρ' 15 = .slice Q2 (O' ++ [k]).length qc2 ∧ lk ρ' 16 = .int .i64 (k : Int) ∧ lk ρ' 140 = dr.v ∧ lk ρ' 141 = .int .i64 (dr.w.length : Int) ∧ lk ρ' 142 = .int .i64 (p : Int) ∧ Γ' = row b12 [.slice A (R).length c] 54 :: ownO 3 (.slice A (R).length c) (R).length (ints (R)) :: own 121 1 (.slice (some ⟨wB, 0, none⟩) rows.length rows.length) rows.length ((wl).map Wt.v) :: alls Wt.h (wl) :: own 54 1 (.slice Q2 (O' ++ [k]).length qc2) (O' ++ [k]).length (((O' ++ [k]).map fun k => rows.getD k rw0).map Rw.v) :: own 54 1 (.slice (some ⟨lB, 0, none⟩) rows.length rows.length) rows.length (lr.map Rw.v) :: alls (Rw.h 3) lr :: row b11 [.func (.func 72) #[] #[.pointer (some ⟨b1, 0, none⟩)]] 122 :: row b1 [.pointer (some ⟨bf, 0, none⟩)] 81 :: row b135 [rk.v] 54 :: Γ2) dr.w.length
    · exact ⟨0, R, _, _, wl, Nat.zero_add _, hK1.congr (fun a b => by simp), hlw, fun a x hx => ⟨(hG a x hx).1, fun b => by rw [(hG a x hx).2]; simp⟩, rfl, rfl, rfl, rfl, rfl, rfl, rfl, rfl, rfl, rfl, rfl⟩
    clear hK1 hlw hG q1 q4 qk hcl hck hcc hRl e1 e3 e4 e12 e13 e15 hlen
    have hLk : ∀ a b, Gph.Lead (outR.map Rw.w) of a b → a < rows.length := fun a b ⟨_, v, w, _, h1, _⟩ => by
      have := hS.lt h1
      rwa [List.length_map] at this
    obtain ⟨wl0, hwl0⟩ : ∃ w : List Wt, w = wl := ⟨_, rfl⟩
    clear hwl0 wl0
    rintro j2 IH2 ρ' _ ⟨p, R, A, c, wl, hpj, hK2, hlw, hG, e1, e3, e4, e12, e13, e15, e16, e140, e141, e142, rfl⟩
    refine TK.know10 e1 e3 e4 e12 e13 e15 e16 e140 e141 e142 ?_
    have hRl : R.length ≤ rows.length := Gph.nodup_len (hK2.sort.imp fun {a b} h e => by rw [e] at h; exact Nat.lt_irrefl _ h) fun x hx => ((hK2.iff x).1 hx).1
    by_cases hp : p < dr.w.length
    · obtain ⟨a, ha⟩ : ∃ a, dr.w[p]? = some a := ⟨dr.w[p], List.getElem?_eq_getElem hp⟩
      have hLa := (hDm a).1 (List.mem_of_getElem? ha)
      have ham := hLk _ _ hLa
      have haT : a ∉ dr.w.take p := fun hm => by
        obtain ⟨q, hq⟩ := List.getElem?_of_mem hm
        rw [List.getElem?_take] at hq
        split at hq
        · have hql := (List.getElem?_eq_some_iff.1 hq).1
          exact absurd ((List.getElem?_inj hql hDn).1 (hq.trans ha.symm)) (by omega)
        · cases hq
      have haO : a ∉ O' ++ [k] := fun hm => by
        rcases List.mem_append.1 hm with hm | hm
        · obtain ⟨q, hq⟩ := List.getElem?_of_mem hm
          exact hkO (List.mem_of_mem_take (hT.down q a hq k hLa))
        · exact hLa.1 (List.mem_singleton.1 hm)
      obtain ⟨x, hx⟩ : ∃ x, wl[a]? = some x := ⟨wl[a]'(by rw [hlw]; exact ham), List.getElem?_eq_getElem _⟩
      obtain ⟨hxok, hxg⟩ := hG a x hx
      have hxk : x.get k ≠ none := (hxg k).2 ⟨⟨hLa, hkO⟩, fun h => haT h.2⟩
      obtain ⟨mb, es, rfl⟩ : ∃ mb es, x = some (mb, es) := by
        cases x with
        | none => exact absurd rfl hxk
        | some y => exact ⟨y.1, y.2, rfl⟩
      have hrow : has (row b12 [.slice A (R).length c] 54 :: ownO 3 (.slice A (R).length c) (R).length (ints (R)) :: own 121 1 (.slice (some ⟨wB, 0, none⟩) rows.length rows.length) rows.length ((wl).map Wt.v) :: alls Wt.h (wl) :: own 54 1 (.slice Q2 (O' ++ [k]).length qc2) (O' ++ [k]).length (((O' ++ [k]).map fun k => rows.getD k rw0).map Rw.v) :: own 54 1 (.slice (some ⟨lB, 0, none⟩) rows.length rows.length) rows.length (lr.map Rw.v) :: alls (Rw.h 3) lr :: row b11 [.func (.func 72) #[] #[.pointer (some ⟨b1, 0, none⟩)]] 122 :: row b1 [.pointer (some ⟨bf, 0, none⟩)] 81 :: row b135 [rk.v] 54 :: Γ2) (srcAt 1 dr.A dr.w.length (ints dr.w)) := has_allsW (k := 6) (up_src _ _ _ _) rfl hdr fun _ h => own_src h
      refine TK.mem fun m0 hm0 => ?_
      obtain ⟨gd, ud, hdA⟩ := src_some (hrow m0 hm0) (by rw [ints_len]; omega)
      clear hm0 m0
      rw [hdA] at hrow
      have hv140 : Value.slice (some ⟨gd, ud, none⟩) dr.w.length dr.c = dr.v := by unfold Rw.v; rw [hdA]
      refine TK.know (t := 140) (v := .slice (some ⟨gd, ud, none⟩) dr.w.length dr.c) hv140.symm ?_
      have hca := has_ints hrow ha
      have hcx : has (row b12 [.slice A (R).length c] 54 :: ownO 3 (.slice A (R).length c) (R).length (ints (R)) :: own 121 1 (.slice (some ⟨wB, 0, none⟩) rows.length rows.length) rows.length ((wl).map Wt.v) :: alls Wt.h (wl) :: own 54 1 (.slice Q2 (O' ++ [k]).length qc2) (O' ++ [k]).length (((O' ++ [k]).map fun k => rows.getD k rw0).map Rw.v) :: own 54 1 (.slice (some ⟨lB, 0, none⟩) rows.length rows.length) rows.length (lr.map Rw.v) :: alls (Rw.h 3) lr :: row b11 [.func (.func 72) #[] #[.pointer (some ⟨b1, 0, none⟩)]] 122 :: row b1 [.pointer (some ⟨bf, 0, none⟩)] 81 :: row b135 [rk.v] 54 :: Γ2) (fun m => cellAt m wB (0 + a) (.map (some mb))) := has_v (has_at (up_src 1 (some ⟨wB, 0, none⟩) rows.length (wl.map Wt.v)) 2 rfl fun _ h => own_src h) (by rw [List.getElem?_map, hx]; rfl)
      rw [Nat.zero_add] at hcx
      refine m_run ?_
      refine TL.imp (Δ := mapA iN iN mb es :: row b12 [.slice A (R).length c] 54 :: ownO 3 (.slice A (R).length c) (R).length (ints (R)) :: own 121 1 (.slice (some ⟨wB, 0, none⟩) rows.length rows.length) rows.length ((wl).map Wt.v) :: alls Wt.h (wl.eraseIdx a) :: own 54 1 (.slice Q2 (O' ++ [k]).length qc2) (O' ++ [k]).length (((O' ++ [k]).map fun k => rows.getD k rw0).map Rw.v) :: own 54 1 (.slice (some ⟨lB, 0, none⟩) rows.length rows.length) rows.length (lr.map Rw.v) :: alls (Rw.h 3) lr :: row b11 [.func (.func 72) #[] #[.pointer (some ⟨b1, 0, none⟩)]] 122 :: row b1 [.pointer (some ⟨bf, 0, none⟩)] 81 :: row b135 [rk.v] 54 :: Γ2) (fun m hm => all_out3 (Δ := [_, _, _]) hx hm) ?_
      (apply TL.delMap 0 (kv := iN) (vv := iN) (es := es) (k := k); exact rfl; exact rfl; exact tb rfl; exact rfl; exact keyI; exact ⟨_, (tb rfl : TabOk Try.prog 3 _).1⟩; exact rfl; exact rfl)
      have hx2 : (wl.set a (some (mb, dropE es k)))[a]? = some (some (mb, dropE es k)) := by rw [List.getElem?_set_self (List.getElem?_eq_some_iff.1 hx).1]
      refine TL.imp (Δ := row b12 [.slice A (R).length c] 54 :: ownO 3 (.slice A (R).length c) (R).length (ints (R)) :: own 121 1 (.slice (some ⟨wB, 0, none⟩) rows.length rows.length) rows.length ((wl.set a (some (mb, dropE es k))).map Wt.v) :: alls Wt.h (wl.set a (some (mb, dropE es k))) :: own 54 1 (.slice Q2 (O' ++ [k]).length qc2) (O' ++ [k]).length (((O' ++ [k]).map fun k => rows.getD k rw0).map Rw.v) :: own 54 1 (.slice (some ⟨lB, 0, none⟩) rows.length rows.length) rows.length (lr.map Rw.v) :: alls (Rw.h 3) lr :: row b11 [.func (.func 72) #[] #[.pointer (some ⟨b1, 0, none⟩)]] 122 :: row b1 [.pointer (some ⟨bf, 0, none⟩)] 81 :: row b135 [rk.v] 54 :: Γ2) (fun m hm => ?_) ?_
      · have h5 := all_in3 (f := Wt.h) (Δ := [_, _, _]) (some (mb, dropE es k)) hx hm
        rw [← wt_set (y := some (mb, dropE es k)) hx rfl] at h5
        exact h5
      have hcx2 : has (row b12 [.slice A (R).length c] 54 :: ownO 3 (.slice A (R).length c) (R).length (ints (R)) :: own 121 1 (.slice (some ⟨wB, 0, none⟩) rows.length rows.length) rows.length ((wl.set a (some (mb, dropE es k))).map Wt.v) :: alls Wt.h (wl.set a (some (mb, dropE es k))) :: own 54 1 (.slice Q2 (O' ++ [k]).length qc2) (O' ++ [k]).length (((O' ++ [k]).map fun k => rows.getD k rw0).map Rw.v) :: own 54 1 (.slice (some ⟨lB, 0, none⟩) rows.length rows.length) rows.length (lr.map Rw.v) :: alls (Rw.h 3) lr :: row b11 [.func (.func 72) #[] #[.pointer (some ⟨b1, 0, none⟩)]] 122 :: row b1 [.pointer (some ⟨bf, 0, none⟩)] 81 :: row b135 [rk.v] 54 :: Γ2) (fun m => cellAt m wB (0 + a) (.map (some mb))) := has_v (has_at (up_src 1 (some ⟨wB, 0, none⟩) rows.length ((wl.set a (some (mb, dropE es k))).map Wt.v)) 2 rfl fun _ h => own_src h) (by rw [List.getElem?_map, hx2]; rfl)
      rw [Nat.zero_add] at hcx2
      clear hcx hrow hca
      have hnt : noTwo es := hxok.1
      have hdg : ∀ b, lookE (dropE es k) b = if k = b then none else lookE es b := fun b => lookE_drop hnt
      have hstep : ∀ x b, ((Gph.Lead (outR.map Rw.w) of x b ∧ b ∉ O') ∧ ¬ (b = k ∧ x ∈ dr.w.take (p + 1))) ↔ ((Gph.Lead (outR.map Rw.w) of x b ∧ b ∉ O') ∧ ¬ (b = k ∧ x ∈ dr.w.take p)) ∧ ¬ (x = a ∧ b = k) := fun x b => by
        rw [List.take_add_one, ha, Option.toList_some, List.mem_append, List.mem_singleton]
        constructor
        · rintro ⟨h1, h2⟩
          exact ⟨⟨h1, fun h => h2 ⟨h.1, .inl h.2⟩⟩, fun h => h2 ⟨h.2, .inr h.1⟩⟩
        · rintro ⟨⟨h1, h2⟩, h3⟩
          exact ⟨h1, fun h => h.2.elim (fun h' => h2 ⟨h.1, h'⟩) fun h' => h3 ⟨h', h.1⟩⟩
      have hgd : ∀ b, (lookE (dropE es k) b ≠ none ↔ ((Gph.Lead (outR.map Rw.w) of a b ∧ b ∉ O') ∧ ¬ (b = k ∧ a ∈ dr.w.take (p + 1)))) := fun b => by
        rw [hdg, hstep]
        by_cases hb : k = b
        · rw [if_pos hb]; exact ⟨fun h => absurd rfl h, fun h => absurd ⟨rfl, hb.symm⟩ h.2⟩
        · rw [if_neg hb]
          have := hxg b
          exact ⟨fun h => ⟨this.1 h, fun h => hb h.2.symm⟩, fun h => this.2 h.1⟩
      have hG2 : ∀ (x : Nat) (y : Wt), (wl.set a (some (mb, dropE es k)))[x]? = some y → Wt.ok y ∧ ∀ b, y.get b ≠ none ↔ ((Gph.Lead (outR.map Rw.w) of x b ∧ b ∉ O') ∧ ¬ (b = k ∧ x ∈ dr.w.take (p + 1))) := fun x y hy => by
        rw [List.getElem?_set] at hy
        split at hy
        · rename_i hax
          subst hax
          try rw [if_pos (List.getElem?_eq_some_iff.1 hx).1] at hy
          injection hy with hy
          subst hy
          exact ⟨⟨noTwo_drop hnt, Nat.le_trans (dropE_sub es).length_le hxok.2⟩, hgd⟩
        · rename_i hax
          refine ⟨(hG x y hy).1, fun b => ?_⟩
          rw [(hG x y hy).2, hstep]
          exact ⟨fun h => ⟨h, fun hc => hax hc.1.symm⟩, fun h => h.1⟩
      have hKl := fun at_ => Gph.KI.less (at_ := at_) (a := a) (k := k) (W' := fun x b => (Gph.Lead (outR.map Rw.w) of x b ∧ b ∉ O') ∧ ¬ (b = k ∧ x ∈ dr.w.take (p + 1))) hK2 hfi ⟨⟨hLa, hkO⟩, fun h => haT h.2⟩ ham haO hstep
      have hzz : Wt.len (some (mb, dropE es k)) = 0 ↔ ∀ b, ¬ ((Gph.Lead (outR.map Rw.w) of a b ∧ b ∉ O') ∧ ¬ (b = k ∧ a ∈ dr.w.take (p + 1))) := by
        rw [Wt.len_zero]
        refine forall_congr' fun b => ?_
        rw [← hgd b]
        exact ⟨fun h hc => hc h, fun h => Classical.not_not.1 h⟩
      refine m_run ?_
      (apply TL.pv; exact rfl; (apply PV.lenWt (x := some (mb, dropE es k)); exact rfl; exact tb rfl; exact rfl; exact (fun y hy => by injection hy with hy; subst hy; exact has_allsW (k := 3) (up_map _ _ _ _) rfl hx2 fun _ h => mapA_at h)))
      by_cases hz : Wt.len (some (mb, dropE es k)) = 0
      · refine m_run ?_
        (apply TL.callFV (fs := []) (cs := [.pointer (some ⟨b12, 0, none⟩), .pointer (some ⟨b11, 0, none⟩)]); exact rfl; exact rfl; exact callB_of (by kernel_rfl); exact rfl; exact fun _ h => h)
        have q11 : has (own 121 1 (.slice (some ⟨wB, 0, none⟩) rows.length rows.length) rows.length ((wl.set a (some (mb, dropE es k))).map Wt.v) :: alls Wt.h (wl.set a (some (mb, dropE es k))) :: own 54 1 (.slice Q2 (O' ++ [k]).length qc2) (O' ++ [k]).length (((O' ++ [k]).map fun k => rows.getD k rw0).map Rw.v) :: own 54 1 (.slice (some ⟨lB, 0, none⟩) rows.length rows.length) rows.length (lr.map Rw.v) :: alls (Rw.h 3) lr :: row b11 [.func (.func 72) #[] #[.pointer (some ⟨b1, 0, none⟩)]] 122 :: row b1 [.pointer (some ⟨bf, 0, none⟩)] 81 :: row b135 [rk.v] 54 :: Γ2) (fun m => cellAt m b11 0 (.func (.func 72) #[] #[.pointer (some ⟨b1, 0, none⟩)])) := has_row 5 rfl rfl
        have q1 : has (own 121 1 (.slice (some ⟨wB, 0, none⟩) rows.length rows.length) rows.length ((wl.set a (some (mb, dropE es k))).map Wt.v) :: alls Wt.h (wl.set a (some (mb, dropE es k))) :: own 54 1 (.slice Q2 (O' ++ [k]).length qc2) (O' ++ [k]).length (((O' ++ [k]).map fun k => rows.getD k rw0).map Rw.v) :: own 54 1 (.slice (some ⟨lB, 0, none⟩) rows.length rows.length) rows.length (lr.map Rw.v) :: alls (Rw.h 3) lr :: row b11 [.func (.func 72) #[] #[.pointer (some ⟨b1, 0, none⟩)]] 122 :: row b1 [.pointer (some ⟨bf, 0, none⟩)] 81 :: row b135 [rk.v] 54 :: Γ2) (fun m => cellAt m b1 0 (.pointer (some ⟨bf, 0, none⟩))) := has_row 6 rfl rfl
        have q4 : has (own 121 1 (.slice (some ⟨wB, 0, none⟩) rows.length rows.length) rows.length ((wl.set a (some (mb, dropE es k))).map Wt.v) :: alls Wt.h (wl.set a (some (mb, dropE es k))) :: own 54 1 (.slice Q2 (O' ++ [k]).length qc2) (O' ++ [k]).length (((O' ++ [k]).map fun k => rows.getD k rw0).map Rw.v) :: own 54 1 (.slice (some ⟨lB, 0, none⟩) rows.length rows.length) rows.length (lr.map Rw.v) :: alls (Rw.h 3) lr :: row b11 [.func (.func 72) #[] #[.pointer (some ⟨b1, 0, none⟩)]] 122 :: row b1 [.pointer (some ⟨bf, 0, none⟩)] 81 :: row b135 [rk.v] 54 :: Γ2) (fun m => cellAt m bf 4 (.slice (some ⟨gp, op, none⟩) rows.length pc)) := has_tlc (has_tlc (has_tlc (has_tlc (has_tlc (has_tlc (has_tlc (has_tlc (has_sublist (up_cell _ _ _) hs2 h4))))))))
        exact add_t b12 b11 b1 bf (some ⟨gp, op, none⟩) pc rows A c R a (own 121 1 (.slice (some ⟨wB, 0, none⟩) rows.length rows.length) rows.length ((wl.set a (some (mb, dropE es k))).map Wt.v) :: alls Wt.h (wl.set a (some (mb, dropE es k))) :: own 54 1 (.slice Q2 (O' ++ [k]).length qc2) (O' ++ [k]).length (((O' ++ [k]).map fun k => rows.getD k rw0).map Rw.v) :: own 54 1 (.slice (some ⟨lB, 0, none⟩) rows.length rows.length) rows.length (lr.map Rw.v) :: alls (Rw.h 3) lr :: row b11 [.func (.func 72) #[] #[.pointer (some ⟨b1, 0, none⟩)]] 122 :: row b1 [.pointer (some ⟨bf, 0, none⟩)] 81 :: row b135 [rk.v] 54 :: Γ2) q11 q1 q4 (hP.sub hs2).tl.tl.tl.tl.tl.tl.tl.tl hne hlt (fun x hx => ((hK2.iff x).1 hx).1) ham (by omega) (by omega) (by rw [← hf]; exact hK2.sort)
        rintro _ _ ⟨rfl, at_, A', c', hat, rfl⟩
        rw [← hf] at hat
        have hK3 := (hKl at_).1 (hzz.1 hz) hat
        refine m_run ?_
        exact IH2 (j2 - 1) _ _ (by omega) ⟨p + 1, insL R at_ a, A', c', wl.set a (some (mb, dropE es k)), by omega, hK3, by rw [List.length_set]; exact hlw, hG2, rfl, rfl, rfl, rfl, rfl, rfl, rfl, hv140, rfl, congrArg (Value.int .i64) (i64_succ p (by omega)), rfl⟩
      · refine m_run ?_
        exact IH2 (j2 - 1) _ _ (by omega) ⟨p + 1, R, A, c, wl.set a (some (mb, dropE es k)), by omega, (hKl 0).2 (fun h => hz (hzz.2 h)), by rw [List.length_set]; exact hlw, hG2, rfl, rfl, rfl, rfl, rfl, rfl, rfl, hv140, rfl, congrArg (Value.int .i64) (i64_succ p (by omega)), rfl⟩
    obtain rfl : p = dr.w.length := by omega
    rw [List.take_length] at hK2 hG
    have hfin : ∀ a b, ((Gph.Lead (outR.map Rw.w) of a b ∧ b ∉ O') ∧ ¬ (b = k ∧ a ∈ dr.w)) ↔ Gph.Lead (outR.map Rw.w) of a b ∧ b ∉ O' ++ [k] := fun a b => by
      rw [List.mem_append, List.mem_singleton]
      constructor
      · rintro ⟨⟨h1, h2⟩, h3⟩
        refine ⟨h1, fun h => h.elim h2 fun e => h3 ⟨e, (hDm a).2 (e ▸ h1)⟩⟩
      · rintro ⟨h1, h2⟩
        exact ⟨⟨h1, fun h => h2 (.inl h)⟩, fun h => h2 (.inr h.1)⟩
    have hT2 := hT.snoc hK
    have hOl2 := Gph.nodup_len hT2.nodup hT2.lt
    rw [List.length_append, List.length_singleton] at hOl2
    refine m_run ?_
    exact IH (j - 1) _ _ (by omega) ⟨O' ++ [k], R, A, c, wl, Q2, qc2, _, by simp; omega, .cons _ hs2, hT2, hK2.congr hfin, hlw, fun a x hx => ⟨(hG a x hx).1, fun b => by rw [(hG a x hx).2, hfin]⟩, rfl, rfl, rfl, rfl, rfl, rfl, rfl⟩
end Go.Proofs.Ytndmjpceocecdaa.E

/- graph.Parts: walked. -/
namespace Go.Proofs.Ytndmjpceocecdaa.E
open Go Go.RowKit Go.Proofs
attribute [local irreducible] TK TL TQ TA TB Fn PV
section
variable {cx : Cx} {ops : Array Oper} {k : List Item} {ρ : Env} {ds : List Deferred} {Γ Γ₀ : List HP} {fuel : Nat} {listed : Array Bool}
theorem TA.three (i j l : Nat) {o o' o'' : Oper} (hr : Region.ready .any ops listed = [i, j, l]) (hi : ops[i]? = some o) (hj : ops[j]? = some o') (hl : ops[l]? = some o'')
    (h : TL cx ops (KA cx ops Γ₀ fuel (listed.setIfInBounds i true) k) [o] ρ ds Γ)
    (h' : TL cx ops (KA cx ops Γ₀ fuel (listed.setIfInBounds j true) k) [o'] ρ ds Γ)
    (h'' : TL cx ops (KA cx ops Γ₀ fuel (listed.setIfInBounds l true) k) [o''] ρ ds Γ) : TA cx ops Γ₀ (fuel + 1) listed k ρ ds Γ := by
  unfold TA
  unfold TL at h h' h''
  intro a w hmd hrp hsat
  refine wpAnyH_all hr (by simp) ?_
  intro q hq
  simp only [List.mem_cons, List.not_mem_nil, or_false] at hq
  rcases hq with rfl | rfl | rfl
  · exact wpOp_of_one hi (fun a w hK => ⟨hK.1, hK.2 hmd⟩) (wpL_plain hmd (h a w hrp hsat))
  · exact wpOp_of_one hj (fun a w hK => ⟨hK.1, hK.2 hmd⟩) (wpL_plain hmd (h' a w hrp hsat))
  · exact wpOp_of_one hl (fun a w hK => ⟨hK.1, hK.2 hmd⟩) (wpL_plain hmd (h'' a w hrp hsat))
end
theorem zerosL_seen (n : Nat) : zerosL [.int .i64 0, .int .i64 0] n = seenC (List.replicate n (0, 0)) := by
  induction n with
  | zero => rfl
  | succ n ih =>
    rw [List.replicate_succ]
    show [Value.int .i64 0, .int .i64 0] ++ zerosL _ n = seC (0, 0) ++ seenC _
    rw [ih]; rfl
/-- An edge as it is handed in. -/
def prC (x : Int × Int) : List Value := [.int .i64 x.1, .int .i64 x.2]
theorem prC_len (x : Int × Int) : (prC x).length = 2 := rfl
def badE (n : Int) (x : Int × Int) : Bool := decide (min x.1 x.2 < 0) || decide (n ≤ max x.1 x.2)
/-- Which error there is. -/
def pErr (n : Int) (es : List (Int × Int)) : Int := if 4096 < n ∨ 16384 < es.length then 6 else if n < 0 then 1 else if es.any (badE n) then 1 else 0
def edN (x : Int × Int) : Nat × Nat := (x.1.toNat, x.2.toNat)
abbrev edsN (es : List (Int × Int)) : List (Nat × Nat) := es.map edN
set_option maxRecDepth 100000 in
set_option maxHeartbeats 16000000 in
theorem partsX_t (nI : Int) (A : Option Addr) (c : Nat) (es : List (Int × Int)) (Γ : List HP) (hs : has Γ (srcAt 2 A es.length (es.flatMap prC))) (hel : es.length ≤ 1000000000) :
    FnV Try.prog 23 [.int .i64 nI, .slice A es.length c] Γ
      fun v Γ' => ∃ (Q : Option Addr) (qc : Nat) (L rows : List Rw), v = .tuple #[.slice Q L.length qc, .int .i64 (pErr nI es)] ∧ (∀ r ∈ L, r ∈ rows) ∧ (own 54 1 (.slice Q L.length qc) L.length (L.map Rw.v) :: alls (Rw.h 3) rows :: Γ).Sublist Γ' ∧ (pErr nI es ≠ 0 → L = []) ∧ (pErr nI es = 0 → Gph.IsParts (Gph.El (edsN es)) nI.toNat (L.map Rw.w)) := by
  have herr : ∀ (Γ' : List HP), Γ.Sublist Γ' → ∀ e : Int, e = pErr nI es → e ≠ 0 → ∃ (Q : Option Addr) (qc : Nat) (L rows : List Rw), Value.tuple #[.slice none 0 0, .int .i64 e] = .tuple #[.slice Q L.length qc, .int .i64 (pErr nI es)] ∧ (∀ r ∈ L, r ∈ rows) ∧ (own 54 1 (.slice Q L.length qc) L.length (L.map Rw.v) :: alls (Rw.h 3) rows :: Γ).Sublist (own 54 1 (.slice none 0 0) 0 [] :: alls (Rw.h 3) [] :: Γ') ∧ (pErr nI es ≠ 0 → L = []) ∧ (pErr nI es = 0 → Gph.IsParts (Gph.El (edsN es)) nI.toNat (L.map Rw.w)) := fun Γ' hS e he h0 =>
    ⟨none, 0, [], [], by rw [he]; rfl, (fun r hr => by cases hr), .cons_cons _ (.cons_cons _ hS), fun _ => rfl, fun h => absurd (he.trans h) h0⟩
  refine Fn.enter Try.func23 rfl rfl rfl fun E => ?_
  by_cases h1 : nI > 4096
  · refine m_run ?_
    refine TK.free (H := alls (Rw.h 3) []) (fun m hm => hm) ?_
    refine TK.free (H := own 54 1 (.slice none 0 0) 0 []) (fun m hm => own_nil _ _ hm) ?_
    (apply TK.ret2; exact rfl; exact rfl; (exact m_val); (exact m_val))
    exact ⟨_, rfl, herr _ (.refl _) 6 (by unfold pErr; rw [if_pos (.inl (by omega))]) (by decide)⟩
  by_cases h2 : es.length > 16384
  · refine m_run ?_
    refine TK.free (H := alls (Rw.h 3) []) (fun m hm => hm) ?_
    refine TK.free (H := own 54 1 (.slice none 0 0) 0 []) (fun m hm => own_nil _ _ hm) ?_
    (apply TK.ret2; exact rfl; exact rfl; (exact m_val); (exact m_val))
    exact ⟨_, rfl, herr _ (.refl _) 6 (by unfold pErr; rw [if_pos (.inr (by omega))]) (by decide)⟩
  by_cases h3 : nI < 0
  · refine m_run ?_
    refine TK.free (H := alls (Rw.h 3) []) (fun m hm => hm) ?_
    refine TK.free (H := own 54 1 (.slice none 0 0) 0 []) (fun m hm => own_nil _ _ hm) ?_
    (apply TK.ret2; exact rfl; exact rfl; (exact m_val); (exact m_val))
    exact ⟨_, rfl, herr _ (.refl _) 1 (by unfold pErr; rw [if_neg (by omega), if_pos h3]) (by decide)⟩
  obtain ⟨n, rfl⟩ : ∃ n : Nat, nI = (n : Int) := ⟨nI.toNat, by omega⟩
  have hn : n ≤ 4096 := by omega
  have hmx : n ≤ maxLen := by unfold maxLen; omega
  refine m_run ?_
  refine TK.drawS mixed rfl ?_
  refine m_take (At.mk : At 0) ?_; refine m_take (At.mk : At 2) ?_; refine m_take (At.mk : At 5) ?_
  refine TA.cutJ [1, 3, 4, 6] (fun ρ' Γ' => ∃ (oB sB fB : Nat), lk ρ' 0 = .int .i64 (n : Int) ∧ lk ρ' 1 = .slice A es.length c ∧ lk ρ' 21 = .slice (some ⟨oB, 0, none⟩) n n ∧ lk ρ' 23 = .slice (some ⟨sB, 0, none⟩) n n ∧ lk ρ' 26 = .slice (some ⟨fB, 0, none⟩) n n ∧ Γ' = own 54 1 (.slice (some ⟨oB, 0, none⟩) n n) n (List.replicate n (.slice none 0 0)) :: own 87 2 (.slice (some ⟨sB, 0, none⟩) n n) n (seenC (List.replicate n (0, 0))) :: own 3 1 (.slice (some ⟨fB, 0, none⟩) n n) n (List.replicate n (.int .i64 (-1))) :: Γ) rfl ?_ ?_
  · intro tail
    (apply TA.three 1 3 4; kernel_rfl; exact rfl; exact rfl; exact rfl)
    · skip
      (apply TL.makeN (n := n) (c := n); exact rfl; exact rfl; exact rfl; exact tb rfl; exact rfl; exact tb rfl; exact rfl; exact rfl; exact Nat.le_refl _; exact (show 24 * n ≤ _ by omega); exact hmx)
      intro oB
      refine TL.back (by (focus ((repeat (first | assumption | exact Ent.refl _ | apply Ent.tail)); done))) ?_
      (apply TA.two 3 4; kernel_rfl; exact rfl; exact rfl)
      · skip
        (apply TL.makeG (n := n) (cs := seenC (List.replicate n (0, 0))); exact rfl; exact rfl; exact rfl; exact tb rfl; exact rfl; exact tb rfl; exact rfl; exact (show 16 * n ≤ _ by omega); exact hmx; exact zerosL_seen n)
        intro sB
        refine TL.back (by (focus ((repeat (first | assumption | exact Ent.refl _ | apply Ent.tail)); done))) ?_
        (apply TA.one 4; kernel_rfl; exact rfl)
        (apply TL.buildSlice (l := [.int .i64 (-1)]); exact rfl; exact tb rfl; exact rfl; exact tb rfl; exact rfl; exact rfl; exact rfl; exact rfl; exact rfl)
        intro b24
        refine TL.back (by (focus ((repeat (first | assumption | exact Ent.refl _ | apply Ent.tail)); done))) ?_
        (apply TA.one 6; kernel_rfl; exact rfl)
        (apply TL.callV; exact rfl; exact callB_of (by kernel_rfl); exact rfl; exact fun _ h => h)
        exact repeat_t b24 n (by omega) _
        rintro _ _ ⟨fB, rfl, rfl⟩
        refine TL.back (by (focus ((repeat (first | assumption | exact Ent.refl _ | apply Ent.tail)); done))) ?_
        refine TA.perm ((List.perm_middle (l₁ := [_, _])).trans (List.Perm.cons _ (List.perm_middle (l₁ := [_])))) ?_
        refine TA.eqL ?_ (tail _ _ ⟨oB, sB, fB, rfl, rfl, rfl, rfl, rfl, rfl⟩)
        kernel_rfl
      · skip
        (apply TL.buildSlice (l := [.int .i64 (-1)]); exact rfl; exact tb rfl; exact rfl; exact tb rfl; exact rfl; exact rfl; exact rfl; exact rfl; exact rfl)
        intro b24
        refine TL.back (by (focus ((repeat (first | assumption | exact Ent.refl _ | apply Ent.tail)); done))) ?_
        (apply TA.two 3 6; kernel_rfl; exact rfl; exact rfl)
        · skip
          (apply TL.makeG (n := n) (cs := seenC (List.replicate n (0, 0))); exact rfl; exact rfl; exact rfl; exact tb rfl; exact rfl; exact tb rfl; exact rfl; exact (show 16 * n ≤ _ by omega); exact hmx; exact zerosL_seen n)
          intro sB
          refine TL.back (by (focus ((repeat (first | assumption | exact Ent.refl _ | apply Ent.tail)); done))) ?_
          (apply TA.one 6; kernel_rfl; exact rfl)
          refine TL.perm (List.perm_middle (l₁ := [_])) ?_
          (apply TL.callV; exact rfl; exact callB_of (by kernel_rfl); exact rfl; exact fun _ h => h)
          exact repeat_t b24 n (by omega) _
          rintro _ _ ⟨fB, rfl, rfl⟩
          refine TL.back (by (focus ((repeat (first | assumption | exact Ent.refl _ | apply Ent.tail)); done))) ?_
          refine TA.perm ((List.perm_middle (l₁ := [_, _])).trans (List.Perm.cons _ (List.perm_middle (l₁ := [_])))) ?_
          refine TA.eqL ?_ (tail _ _ ⟨oB, sB, fB, rfl, rfl, rfl, rfl, rfl, rfl⟩)
          kernel_rfl
        · skip
          (apply TL.callV; exact rfl; exact callB_of (by kernel_rfl); exact rfl; exact fun _ h => h)
          exact repeat_t b24 n (by omega) _
          rintro _ _ ⟨fB, rfl, rfl⟩
          refine TL.back (by (focus ((repeat (first | assumption | exact Ent.refl _ | apply Ent.tail)); done))) ?_
          (apply TA.one 3; kernel_rfl; exact rfl)
          (apply TL.makeG (n := n) (cs := seenC (List.replicate n (0, 0))); exact rfl; exact rfl; exact rfl; exact tb rfl; exact rfl; exact tb rfl; exact rfl; exact (show 16 * n ≤ _ by omega); exact hmx; exact zerosL_seen n)
          intro sB
          refine TL.back (by (focus ((repeat (first | assumption | exact Ent.refl _ | apply Ent.tail)); done))) ?_
          refine TA.perm (List.perm_middle (l₁ := [_, _])) ?_
          refine TA.eqL ?_ (tail _ _ ⟨oB, sB, fB, rfl, rfl, rfl, rfl, rfl, rfl⟩)
          kernel_rfl
    · skip
      (apply TL.makeG (n := n) (cs := seenC (List.replicate n (0, 0))); exact rfl; exact rfl; exact rfl; exact tb rfl; exact rfl; exact tb rfl; exact rfl; exact (show 16 * n ≤ _ by omega); exact hmx; exact zerosL_seen n)
      intro sB
      refine TL.back (by (focus ((repeat (first | assumption | exact Ent.refl _ | apply Ent.tail)); done))) ?_
      (apply TA.two 1 4; kernel_rfl; exact rfl; exact rfl)
      · skip
        (apply TL.makeN (n := n) (c := n); exact rfl; exact rfl; exact rfl; exact tb rfl; exact rfl; exact tb rfl; exact rfl; exact rfl; exact Nat.le_refl _; exact (show 24 * n ≤ _ by omega); exact hmx)
        intro oB
        refine TL.back (by (focus ((repeat (first | assumption | exact Ent.refl _ | apply Ent.tail)); done))) ?_
        (apply TA.one 4; kernel_rfl; exact rfl)
        (apply TL.buildSlice (l := [.int .i64 (-1)]); exact rfl; exact tb rfl; exact rfl; exact tb rfl; exact rfl; exact rfl; exact rfl; exact rfl; exact rfl)
        intro b24
        refine TL.back (by (focus ((repeat (first | assumption | exact Ent.refl _ | apply Ent.tail)); done))) ?_
        (apply TA.one 6; kernel_rfl; exact rfl)
        (apply TL.callV; exact rfl; exact callB_of (by kernel_rfl); exact rfl; exact fun _ h => h)
        exact repeat_t b24 n (by omega) _
        rintro _ _ ⟨fB, rfl, rfl⟩
        refine TL.back (by (focus ((repeat (first | assumption | exact Ent.refl _ | apply Ent.tail)); done))) ?_
        refine TA.perm ((List.perm_middle (l₁ := [_])).trans (List.Perm.cons _ (List.perm_middle (l₁ := [_])))) ?_
        refine TA.eqL ?_ (tail _ _ ⟨oB, sB, fB, rfl, rfl, rfl, rfl, rfl, rfl⟩)
        kernel_rfl
      · skip
        (apply TL.buildSlice (l := [.int .i64 (-1)]); exact rfl; exact tb rfl; exact rfl; exact tb rfl; exact rfl; exact rfl; exact rfl; exact rfl; exact rfl)
        intro b24
        refine TL.back (by (focus ((repeat (first | assumption | exact Ent.refl _ | apply Ent.tail)); done))) ?_
        (apply TA.two 1 6; kernel_rfl; exact rfl; exact rfl)
        · skip
          (apply TL.makeN (n := n) (c := n); exact rfl; exact rfl; exact rfl; exact tb rfl; exact rfl; exact tb rfl; exact rfl; exact rfl; exact Nat.le_refl _; exact (show 24 * n ≤ _ by omega); exact hmx)
          intro oB
          refine TL.back (by (focus ((repeat (first | assumption | exact Ent.refl _ | apply Ent.tail)); done))) ?_
          (apply TA.one 6; kernel_rfl; exact rfl)
          refine TL.perm (List.perm_middle (l₁ := [_])) ?_
          (apply TL.callV; exact rfl; exact callB_of (by kernel_rfl); exact rfl; exact fun _ h => h)
          exact repeat_t b24 n (by omega) _
          rintro _ _ ⟨fB, rfl, rfl⟩
          refine TL.back (by (focus ((repeat (first | assumption | exact Ent.refl _ | apply Ent.tail)); done))) ?_
          refine TA.perm ((List.perm_middle (l₁ := [_])).trans (List.Perm.cons _ (List.perm_middle (l₁ := [_])))) ?_
          refine TA.eqL ?_ (tail _ _ ⟨oB, sB, fB, rfl, rfl, rfl, rfl, rfl, rfl⟩)
          kernel_rfl
        · skip
          (apply TL.callV; exact rfl; exact callB_of (by kernel_rfl); exact rfl; exact fun _ h => h)
          exact repeat_t b24 n (by omega) _
          rintro _ _ ⟨fB, rfl, rfl⟩
          refine TL.back (by (focus ((repeat (first | assumption | exact Ent.refl _ | apply Ent.tail)); done))) ?_
          (apply TA.one 1; kernel_rfl; exact rfl)
          (apply TL.makeN (n := n) (c := n); exact rfl; exact rfl; exact rfl; exact tb rfl; exact rfl; exact tb rfl; exact rfl; exact rfl; exact Nat.le_refl _; exact (show 24 * n ≤ _ by omega); exact hmx)
          intro oB
          refine TL.back (by (focus ((repeat (first | assumption | exact Ent.refl _ | apply Ent.tail)); done))) ?_
          refine TA.perm (List.Perm.cons _ (List.perm_middle (l₁ := [_]))) ?_
          refine TA.eqL ?_ (tail _ _ ⟨oB, sB, fB, rfl, rfl, rfl, rfl, rfl, rfl⟩)
          kernel_rfl
    · skip
      (apply TL.buildSlice (l := [.int .i64 (-1)]); exact rfl; exact tb rfl; exact rfl; exact tb rfl; exact rfl; exact rfl; exact rfl; exact rfl; exact rfl)
      intro b24
      refine TL.back (by (focus ((repeat (first | assumption | exact Ent.refl _ | apply Ent.tail)); done))) ?_
      (apply TA.three 1 3 6; kernel_rfl; exact rfl; exact rfl; exact rfl)
      · skip
        (apply TL.makeN (n := n) (c := n); exact rfl; exact rfl; exact rfl; exact tb rfl; exact rfl; exact tb rfl; exact rfl; exact rfl; exact Nat.le_refl _; exact (show 24 * n ≤ _ by omega); exact hmx)
        intro oB
        refine TL.back (by (focus ((repeat (first | assumption | exact Ent.refl _ | apply Ent.tail)); done))) ?_
        (apply TA.two 3 6; kernel_rfl; exact rfl; exact rfl)
        · skip
          (apply TL.makeG (n := n) (cs := seenC (List.replicate n (0, 0))); exact rfl; exact rfl; exact rfl; exact tb rfl; exact rfl; exact tb rfl; exact rfl; exact (show 16 * n ≤ _ by omega); exact hmx; exact zerosL_seen n)
          intro sB
          refine TL.back (by (focus ((repeat (first | assumption | exact Ent.refl _ | apply Ent.tail)); done))) ?_
          (apply TA.one 6; kernel_rfl; exact rfl)
          refine TL.perm (List.perm_middle (l₁ := [_, _])) ?_
          (apply TL.callV; exact rfl; exact callB_of (by kernel_rfl); exact rfl; exact fun _ h => h)
          exact repeat_t b24 n (by omega) _
          rintro _ _ ⟨fB, rfl, rfl⟩
          refine TL.back (by (focus ((repeat (first | assumption | exact Ent.refl _ | apply Ent.tail)); done))) ?_
          refine TA.perm ((List.perm_middle (l₁ := [_, _])).trans (List.Perm.cons _ (List.perm_middle (l₁ := [_])))) ?_
          refine TA.eqL ?_ (tail _ _ ⟨oB, sB, fB, rfl, rfl, rfl, rfl, rfl, rfl⟩)
          kernel_rfl
        · skip
          refine TL.perm (List.perm_middle (l₁ := [_])) ?_
          (apply TL.callV; exact rfl; exact callB_of (by kernel_rfl); exact rfl; exact fun _ h => h)
          exact repeat_t b24 n (by omega) _
          rintro _ _ ⟨fB, rfl, rfl⟩
          refine TL.back (by (focus ((repeat (first | assumption | exact Ent.refl _ | apply Ent.tail)); done))) ?_
          (apply TA.one 3; kernel_rfl; exact rfl)
          (apply TL.makeG (n := n) (cs := seenC (List.replicate n (0, 0))); exact rfl; exact rfl; exact rfl; exact tb rfl; exact rfl; exact tb rfl; exact rfl; exact (show 16 * n ≤ _ by omega); exact hmx; exact zerosL_seen n)
          intro sB
          refine TL.back (by (focus ((repeat (first | assumption | exact Ent.refl _ | apply Ent.tail)); done))) ?_
          refine TA.perm (List.perm_middle (l₁ := [_, _])) ?_
          refine TA.eqL ?_ (tail _ _ ⟨oB, sB, fB, rfl, rfl, rfl, rfl, rfl, rfl⟩)
          kernel_rfl
      · skip
        (apply TL.makeG (n := n) (cs := seenC (List.replicate n (0, 0))); exact rfl; exact rfl; exact rfl; exact tb rfl; exact rfl; exact tb rfl; exact rfl; exact (show 16 * n ≤ _ by omega); exact hmx; exact zerosL_seen n)
        intro sB
        refine TL.back (by (focus ((repeat (first | assumption | exact Ent.refl _ | apply Ent.tail)); done))) ?_
        (apply TA.two 1 6; kernel_rfl; exact rfl; exact rfl)
        · skip
          (apply TL.makeN (n := n) (c := n); exact rfl; exact rfl; exact rfl; exact tb rfl; exact rfl; exact tb rfl; exact rfl; exact rfl; exact Nat.le_refl _; exact (show 24 * n ≤ _ by omega); exact hmx)
          intro oB
          refine TL.back (by (focus ((repeat (first | assumption | exact Ent.refl _ | apply Ent.tail)); done))) ?_
          (apply TA.one 6; kernel_rfl; exact rfl)
          refine TL.perm (List.perm_middle (l₁ := [_, _])) ?_
          (apply TL.callV; exact rfl; exact callB_of (by kernel_rfl); exact rfl; exact fun _ h => h)
          exact repeat_t b24 n (by omega) _
          rintro _ _ ⟨fB, rfl, rfl⟩
          refine TL.back (by (focus ((repeat (first | assumption | exact Ent.refl _ | apply Ent.tail)); done))) ?_
          refine TA.perm ((List.perm_middle (l₁ := [_])).trans (List.Perm.cons _ (List.perm_middle (l₁ := [_])))) ?_
          refine TA.eqL ?_ (tail _ _ ⟨oB, sB, fB, rfl, rfl, rfl, rfl, rfl, rfl⟩)
          kernel_rfl
        · skip
          refine TL.perm (List.perm_middle (l₁ := [_])) ?_
          (apply TL.callV; exact rfl; exact callB_of (by kernel_rfl); exact rfl; exact fun _ h => h)
          exact repeat_t b24 n (by omega) _
          rintro _ _ ⟨fB, rfl, rfl⟩
          refine TL.back (by (focus ((repeat (first | assumption | exact Ent.refl _ | apply Ent.tail)); done))) ?_
          (apply TA.one 1; kernel_rfl; exact rfl)
          (apply TL.makeN (n := n) (c := n); exact rfl; exact rfl; exact rfl; exact tb rfl; exact rfl; exact tb rfl; exact rfl; exact rfl; exact Nat.le_refl _; exact (show 24 * n ≤ _ by omega); exact hmx)
          intro oB
          refine TL.back (by (focus ((repeat (first | assumption | exact Ent.refl _ | apply Ent.tail)); done))) ?_
          refine TA.perm (List.Perm.cons _ (List.perm_middle (l₁ := [_]))) ?_
          refine TA.eqL ?_ (tail _ _ ⟨oB, sB, fB, rfl, rfl, rfl, rfl, rfl, rfl⟩)
          kernel_rfl
      · skip
        (apply TL.callV; exact rfl; exact callB_of (by kernel_rfl); exact rfl; exact fun _ h => h)
        exact repeat_t b24 n (by omega) _
        rintro _ _ ⟨fB, rfl, rfl⟩
        refine TL.back (by (focus ((repeat (first | assumption | exact Ent.refl _ | apply Ent.tail)); done))) ?_
        (apply TA.two 1 3; kernel_rfl; exact rfl; exact rfl)
        · skip
          (apply TL.makeN (n := n) (c := n); exact rfl; exact rfl; exact rfl; exact tb rfl; exact rfl; exact tb rfl; exact rfl; exact rfl; exact Nat.le_refl _; exact (show 24 * n ≤ _ by omega); exact hmx)
          intro oB
          refine TL.back (by (focus ((repeat (first | assumption | exact Ent.refl _ | apply Ent.tail)); done))) ?_
          (apply TA.one 3; kernel_rfl; exact rfl)
          (apply TL.makeG (n := n) (cs := seenC (List.replicate n (0, 0))); exact rfl; exact rfl; exact rfl; exact tb rfl; exact rfl; exact tb rfl; exact rfl; exact (show 16 * n ≤ _ by omega); exact hmx; exact zerosL_seen n)
          intro sB
          refine TL.back (by (focus ((repeat (first | assumption | exact Ent.refl _ | apply Ent.tail)); done))) ?_
          refine TA.perm (List.perm_middle (l₁ := [_])) ?_
          refine TA.eqL ?_ (tail _ _ ⟨oB, sB, fB, rfl, rfl, rfl, rfl, rfl, rfl⟩)
          kernel_rfl
        · skip
          (apply TL.makeG (n := n) (cs := seenC (List.replicate n (0, 0))); exact rfl; exact rfl; exact rfl; exact tb rfl; exact rfl; exact tb rfl; exact rfl; exact (show 16 * n ≤ _ by omega); exact hmx; exact zerosL_seen n)
          intro sB
          refine TL.back (by (focus ((repeat (first | assumption | exact Ent.refl _ | apply Ent.tail)); done))) ?_
          (apply TA.one 1; kernel_rfl; exact rfl)
          (apply TL.makeN (n := n) (c := n); exact rfl; exact rfl; exact rfl; exact tb rfl; exact rfl; exact tb rfl; exact rfl; exact rfl; exact Nat.le_refl _; exact (show 24 * n ≤ _ by omega); exact hmx)
          intro oB
          refine TL.back (by (focus ((repeat (first | assumption | exact Ent.refl _ | apply Ent.tail)); done))) ?_
          refine TA.eqL ?_ (tail _ _ ⟨oB, sB, fB, rfl, rfl, rfl, rfl, rfl, rfl⟩)
          kernel_rfl
  rintro ρ3 _ ⟨oB, sB, fB, q0, q1, q21, q23, q26, rfl⟩
  refine TA.know (t := 0) (v := .int .i64 (n : Int)) q0 ?_
  refine TA.know (t := 1) (v := .slice A es.length c) q1 ?_
  refine TA.know (t := 21) (v := .slice (some ⟨oB, 0, none⟩) n n) q21 ?_
  refine TA.know (t := 23) (v := .slice (some ⟨sB, 0, none⟩) n n) q23 ?_
  refine TA.know (t := 26) (v := .slice (some ⟨fB, 0, none⟩) n n) q26 ?_
  (apply TA.takeA (At.mk : At 7); exact rfl; exact rfl; kernel_rfl; ((focus ((repeat (first | assumption | exact Ent.refl _ | apply Ent.tail)); done))); (apply PV.build tabs; exact rfl; exact rfl; exact rfl; exact rfl; exact rfl; exact (rfl : _ = ([.slice (some ⟨oB, 0, none⟩) n n, .slice (some ⟨sB, 0, none⟩) n n, .slice none 0 0, .slice (some ⟨fB, 0, none⟩) n n, .slice none 0 0, .int .i64 0] : List Value))))
  (apply TA.one 8; kernel_rfl; exact rfl)
  (apply TL.box; exact rfl; exact rfl; exact (rfl : _ = ([.slice (some ⟨oB, 0, none⟩) n n, .slice (some ⟨sB, 0, none⟩) n n, .slice none 0 0, .slice (some ⟨fB, 0, none⟩) n n, .slice none 0 0, .int .i64 0] : List Value)))
  intro bf
  refine TL.back (by (focus ((repeat (first | assumption | exact Ent.refl _ | apply Ent.tail)); done))) ?_
  refine m_take (At.mk : At 9) ?_
  refine TA.done (by kernel_rfl) ?_
  refine m_run ?_
  refine TK.free (H := alls (Rw.h 3) (List.replicate n rw0)) (fun m hm => rws0 _ n hm) ?_
  refine TK.imp (Δ := own 54 1 (.slice (some ⟨oB, 0, none⟩) n n) n ((List.replicate n rw0).map Rw.v) :: alls (Rw.h 3) (List.replicate n rw0) :: row bf [.slice (some ⟨oB, 0, none⟩) n n, .slice (some ⟨sB, 0, none⟩) n n, .slice none 0 0, .slice (some ⟨fB, 0, none⟩) n n, .slice none 0 0, .int .i64 0] 85 :: own 87 2 (.slice (some ⟨sB, 0, none⟩) n n) n (seenC (List.replicate n (0, 0))) :: own 3 1 (.slice (some ⟨fB, 0, none⟩) n n) n (List.replicate n (.int .i64 (-1))) :: Γ) (fun m hm => ?_) ?_
  · have h5 := all_perm (List.Perm.trans (List.Perm.cons _ (List.Perm.swap _ _ _)) (List.Perm.swap _ _ _)) hm
    refine sep_mono h5 (fun _ h => ?_) (fun _ h => h)
    rw [show (List.replicate n rw0).map Rw.v = List.replicate n (.slice none 0 0) by rw [List.map_replicate]; rfl]
    exact h
  apply TK.iter (fun j ρ' Γ' => ∃ (i : Nat) (or_ : List Rw) (Γ2 : List HP), i + j = es.length ∧ Γ.Sublist Γ2 ∧ or_.length = n ∧ (∀ x ∈ es.take i, badE n x = false) ∧ (∀ (v : Nat) (r : Rw), or_[v]? = some r → r.w.length ≤ i ∧ ∀ w, w ∈ r.w ↔ (v, w) ∈ edsN (es.take i)) ∧ lk ρ' 0 = .int .i64 (n : Int) ∧ lk ρ' 6 = .pointer (some ⟨bf, 0, none⟩) ∧ lk ρ' 29 = .slice A es.length c ∧ lk ρ' 30 = .int .i64 (es.length : Int) ∧ lk ρ' 31 = .int .i64 (i : Int) ∧ Γ' = own 54 1 (.slice (some ⟨oB, 0, none⟩) n n) n (or_.map Rw.v) :: alls (Rw.h 3) or_ :: row bf [.slice (some ⟨oB, 0, none⟩) n n, .slice (some ⟨sB, 0, none⟩) n n, .slice none 0 0, .slice (some ⟨fB, 0, none⟩) n n, .slice none 0 0, .int .i64 0] 85 :: own 87 2 (.slice (some ⟨sB, 0, none⟩) n n) n (seenC (List.replicate n (0, 0))) :: own 3 1 (.slice (some ⟨fB, 0, none⟩) n n) n (List.replicate n (.int .i64 (-1))) :: Γ2) es.length
  · refine ⟨0, List.replicate n rw0, Γ, Nat.zero_add _, .refl _, List.length_replicate, fun x hx => (by cases hx), fun v r hr => ?_, rfl, rfl, rfl, rfl, rfl, rfl⟩
    obtain rfl := List.eq_of_mem_replicate (List.mem_of_getElem? hr)
    exact ⟨Nat.le_refl _, fun w => ⟨fun h => (by cases h), fun h => by cases h⟩⟩
  rintro j IH ρ' _ ⟨i, or_, Γ2, hij, hs2, hol, hbad, hor, e0, e6, e29, e30, e31, rfl⟩
  refine TK.know5 e0 e6 e29 e30 e31 ?_
  by_cases hi : i < es.length
  · obtain ⟨x, hx⟩ : ∃ x, es[i]? = some x := ⟨es[i], List.getElem?_eq_getElem hi⟩
    have hsx : has (own 54 1 (.slice (some ⟨oB, 0, none⟩) n n) n (or_.map Rw.v) :: alls (Rw.h 3) or_ :: row bf [.slice (some ⟨oB, 0, none⟩) n n, .slice (some ⟨sB, 0, none⟩) n n, .slice none 0 0, .slice (some ⟨fB, 0, none⟩) n n, .slice none 0 0, .int .i64 0] 85 :: own 87 2 (.slice (some ⟨sB, 0, none⟩) n n) n (seenC (List.replicate n (0, 0))) :: own 3 1 (.slice (some ⟨fB, 0, none⟩) n n) n (List.replicate n (.int .i64 (-1))) :: Γ2) (srcAt 2 A es.length (es.flatMap prC)) := has_tls (has_tls (has_tls (has_tls (has_tls (has_sublist (up_src _ _ _ _) hs2 hs)))))
    refine TK.mem fun m0 hm0 => ?_
    obtain ⟨gA, uA, rfl⟩ := src_some (hsx m0 hm0) (by
      have h6 := (hsx m0 hm0).1
      omega)
    clear hm0 m0
    have hce := has_el prC_len (by decide) hsx hx
    refine m_run ?_
    (apply TL.alloc; exact rfl; exact tb rfl; (exact m_lst))
    intro b8
    refine m_run ?_
    have hmn : (if x.2 < x.1 then x.2 else x.1) = min x.1 x.2 := by split <;> omega
    have hmx' : (if x.2 > x.1 then x.2 else x.1) = max x.1 x.2 := by split <;> omega
    have hbx : badE n x = true → pErr n es = 1 := fun hb => by
      unfold pErr
      rw [if_neg (by omega), if_neg (by omega), if_pos (List.any_eq_true.2 ⟨x, List.mem_of_getElem? hx, hb⟩)]
    try rw [hmn]
    by_cases hmin : min x.1 x.2 < 0
    · have hb : badE n x = true := by unfold badE; rw [decide_eq_true hmin]; rfl
      refine m_run ?_
      refine TK.free (H := alls (Rw.h 3) []) (fun m hm => hm) ?_
      refine TK.free (H := own 54 1 (.slice none 0 0) 0 []) (fun m hm => own_nil _ _ hm) ?_
      (apply TK.ret2; exact rfl; exact rfl; (exact m_val); (exact m_val))
      exact ⟨_, rfl, herr _ (.cons _ (.cons _ (.cons _ (.cons _ (.cons _ (.cons _ hs2)))))) 1 (hbx hb).symm (by decide)⟩
    refine m_run ?_
    try rw [hmx']
    by_cases hmax : (n : Int) ≤ max x.1 x.2
    · have hb : badE n x = true := by unfold badE; rw [decide_eq_true hmax, Bool.or_true]
      refine m_run ?_
      refine TK.free (H := alls (Rw.h 3) []) (fun m hm => hm) ?_
      refine TK.free (H := own 54 1 (.slice none 0 0) 0 []) (fun m hm => own_nil _ _ hm) ?_
      (apply TK.ret2; exact rfl; exact rfl; (exact m_val); (exact m_val))
      exact ⟨_, rfl, herr _ (.cons _ (.cons _ (.cons _ (.cons _ (.cons _ (.cons _ hs2)))))) 1 (hbx hb).symm (by decide)⟩
    have hb : badE n x = false := by unfold badE; rw [decide_eq_false hmin, decide_eq_false hmax]; rfl
    obtain ⟨a, ha⟩ : ∃ a : Nat, x.1 = (a : Int) := ⟨x.1.toNat, by omega⟩
    obtain ⟨b, hb'⟩ : ∃ b : Nat, x.2 = (b : Int) := ⟨x.2.toNat, by omega⟩
    have han : a < n := by omega
    obtain ⟨r, hr⟩ : ∃ r, or_[a]? = some r := ⟨or_[a]'(by omega), List.getElem?_eq_getElem _⟩
    obtain ⟨hrl, hrm⟩ := hor a r hr
    obtain rfl : x = ((a : Int), (b : Int)) := Prod.ext ha hb'
    refine m_run ?_
    refine TK.imp (Δ := r.h 3 :: alls (Rw.h 3) (or_.eraseIdx a) :: own 54 1 (.slice (some ⟨oB, 0, none⟩) n n) n (or_.map Rw.v) :: row b8 (prC ((a : Int), (b : Int))) 52 :: row bf [.slice (some ⟨oB, 0, none⟩) n n, .slice (some ⟨sB, 0, none⟩) n n, .slice none 0 0, .slice (some ⟨fB, 0, none⟩) n n, .slice none 0 0, .int .i64 0] 85 :: own 87 2 (.slice (some ⟨sB, 0, none⟩) n n) n (seenC (List.replicate n (0, 0))) :: own 3 1 (.slice (some ⟨fB, 0, none⟩) n n) n (List.replicate n (.int .i64 (-1))) :: Γ2) (fun m hm => all_perm (List.Perm.cons _ ((List.perm_middle (l₁ := [_, _])).trans (List.Perm.cons _ (List.perm_middle (l₁ := [_]))))) (all_out3 (Δ := [_, _]) hr hm)) ?_
    have c1 : has (own 54 1 (.slice (some ⟨oB, 0, none⟩) n n) n (or_.map Rw.v) :: row b8 (prC ((a : Int), (b : Int))) 52 :: row bf [.slice (some ⟨oB, 0, none⟩) n n, .slice (some ⟨sB, 0, none⟩) n n, .slice none 0 0, .slice (some ⟨fB, 0, none⟩) n n, .slice none 0 0, .int .i64 0] 85 :: own 87 2 (.slice (some ⟨sB, 0, none⟩) n n) n (seenC (List.replicate n (0, 0))) :: own 3 1 (.slice (some ⟨fB, 0, none⟩) n n) n (List.replicate n (.int .i64 (-1))) :: Γ2) (fun m => cellAt m b8 0 (.int .i64 (a : Int))) := has_row 1 rfl rfl
    have c2 : has (own 54 1 (.slice (some ⟨oB, 0, none⟩) n n) n (or_.map Rw.v) :: row b8 (prC ((a : Int), (b : Int))) 52 :: row bf [.slice (some ⟨oB, 0, none⟩) n n, .slice (some ⟨sB, 0, none⟩) n n, .slice none 0 0, .slice (some ⟨fB, 0, none⟩) n n, .slice none 0 0, .int .i64 0] 85 :: own 87 2 (.slice (some ⟨sB, 0, none⟩) n n) n (seenC (List.replicate n (0, 0))) :: own 3 1 (.slice (some ⟨fB, 0, none⟩) n n) n (List.replicate n (.int .i64 (-1))) :: Γ2) (fun m => cellAt m b8 1 (.int .i64 (b : Int))) := has_row 1 rfl rfl
    have c3 : has (own 54 1 (.slice (some ⟨oB, 0, none⟩) n n) n (or_.map Rw.v) :: row b8 (prC ((a : Int), (b : Int))) 52 :: row bf [.slice (some ⟨oB, 0, none⟩) n n, .slice (some ⟨sB, 0, none⟩) n n, .slice none 0 0, .slice (some ⟨fB, 0, none⟩) n n, .slice none 0 0, .int .i64 0] 85 :: own 87 2 (.slice (some ⟨sB, 0, none⟩) n n) n (seenC (List.replicate n (0, 0))) :: own 3 1 (.slice (some ⟨fB, 0, none⟩) n n) n (List.replicate n (.int .i64 (-1))) :: Γ2) (fun m => cellAt m oB (0 + a) r.v) := has_v (has_at (up_src 1 (some ⟨oB, 0, none⟩) n (or_.map Rw.v)) 0 rfl fun _ h => own_src h) (by rw [List.getElem?_map, hr]; rfl)
    rw [Nat.zero_add] at c3
    refine TK.drawB mixed rfl 19 (own 54 1 (.slice (some ⟨oB, 0, none⟩) n n) n (or_.map Rw.v) :: row b8 (prC ((a : Int), (b : Int))) 52 :: row bf [.slice (some ⟨oB, 0, none⟩) n n, .slice (some ⟨sB, 0, none⟩) n n, .slice none 0 0, .slice (some ⟨fB, 0, none⟩) n n, .slice none 0 0, .int .i64 0] 85 :: own 87 2 (.slice (some ⟨sB, 0, none⟩) n n) n (seenC (List.replicate n (0, 0))) :: own 3 1 (.slice (some ⟨fB, 0, none⟩) n n) n (List.replicate n (.int .i64 (-1))) :: Γ2) (row b8 (prC ((a : Int), (b : Int))) 52 :: row bf [.slice (some ⟨oB, 0, none⟩) n n, .slice (some ⟨sB, 0, none⟩) n n, .slice none 0 0, .slice (some ⟨fB, 0, none⟩) n n, .slice none 0 0, .int .i64 0] 85 :: own 87 2 (.slice (some ⟨sB, 0, none⟩) n n) n (seenC (List.replicate n (0, 0))) :: own 3 1 (.slice (some ⟨fB, 0, none⟩) n n) n (List.replicate n (.int .i64 (-1))) :: Γ2) ?_
    refine m_bake (At.mk : At 0) ?_; refine m_bake (At.mk : At 1) ?_; refine m_bake (At.mk : At 2) ?_; refine m_bake (At.mk : At 3) ?_; refine m_bake (At.mk : At 4) ?_; refine m_bake (At.mk : At 5) ?_; refine m_bake (At.mk : At 6) ?_; refine m_bake (At.mk : At 7) ?_; refine m_bake (At.mk : At 8) ?_; refine m_bake (At.mk : At 9) ?_; refine m_bake (At.mk : At 10) ?_; refine m_bake (At.mk : At 11) ?_; refine m_bake (At.mk : At 12) ?_; refine m_bake (At.mk : At 13) ?_; refine m_bake (At.mk : At 14) ?_; refine m_bake (At.mk : At 15) ?_
    (apply TB.one 16; kernel_rfl; exact rfl; exact rfl)
    (apply TL.buildSlice (l := ints [b]); exact rfl; exact tb rfl; exact rfl; exact tb rfl; exact rfl; exact rfl; exact rfl; exact rfl; exact rfl)
    intro b66
    refine TL.backB (by (focus ((repeat (first | assumption | exact Ent.refl _ | apply Ent.tail)); done))) ?_
    (apply TB.one 17; kernel_rfl; exact rfl; exact rfl)
    (apply TL.append 1 (n := r.w.length) (m := 1) (cs := ints r.w) (news := ints [b]); exact rfl; exact rfl; exact tb rfl; exact rfl; exact tb rfl; exact rfl; exact rfl; exact rfl)
    · exact fun _ h => h
    · exact rfl
    · exact has_src_row 0 rfl rfl
    · exact ints_one [b]
    · show (r.w.length + 1) * 8 ≤ _; omega
    · show r.w.length + 1 ≤ maxLen; unfold maxLen; omega
    · exact fun _ => (rfl : _ = _ :: _ :: _)
    intro A4 c4 hc4
    refine TL.backB (by (focus ((repeat (first | assumption | exact Ent.refl _ | apply Ent.tail)); done))) ?_
    refine m_bake (At.mk : At 18) ?_
    (apply TB.last; kernel_rfl; exact rfl)
    (apply TL.storeOwn 3 a; exact rfl; exact rfl; (exact m_val); exact rfl; exact tb rfl; exact rfl; exact (Nat.zero_add _).symm; exact han)
    refine TL.back (by (focus ((repeat (first | assumption | exact Ent.refl _ | apply Ent.tail)); done))) ?_
    refine TA.done (by kernel_rfl) ?_
    refine TK.imp (Δ := own 54 1 (.slice (some ⟨oB, 0, none⟩) n n) n ((or_.set a ⟨A4, c4, r.w ++ [b]⟩).map Rw.v) :: alls (Rw.h 3) (or_.set a ⟨A4, c4, r.w ++ [b]⟩) :: row bf [.slice (some ⟨oB, 0, none⟩) n n, .slice (some ⟨sB, 0, none⟩) n n, .slice none 0 0, .slice (some ⟨fB, 0, none⟩) n n, .slice none 0 0, .int .i64 0] 85 :: own 87 2 (.slice (some ⟨sB, 0, none⟩) n n) n (seenC (List.replicate n (0, 0))) :: own 3 1 (.slice (some ⟨fB, 0, none⟩) n n) n (List.replicate n (.int .i64 (-1))) :: row b66 (ints [b]) 3 :: row b8 (prC ((a : Int), (b : Int))) 52 :: Γ2) (fun m hm => ?_) ?_
    · have h5 := all_perm ((List.perm_middle (l₁ := [_])).trans (List.Perm.cons _ ((List.perm_middle (l₁ := [_])).trans (List.Perm.cons _ ((List.perm_middle (l₁ := [_])).trans (List.Perm.cons _ ((List.perm_middle (l₁ := [_, _])).trans (List.Perm.cons _ ((List.perm_middle (l₁ := [_, _])).trans (List.Perm.cons _ (List.perm_middle (l₁ := [_, _])))))))))))) hm
      rw [show own 3 1 (.slice A4 (r.w.length + 1) c4) (r.w.length + 1) (ints r.w ++ ints [b]) = Rw.h 3 ⟨A4, c4, r.w ++ [b]⟩ by simp [Rw.h, Rw.v], show (or_.map Rw.v).set a (.slice A4 (r.w.length + 1) c4) = (or_.set a ⟨A4, c4, r.w ++ [b]⟩).map Rw.v by rw [List.map_set]; simp [Rw.v]] at h5
      exact all_perm (.swap _ _ _) (alls_in (f := Rw.h 3) ⟨A4, c4, r.w ++ [b]⟩ hr h5)
    refine m_run ?_
    refine IH (j - 1) _ _ (by omega) ⟨i + 1, _, _, by omega, .cons _ (.cons _ hs2), by rw [List.length_set]; exact hol, fun y hy => ?_, fun v q hq => ?_, rfl, rfl, rfl, rfl, congrArg (Value.int .i64) (i64_succ i (by omega)), rfl⟩
    · rw [List.take_add_one, hx] at hy
      rcases List.mem_append.1 hy with hy | hy
      · exact hbad y hy
      · rw [Option.toList_some, List.mem_singleton] at hy
        rw [hy]; exact hb
    · have hed : edsN (es.take (i + 1)) = edsN (es.take i) ++ [(a, b)] := by
        show List.map edN _ = List.map edN _ ++ _
        rw [List.take_add_one, hx, List.map_append]
        rfl
      rw [hed]
      rw [List.getElem?_set] at hq
      split at hq
      · rename_i hav
        subst hav
        try rw [if_pos (List.getElem?_eq_some_iff.1 hr).1] at hq
        injection hq with hq
        subst hq
        refine ⟨by simp; omega, fun w => ?_⟩
        simp only [List.mem_append, List.mem_singleton, hrm, Prod.mk.injEq, true_and]
      · rename_i hav
        obtain ⟨h6, h7⟩ := hor v q hq
        refine ⟨by omega, fun w => ?_⟩
        rw [h7, List.mem_append, List.mem_singleton]
        exact ⟨.inl, fun h => h.elim id fun h => absurd (congrArg Prod.fst h).symm hav⟩
  obtain rfl : i = es.length := by omega
  clear IH
  rw [List.take_length] at hbad hor
  have hpe : pErr n es = 0 := by
    unfold pErr
    rw [if_neg (by omega), if_neg (by omega), if_neg (fun h => by
      obtain ⟨x, hx, hb⟩ := List.any_eq_true.1 h
      rw [hbad x hx] at hb
      cases hb)]
  have hEd : Gph.Edge (or_.map Rw.w) = Gph.El (edsN es) := by
    funext v w
    apply propext
    unfold Gph.Edge Gph.El
    rw [List.getD_eq_getElem?_getD, List.getElem?_map]
    cases hv : or_[v]? with
    | some r => exact (hor v r hv).2 w
    | none =>
      refine ⟨fun h => (by cases h), fun h => ?_⟩
      obtain ⟨x, hx, hxe⟩ := List.mem_map.1 h
      have hb := hbad x hx
      unfold badE at hb
      simp only [Bool.or_eq_false_iff, decide_eq_false_iff_not] at hb
      have h7 : x.1.toNat = v := congrArg Prod.fst hxe
      rw [List.getElem?_eq_none_iff] at hv
      omega
  have hok : ∀ v w, Gph.Edge (or_.map Rw.w) v w → w < (or_.map Rw.w).length := fun v w h => by
    rw [hEd] at h
    obtain ⟨x, hx, hxe⟩ := List.mem_map.1 h
    have hb := hbad x hx
    unfold badE at hb
    simp only [Bool.or_eq_false_iff, decide_eq_false_iff_not] at hb
    have h7 : x.2.toNat = w := congrArg Prod.snd hxe
    rw [List.length_map, hol]
    omega
  have hRO : Rows (some ⟨oB, 0, none⟩) or_ (own 54 1 (.slice (some ⟨oB, 0, none⟩) n n) n (or_.map Rw.v) :: alls (Rw.h 3) or_ :: Γ2) := ⟨by rw [hol]; exact has_at (up_src _ _ _ _) 0 rfl fun _ h => own_src h, fun r hr => by
    obtain ⟨q, hq⟩ := List.getElem?_of_mem hr
    exact has_allsW (k := 1) (up_src _ _ _ _) rfl hq fun _ h => own_src h⟩
  have hdeg : ∀ r ∈ or_, r.w.length ≤ 1000000 := fun r hr => by
    obtain ⟨q, hq⟩ := List.getElem?_of_mem hr
    have := (hor q r hq).1
    omega
  clear hor hbad
  refine m_run ?_
  refine TK.free (H := own 3 1 (.slice none 0 0) 0 []) (fun m hm => own_nil _ _ hm) ?_
  refine TK.free (H := own 54 1 (.slice none 0 0) 0 []) (fun m hm => own_nil _ _ hm) ?_
  refine TK.free (H := alls (Rw.h 3) []) (fun m hm => hm) ?_
  refine TK.imp (Δ := FM bf oB sB fB n none 0 none 0 [] (Gph.Ts.zero n) (own 54 1 (.slice (some ⟨oB, 0, none⟩) n n) n (or_.map Rw.v) :: alls (Rw.h 3) or_ :: Γ2)) (fun m hm => ?_) ?_
  · have h5 := all_perm ((List.perm_middle (l₁ := [_, _, _, _, _])).trans (List.Perm.cons _ ((List.perm_middle (l₁ := [_, _, _, _, _])).trans (List.Perm.cons _ ((List.perm_middle (l₁ := [_, _])).trans (List.Perm.cons _ ((List.perm_middle (l₁ := [_, _, _, _])).trans (List.Perm.cons _ (List.perm_middle (l₁ := [_])))))))))) hm
    rw [show List.replicate n (Value.int .i64 (-1)) = ofsC (List.replicate n none) by show _ = List.map ofV _; rw [List.map_replicate]; rfl] at h5
    exact h5
  have hI0 := Gph.Inv.zero hok
  rw [List.length_map, hol] at hI0
  apply TK.iter (fun j ρ' Γ' => ∃ (v : Nat) (H : Option Addr) (hc : Nat) (P : Option Addr) (pc : Nat) (rows : List Rw) (s : Gph.Ts) (X' : List HP), v + j = n ∧ (own 54 1 (.slice (some ⟨oB, 0, none⟩) n n) n (or_.map Rw.v) :: alls (Rw.h 3) or_ :: Γ2).Sublist X' ∧ Gph.Inv (or_.map Rw.w) s ∧ Gph.Szd n s ∧ s.todo = [] ∧ s.parts = rows.map Rw.w ∧ (∀ u, u < v → s.ord u ≠ 0) ∧ lk ρ' 6 = .pointer (some ⟨bf, 0, none⟩) ∧ lk ρ' 73 = .slice (some ⟨sB, 0, none⟩) n n ∧ lk ρ' 74 = .int .i64 (n : Int) ∧ lk ρ' 75 = .int .i64 (v : Int) ∧ Γ' = FM bf oB sB fB n H hc P pc rows s X') n
  · exact ⟨0, none, 0, none, 0, [], Gph.Ts.zero n, _, Nat.zero_add _, .refl _, hI0, Gph.Szd.zero n, rfl, rfl, fun u hu => absurd hu (Nat.not_lt_zero _), rfl, rfl, rfl, rfl, rfl⟩
  clear hI0 e0 e6 e29 e30 e31
  rintro j IH ρ' _ ⟨v, H, hc, P, pc, rows, s, X', hvj, hsX, hI, hz, ht, hp, hsn, e6, e73, e74, e75, rfl⟩
  refine TK.know4 e6 e73 e74 e75 ?_
  have hsl := hI.lseen
  rw [List.length_map, hol] at hsl
  by_cases hv : v < n
  · have hse : s.seen[v]? = some (s.ord v, s.low v) := Gph.ord_get (by rw [hsl]; exact hv)
    have hcs : has (FM bf oB sB fB n H hc P pc rows s X') (fun m => cellsAt m sB (0 + v * 2) (seC (s.ord v, s.low v))) := has_el seC_len (by decide) (has_at (up_src _ _ _ _) 1 rfl fun _ h => own_src h) hse
    rw [Nat.zero_add] at hcs
    refine m_run ?_
    (apply TL.alloc; exact rfl; exact tb rfl; (exact m_lst))
    intro b10
    refine m_run ?_
    have hcs2 := has_tlg (K := row b10 (seC (s.ord v, s.low v)) 87) hcs
    have h10 : has (row b10 (seC (s.ord v, s.low v)) 87 :: FM bf oB sB fB n H hc P pc rows s X') (fun m => cellsAt m b10 0 (seC (s.ord v, s.low v))) := has_rows 0 rfl rfl
    refine TK.drawS mixed rfl ?_
    refine m_take (At.mk : At 0) ?_
    (apply TA.takeA (At.mk : At 1); exact rfl; exact rfl; kernel_rfl; ((focus ((repeat (first | assumption | exact Ent.refl _ | apply Ent.tail)); done))); (apply PV.build tabs; exact rfl; exact rfl; exact rfl; exact rfl; exact rfl; exact (rfl : _ = seC (0, 0))))
    (apply TA.takeA (At.mk : At 2); exact rfl; exact rfl; kernel_rfl; ((focus ((repeat (first | assumption | exact Ent.refl _ | apply Ent.tail)); done))); (apply PV.eqSt (xs := seC (s.ord v, s.low v)) (ys := seC (0, 0)) tabs; exact rfl; exact rfl; exact rfl; exact rfl; kernel_rfl; kernel_rfl; exact congrArg some (seen_eq _ _)))
    by_cases ho : s.ord v = 0
    · have hl0 : s.low v = 0 := hz.low (by rw [hsl]; exact hv) ho
      refine TA.know (t := 82) (v := .bool true) (congrArg Value.bool (by rw [ho, hl0]; rfl)) ?_
      refine m_take (At.mk : At 3) ?_; refine m_take (At.mk : At 4) ?_; refine m_take (At.mk : At 5) ?_; refine m_take (At.mk : At 6) ?_; refine m_take (At.mk : At 7) ?_; refine m_take (At.mk : At 8) ?_; refine m_take (At.mk : At 9) ?_; refine m_take (At.mk : At 10) ?_; refine m_take (At.mk : At 11) ?_
      (apply TA.takeY (At.mk : At 12); exact rfl; exact rfl; exact rfl; exact rfl; exact rfl; kernel_rfl; ((focus ((repeat (first | assumption | exact Ent.refl _ | apply Ent.tail)); done))); (apply PV.eqSt (xs := seC (s.ord v, s.low v)) (ys := seC (s.ord v, s.low v)) (b := true) tabs; exact rfl; exact rfl; exact rfl; exact rfl; kernel_rfl; kernel_rfl; exact congrArg some (show (((s.ord v : Int) == (s.ord v : Int)) && (((s.low v : Int) == (s.low v : Int)) && true)) = true by simp)))
      refine m_take (At.mk : At 13) ?_
      refine TA.done (by kernel_rfl) ?_
      refine TK.perm (Δ := FM bf oB sB fB n H hc P pc rows s (row b10 (seC (s.ord v, s.low v)) 87 :: X')) (List.perm_middle (l₁ := [_, _, _, _, _, _])).symm ?_
      refine m_run ?_
      (apply TL.callV; exact rfl; exact callB_of (by kernel_rfl); exact rfl; exact fun _ h => h)
      exact fromF_t bf oB sB fB n or_ H hc P pc rows s v _ (hRO.sub (.cons _ hsX)) hol (by omega) hdeg hI hz ht hp hv ho
      rintro _ _ ⟨rfl, H', hc', P', pc', rows', s', X2, hX2, hI2, hz2, ht2, hp2, hm2, rfl⟩
      refine m_run ?_
      exact IH (j - 1) _ _ (by omega) ⟨v + 1, H', hc', P', pc', rows', s', X2, by omega, (List.Sublist.cons _ hsX).trans hX2, hI2, hz2, ht2, hp2, fun u hu => hm2 u (by
        rcases Nat.lt_succ_iff_lt_or_eq.1 hu with h | h
        · exact .inl (hsn u h)
        · exact .inr h), rfl, rfl, rfl, congrArg (Value.int .i64) (i64_succ v (by omega)), rfl⟩
    · refine TA.know (t := 82) (v := .bool false) (congrArg Value.bool (by rw [decide_eq_false ho]; rfl)) ?_
      refine m_take (At.mk : At 3) ?_; refine m_take (At.mk : At 4) ?_; refine m_take (At.mk : At 5) ?_; refine m_take (At.mk : At 6) ?_; refine m_take (At.mk : At 7) ?_; refine m_take (At.mk : At 8) ?_; refine m_take (At.mk : At 9) ?_; refine m_take (At.mk : At 10) ?_; refine m_take (At.mk : At 11) ?_; refine m_take (At.mk : At 12) ?_; refine m_take (At.mk : At 13) ?_
      refine TA.done (by kernel_rfl) ?_
      refine TK.perm (Δ := FM bf oB sB fB n H hc P pc rows s (row b10 (seC (s.ord v, s.low v)) 87 :: X')) (List.perm_middle (l₁ := [_, _, _, _, _, _])).symm ?_
      refine m_run ?_
      exact IH (j - 1) _ _ (by omega) ⟨v + 1, H, hc, P, pc, rows, s, _, by omega, .cons _ hsX, hI, hz, ht, hp, fun u hu => by
        rcases Nat.lt_succ_iff_lt_or_eq.1 hu with h | h
        · exact hsn u h
        · rw [h]; exact ho, rfl, rfl, rfl, congrArg (Value.int .i64) (i64_succ v (by omega)), rfl⟩
  obtain rfl : v = n := by omega
  clear IH
  have hSp := hI.split ht (fun u hu => hsn u (by rw [List.length_map, hol] at hu; exact hu))
  rw [hp] at hSp
  have hpl := hI.parts_le
  rw [hp, List.length_map, List.length_map, hol] at hpl
  refine m_run ?_
  (apply TL.callV; exact rfl; exact callB_of (by kernel_rfl); exact rfl; exact fun _ h => h)
  refine ordered_t bf oB fB v (some ⟨oB, 0, none⟩) P v pc or_ rows s.of _ ?_ (has_row 0 rfl rfl) (has_row 0 rfl rfl) ((hRO.sub hsX).tl.tl.tl.tl.tl.tl) (has_at (up_src _ _ _ _) 3 rfl fun _ h => own_src h) ⟨has_at (up_src _ _ _ _) 4 rfl fun _ h => own_src h, fun r hr => ?_⟩ hol (by omega) hdeg (by omega) hSp
  · rw [hol]; exact has_row 0 rfl rfl
  · obtain ⟨q, hq⟩ := List.getElem?_of_mem hr
    exact has_allsW (k := 5) (up_src _ _ _ _) rfl hq fun _ h => own_src h
  rintro _ Γ9 ⟨Q, qc, L, rfl, hL, hRL, hs9⟩
  refine m_run ?_
  (apply TK.ret2; exact rfl; exact rfl; (exact m_val); (exact m_val))
  refine ⟨_, rfl, Q, qc, L, rows, by rw [hpe], hRL, ?_, fun h => absurd hpe h, fun _ => ?_⟩
  · exact ((((hs2.trans (.cons _ (.cons _ (.refl _)))).trans hsX).cons_cons _ |>.cons _ |>.cons _ |>.cons _ |>.cons _ |>.cons _).cons_cons _).trans hs9
  · rw [hEd] at hL
    exact hL
/-- graph.Parts: what it gives is read. -/
theorem partsG_t (nI : Int) (A : Option Addr) (c : Nat) (es : List (Int × Int)) (Γ : List HP) (hs : has Γ (srcAt 2 A es.length (es.flatMap prC))) (hel : es.length ≤ 1000000000) :
    FnV Try.prog 23 [.int .i64 nI, .slice A es.length c] Γ
      fun v Γ' => ∃ (Q : Option Addr) (qc : Nat) (L : List Rw), v = .tuple #[.slice Q L.length qc, .int .i64 (pErr nI es)] ∧ Rows Q L Γ' ∧ Γ.Sublist Γ' ∧ (pErr nI es ≠ 0 → L = []) ∧ (pErr nI es = 0 → Gph.IsParts (Gph.El (edsN es)) nI.toNat (L.map Rw.w)) := by
  refine Fn.mono (partsX_t nI A c es Γ hs hel) ?_
  rintro e Γ' ⟨v, rfl, Q, qc, L, rows, rfl, hm, hS, h1, h2⟩
  refine ⟨_, rfl, Q, qc, L, rfl, Rows.sub ⟨has_at (up_src _ _ _ _) 0 rfl fun _ h => own_src h, fun r hr => ?_⟩ hS, (List.Sublist.cons _ (.cons _ (.refl _))).trans hS, h1, h2⟩
  obtain ⟨q, hq⟩ := List.getElem?_of_mem (hm r hr)
  exact has_allsW (k := 1) (up_src _ _ _ _) rfl hq fun _ h => own_src h
end Go.Proofs.Ytndmjpceocecdaa.E

/- Parts of a graph, plainly: the chapter's examples. -/
namespace Go.Proofs.Ytndmjpceocecdaa.E.Gph
theorem rc1 (u v : Nat) : Rc (El [(0, 1), (1, 0), (1, 2)]) u v ↔ u = v ∨ (u ≤ 1 ∧ v ≤ 2) := by
  constructor
  · intro h
    refine h.closed (C := fun w => u = w ∨ (u ≤ 1 ∧ w ≤ 2)) (fun a b ha e => ?_) (.inl rfl)
    simp only [El, List.mem_cons, Prod.mk.injEq, List.not_mem_nil, or_false] at e
    omega
  · have e01 : Rc (El [(0, 1), (1, 0), (1, 2)]) 0 1 := .one (by simp [El])
    have e10 : Rc (El [(0, 1), (1, 0), (1, 2)]) 1 0 := .one (by simp [El])
    have e12 : Rc (El [(0, 1), (1, 0), (1, 2)]) 1 2 := .one (by simp [El])
    rintro (rfl | ⟨h1, h2⟩)
    · exact .refl _
    · have h3 : u = 0 ∨ u = 1 := by omega
      have h4 : v = 0 ∨ v = 1 ∨ v = 2 := by omega
      rcases h3 with rfl | rfl <;> rcases h4 with rfl | rfl | rfl
      · exact .refl _
      · exact e01
      · exact e01.trans e12
      · exact e10
      · exact .refl _
      · exact e12
theorem rc2 (u v : Nat) : Rc (El [(0, 1), (1, 2)]) u v ↔ u = v ∨ (u ≤ v ∧ v ≤ 2) := by
  constructor
  · intro h
    refine h.closed (C := fun w => u = w ∨ (u ≤ w ∧ w ≤ 2)) (fun a b ha e => ?_) (.inl rfl)
    simp only [El, List.mem_cons, Prod.mk.injEq, List.not_mem_nil, or_false] at e
    omega
  · have e01 : Rc (El [(0, 1), (1, 2)]) 0 1 := .one (by simp [El])
    have e12 : Rc (El [(0, 1), (1, 2)]) 1 2 := .one (by simp [El])
    rintro (rfl | ⟨h1, h2⟩)
    · exact .refl _
    · have h4 : (u = v) ∨ (u = 0 ∧ v = 1) ∨ (u = 0 ∧ v = 2) ∨ (u = 1 ∧ v = 2) := by omega
      rcases h4 with rfl | ⟨rfl, rfl⟩ | ⟨rfl, rfl⟩ | ⟨rfl, rfl⟩
      · exact .refl _
      · exact e01
      · exact e01.trans e12
      · exact e12
theorem parts1 : IsParts (El [(0, 1), (1, 0), (1, 2)]) 4 [[2], [0, 1], [3]] where
  scc p hp := by
    simp only [List.mem_cons, List.not_mem_nil, or_false] at hp
    rcases hp with rfl | rfl | rfl
    · refine ⟨by simp, by simp, fun v hv => ⟨by simp at hv; omega, fun u => ?_⟩⟩
      rw [rc1, rc1]; simp at hv ⊢; omega
    · refine ⟨by simp, by simp, fun v hv => ⟨by simp at hv; omega, fun u => ?_⟩⟩
      rw [rc1, rc1]; simp at hv ⊢; omega
    · refine ⟨by simp, by simp, fun v hv => ⟨by simp at hv; omega, fun u => ?_⟩⟩
      rw [rc1, rc1]; simp at hv ⊢; omega
  cover v hv := by
    have : v = 0 ∨ v = 1 ∨ v = 2 ∨ v = 3 := by omega
    rcases this with rfl | rfl | rfl | rfl
    · exact ⟨[0, 1], by simp, by simp⟩
    · exact ⟨[0, 1], by simp, by simp⟩
    · exact ⟨[2], by simp, by simp⟩
    · exact ⟨[3], by simp, by simp⟩
  disj := by simp
  down i p hp v hv w hw := by
    rw [rc1] at hw
    match i, hp with
    | 0, hp => simp at hp; subst hp; simp at hv ⊢; omega
    | 1, hp => simp at hp; subst hp; simp at hv ⊢; omega
    | 2, hp => simp at hp; subst hp; simp at hv ⊢; omega
    | i + 3, hp => simp at hp
  least i p hp x hx hf hw := by
    match i, hp with
    | 0, hp =>
      simp at hp; subst hp
      have h2 := hw 2
      rw [rc1, rc1] at h2
      simp at h2 ⊢; omega
    | 1, hp => simp at hp; subst hp; simp
    | 2, hp => simp at hp; subst hp; simp at hf ⊢; omega
    | i + 3, hp => simp at hp
theorem parts2 : IsParts (El [(0, 1), (1, 2)]) 3 [[2], [1], [0]] where
  scc p hp := by
    simp only [List.mem_cons, List.not_mem_nil, or_false] at hp
    rcases hp with rfl | rfl | rfl
    · refine ⟨by simp, by simp, fun v hv => ⟨by simp at hv; omega, fun u => ?_⟩⟩
      rw [rc2, rc2]; simp at hv ⊢; omega
    · refine ⟨by simp, by simp, fun v hv => ⟨by simp at hv; omega, fun u => ?_⟩⟩
      rw [rc2, rc2]; simp at hv ⊢; omega
    · refine ⟨by simp, by simp, fun v hv => ⟨by simp at hv; omega, fun u => ?_⟩⟩
      rw [rc2, rc2]; simp at hv ⊢; omega
  cover v hv := by
    have : v = 0 ∨ v = 1 ∨ v = 2 := by omega
    rcases this with rfl | rfl | rfl
    · exact ⟨[0], by simp, by simp⟩
    · exact ⟨[1], by simp, by simp⟩
    · exact ⟨[2], by simp, by simp⟩
  disj := by simp
  down i p hp v hv w hw := by
    rw [rc2] at hw
    match i, hp with
    | 0, hp => simp at hp; subst hp; simp at hv ⊢; omega
    | 1, hp => simp at hp; subst hp; simp at hv ⊢; omega
    | 2, hp => simp at hp; subst hp; simp at hv ⊢; omega
    | i + 3, hp => simp at hp
  least i p hp x hx hf hw := by
    match i, hp with
    | 0, hp =>
      simp at hp; subst hp
      have h2 := hw 2
      rw [rc2, rc2] at h2
      simp at h2 ⊢; omega
    | 1, hp =>
      simp at hp; subst hp
      have h2 := hw 1
      rw [rc2, rc2] at h2
      simp at h2 hf ⊢; omega
    | 2, hp => simp at hp; subst hp; simp
    | i + 3, hp => simp at hp
end Go.Proofs.Ytndmjpceocecdaa.E.Gph

/- The statements' own functions of layer 9: Same, few, right: walked. -/
namespace Go.Proofs.Ytndmjpceocecdaa.E
open Go Go.RowKit Go.Proofs
attribute [local irreducible] TK TL TQ TA TB Fn PV
theorem take_next {α : Type} {l : List α} {i : Nat} {x : α} (h : l[i]? = some x) : l.take (i + 1) = l.take i ++ [x] := by rw [List.take_add_one, h]; rfl
set_option maxRecDepth 100000 in
set_option maxHeartbeats 1000000 in
theorem same_t (A B : Option Addr) (c d : Nat) (la lb : List Rw) (Γ : List HP) (ha : Rows A la Γ) (hb : Rows B lb Γ) (hla : la.length ≤ 1000000000) (hlb : lb.length ≤ 1000000000) (hra : ∀ r ∈ la, r.w.length ≤ 1000000000) :
    FnV Try.prog 25 [.slice A la.length c, .slice B lb.length d] Γ fun v Γ' => v = .bool (decide (la.map Rw.w = lb.map Rw.w)) ∧ Γ' = Γ := by
  refine Fn.enter Try.func25 rfl rfl rfl fun E => ?_
  by_cases hl : la.length = lb.length
  rotate_left
  · refine m_run ?_
    (apply TK.ret1; exact rfl; exact rfl; (exact m_val))
    exact ⟨_, rfl, by rw [decide_eq_false fun h => hl (by have := congrArg List.length h; simpa using this)], rfl⟩
  refine m_run ?_
  apply TK.iter (fun j ρ' Γ' => ∃ i : Nat, i + j = la.length ∧ (la.take i).map Rw.w = (lb.take i).map Rw.w ∧ lk ρ' 0 = .slice A la.length c ∧ lk ρ' 1 = .slice B lb.length d ∧ lk ρ' 5 = .int .i64 (i : Int) ∧ Γ' = Γ) la.length
  · exact ⟨0, Nat.zero_add _, rfl, rfl, rfl, rfl, rfl⟩
  rintro j IH ρ' Γ ⟨i, hij, hs, e0, e1, e5, rfl⟩
  refine TK.know3 e0 e1 e5 ?_
  by_cases hi : i < la.length
  · obtain ⟨r, hr⟩ : ∃ r, la[i]? = some r := ⟨la[i], List.getElem?_eq_getElem hi⟩
    obtain ⟨q, hq⟩ : ∃ q, lb[i]? = some q := ⟨lb[i]'(by omega), List.getElem?_eq_getElem _⟩
    have hno : r.w ≠ q.w → la.map Rw.w ≠ lb.map Rw.w := fun hne h => hne (by
      have := congrArg (fun z => z[i]?) h
      simp only [List.getElem?_map, hr, hq, Option.map_some, Option.some.injEq] at this
      exact this)
    have hrl := hra r (List.mem_of_getElem? hr)
    refine TK.mem fun m0 hm0 => ?_
    obtain ⟨ga, ua, rfl⟩ := ha.some hm0 (by omega)
    obtain ⟨gb, ub, rfl⟩ := hb.some hm0 (by omega)
    clear hm0 m0
    have hcr := ha.v rfl hr
    have hcq := hb.v rfl hq
    refine m_run ?_
    refine TK.drawS mixed rfl ?_
    refine m_take (At.mk : At 0) ?_; refine m_take (At.mk : At 1) ?_; refine m_take (At.mk : At 2) ?_; refine m_take (At.mk : At 3) ?_; refine m_take (At.mk : At 4) ?_; refine m_take (At.mk : At 5) ?_; refine m_take (At.mk : At 6) ?_; refine m_take (At.mk : At 7) ?_; refine m_take (At.mk : At 8) ?_; refine m_take (At.mk : At 9) ?_; refine m_take (At.mk : At 10) ?_
    refine TA.done (by kernel_rfl) ?_
    by_cases hw : r.w.length = q.w.length
    rotate_left
    · refine m_run ?_
      (apply TK.ret1; exact rfl; exact rfl; (exact m_val))
      exact ⟨_, rfl, by rw [decide_eq_false (hno fun h => hw (by rw [h]))], rfl⟩
    refine m_run ?_
    apply TK.iter (fun j2 ρ' Γ' => ∃ k : Nat, k + j2 = r.w.length ∧ r.w.take k = q.w.take k ∧ lk ρ' 0 = .slice (some ⟨ga, ua, none⟩) la.length c ∧ lk ρ' 1 = .slice (some ⟨gb, ub, none⟩) lb.length d ∧ lk ρ' 5 = .int .i64 (i : Int) ∧ lk ρ' 6 = .int .i64 (k : Int) ∧ Γ' = Γ) r.w.length
    · exact ⟨0, Nat.zero_add _, rfl, rfl, rfl, rfl, rfl, rfl⟩
    rintro j2 IH2 ρ' Γ ⟨k, hkj, hsk, e0, e1, e5, e6, rfl⟩
    refine TK.know4 e0 e1 e5 e6 ?_
    by_cases hk : k < r.w.length
    · obtain ⟨x, hx⟩ : ∃ x, r.w[k]? = some x := ⟨r.w[k], List.getElem?_eq_getElem hk⟩
      obtain ⟨y, hy⟩ : ∃ y, q.w[k]? = some y := ⟨q.w[k]'(by omega), List.getElem?_eq_getElem _⟩
      have sr := ha.row r (List.mem_of_getElem? hr)
      have sq := hb.row q (List.mem_of_getElem? hq)
      refine TK.mem fun m0 hm0 => ?_
      obtain ⟨gr, ur, hrA⟩ := src_some (sr m0 hm0) (by rw [ints_len]; omega)
      obtain ⟨gq, uq, hqA⟩ := src_some (sq m0 hm0) (by rw [ints_len]; omega)
      clear hm0 m0
      unfold Rw.v at hcr hcq
      rw [hrA] at sr hcr
      rw [hqA] at sq hcq
      have cx := has_ints sr hx
      have cy := has_ints sq hy
      refine m_run ?_
      refine TK.drawS mixed rfl ?_
      refine m_take (At.mk : At 0) ?_; refine m_take (At.mk : At 1) ?_; refine m_take (At.mk : At 2) ?_; refine m_take (At.mk : At 3) ?_; refine m_take (At.mk : At 4) ?_; refine m_take (At.mk : At 5) ?_; refine m_take (At.mk : At 6) ?_; refine m_take (At.mk : At 7) ?_; refine m_take (At.mk : At 8) ?_; refine m_take (At.mk : At 9) ?_; refine m_take (At.mk : At 10) ?_; refine m_take (At.mk : At 11) ?_; refine m_take (At.mk : At 12) ?_; refine m_take (At.mk : At 13) ?_; refine m_take (At.mk : At 14) ?_
      refine TA.done (by kernel_rfl) ?_
      by_cases hxy : x = y
      · refine m_run ?_
        exact IH2 (j2 - 1) _ _ (by omega) ⟨k + 1, by omega, by rw [take_next hx, take_next hy, hsk, hxy], rfl, rfl, rfl, congrArg (Value.int .i64) (i64_succ k (by omega)), rfl⟩
      · refine m_run ?_
        (apply TK.ret1; exact rfl; exact rfl; (exact m_val))
        exact ⟨_, rfl, by rw [decide_eq_false (hno fun h => hxy (by
          rw [h, hy] at hx
          injection hx with hx
          exact hx.symm))], rfl⟩
    obtain rfl : k = r.w.length := by omega
    rw [List.take_length, hw, List.take_length] at hsk
    refine m_run ?_
    exact IH (j - 1) _ _ (by omega) ⟨i + 1, by omega, by rw [take_next hr, take_next hq, List.map_append, List.map_append, hs, List.map_singleton, List.map_singleton, hsk], rfl, rfl, congrArg (Value.int .i64) (i64_succ i (by omega)), rfl⟩
  obtain rfl : i = la.length := by omega
  rw [List.take_length, hl, List.take_length] at hs
  refine m_run ?_
  (apply TK.ret1; exact rfl; exact rfl; (exact m_val))
  exact ⟨_, rfl, by rw [decide_eq_true hs], rfl⟩
theorem few_t (n : Int) (A : Option Addr) (c : Nat) (es : List (Int × Int)) (Γ : List HP) :
    FnV Try.prog 21 [.int .i64 n, .slice A es.length c] Γ fun v Γ' => v = .bool (decide (n ≤ 60) && decide (es.length ≤ 300)) ∧ Γ' = Γ := by
  refine Fn.enter Try.func21 rfl rfl rfl fun E => ?_
  by_cases h : n ≤ 60
  · refine m_run ?_
    (apply TK.ret1; exact rfl; exact rfl; (exact m_val))
    exact ⟨_, rfl, congrArg Value.bool (by rw [decide_eq_true h, Bool.true_and, decide_eq_decide]; omega), rfl⟩
  · refine m_run ?_
    (apply TK.ret1; exact rfl; exact rfl; (exact m_val))
    exact ⟨_, rfl, congrArg Value.bool (by rw [decide_eq_false h, Bool.false_and]), rfl⟩
def rightB (n : Int) (es : List (Int × Int)) : Bool := decide (0 ≤ n) && (decide (n ≤ 60) && decide (es.length ≤ 300)) && !es.any (badE n)
theorem badE_iff (n : Int) (x : Int × Int) : badE n x = true ↔ x.1 < 0 ∨ n ≤ x.1 ∨ x.2 < 0 ∨ n ≤ x.2 := by
  unfold badE
  rw [Bool.or_eq_true, decide_eq_true_iff, decide_eq_true_iff]
  omega
theorem edge_cells {A : Option Addr} {es : List (Int × Int)} {Γ : List HP} {g u i : Nat} {x : Int × Int} (hs : has Γ (srcAt 2 A es.length (es.flatMap prC))) (hA : A = some ⟨g, u, none⟩) (hx : es[i]? = some x) :
    has Γ (fun m => cellAt m g (u + i * 2) (.int .i64 x.1)) ∧ has Γ (fun m => cellAt m g (u + i * 2 + 1) (.int .i64 x.2)) := by
  subst hA
  have h := has_el prC_len (by decide) hs hx
  exact ⟨has_imp h fun m hm => hm 0 _ rfl, has_imp h fun m hm => hm 1 _ rfl⟩
theorem edge_some {A : Option Addr} {es : List (Int × Int)} {Γ : List HP} {m : Mem} (hs : has Γ (srcAt 2 A es.length (es.flatMap prC))) (hm : all Γ m) (h0 : 0 < es.length) : ∃ b o, A = some ⟨b, o, none⟩ :=
  src_some (hs m hm) (by have := (hs m hm).1; omega)
set_option maxRecDepth 100000 in
set_option maxHeartbeats 1000000 in
theorem right_t (n : Int) (A : Option Addr) (c : Nat) (es : List (Int × Int)) (Γ : List HP) (hs : has Γ (srcAt 2 A es.length (es.flatMap prC))) :
    FnV Try.prog 28 [.int .i64 n, .slice A es.length c] Γ fun v Γ' => v = .bool (rightB n es) ∧ Γ' = Γ := by
  refine Fn.enter Try.func28 rfl rfl rfl fun E => ?_
  by_cases h0 : n < 0
  · refine m_run ?_
    (apply TK.ret1; exact rfl; exact rfl; (exact m_val))
    exact ⟨_, rfl, by unfold rightB; rw [decide_eq_false (by omega : ¬ 0 ≤ n)]; rfl, rfl⟩
  refine m_run ?_
  (apply TL.callV; exact rfl; exact callB_of (by kernel_rfl); exact rfl; exact fun _ h => h)
  exact few_t n A c es _
  rintro _ Γ ⟨rfl, rfl⟩
  cases hf : (decide (n ≤ 60) && decide (es.length ≤ 300)) with
  | false =>
    refine m_run ?_
    (apply TK.ret1; exact rfl; exact rfl; (exact m_val))
    exact ⟨_, rfl, by unfold rightB; rw [hf, Bool.and_false]; rfl, rfl⟩
  | true =>
    have hel : es.length ≤ 300 := by simp only [Bool.and_eq_true, decide_eq_true_iff] at hf; exact hf.2
    refine m_run ?_
    apply TK.iter (fun j ρ' Γ' => ∃ i : Nat, i + j = es.length ∧ (∀ x ∈ es.take i, badE n x = false) ∧ lk ρ' 0 = .int .i64 n ∧ lk ρ' 1 = .slice A es.length c ∧ lk ρ' 5 = .int .i64 (i : Int) ∧ Γ' = Γ) es.length
    · exact ⟨0, Nat.zero_add _, by simp, rfl, rfl, rfl, rfl⟩
    rintro j IH ρ' Γ ⟨i, hij, hno, e0, e1, e5, rfl⟩
    refine TK.know3 e0 e1 e5 ?_
    by_cases hi : i < es.length
    · obtain ⟨x, hx⟩ : ∃ x, es[i]? = some x := ⟨es[i], List.getElem?_eq_getElem hi⟩
      have hbad : badE n x = true → rightB n es = false := fun h => by
        unfold rightB
        rw [List.any_eq_true.2 ⟨x, List.mem_of_getElem? hx, h⟩]
        exact Bool.and_false _
      refine TK.mem fun m0 hm0 => ?_
      obtain ⟨g, u, rfl⟩ := edge_some hs hm0 (by omega)
      clear hm0 m0
      obtain ⟨c1, c2⟩ := edge_cells hs rfl hx
      by_cases h1 : x.1 < 0
      · refine m_run ?_
        (apply TK.ret1; exact rfl; exact rfl; (exact m_val))
        exact ⟨_, rfl, by rw [hbad ((badE_iff _ _).2 (.inl h1))], rfl⟩
      by_cases h2 : n ≤ x.1
      · refine m_run ?_
        (apply TK.ret1; exact rfl; exact rfl; (exact m_val))
        exact ⟨_, rfl, by rw [hbad ((badE_iff _ _).2 (.inr (.inl h2)))], rfl⟩
      by_cases h3 : x.2 < 0
      · refine m_run ?_
        (apply TK.ret1; exact rfl; exact rfl; (exact m_val))
        exact ⟨_, rfl, by rw [hbad ((badE_iff _ _).2 (.inr (.inr (.inl h3))))], rfl⟩
      by_cases h4 : n ≤ x.2
      · refine m_run ?_
        (apply TK.ret1; exact rfl; exact rfl; (exact m_val))
        exact ⟨_, rfl, by rw [hbad ((badE_iff _ _).2 (.inr (.inr (.inr h4))))], rfl⟩
      refine m_run ?_
      refine IH (j - 1) _ _ (by omega) ⟨i + 1, by omega, fun y hy => ?_, rfl, rfl, congrArg (Value.int .i64) (i64_succ i (by omega)), rfl⟩
      rw [take_next hx] at hy
      rcases List.mem_append.1 hy with hy | hy
      · exact hno y hy
      · rw [List.mem_singleton] at hy
        subst hy
        exact Bool.eq_false_iff.2 fun h => by have := (badE_iff _ _).1 h; omega
    obtain rfl : i = es.length := by omega
    rw [List.take_length] at hno
    refine m_run ?_
    (apply TK.ret1; exact rfl; exact rfl; (exact m_val))
    refine ⟨_, rfl, ?_, rfl⟩
    unfold rightB
    have h9 : es.any (badE n) = false := Bool.eq_false_iff.2 fun h => by
      obtain ⟨x, hx, hb⟩ := List.any_eq_true.1 h
      rw [hno x hx] at hb
      cases hb
    rw [hf, decide_eq_true (by omega : 0 ≤ n), h9]
    rfl
theorem PartIs.uniq {l : List (List Nat)} {v r r' : Int} (h : PartIs l v r) (h' : PartIs l v r') : r = r' := by
  rcases h with ⟨i, rfl, ⟨p, hp, x, hx, hxp⟩, hno⟩ | ⟨rfl, hno⟩ <;> rcases h' with ⟨j, rfl, ⟨q, hq, y, hy, hyq⟩, hno'⟩ | ⟨rfl, hno'⟩
  · congr 1
    rcases Nat.lt_trichotomy i j with h | h | h
    · exact absurd hx (hno' p (List.mem_of_getElem? (i := i) (by rw [List.getElem?_take, if_pos h]; exact hp)) x hxp)
    · exact h
    · exact absurd hy (hno q (List.mem_of_getElem? (i := j) (by rw [List.getElem?_take, if_pos h]; exact hq)) y hyq)
  · exact absurd hx (hno' p (List.mem_of_getElem? hp) x hxp)
  · exact absurd hy (hno q (List.mem_of_getElem? hq) y hyq)
  · rfl
section
variable {P : Program} {S : World → Prop} {ρ : Env} {d : Nat} {ty : TypeId} {pos : String} {after : Array Edge}
theorem PV.buildArr {t e : TypeId} {n : Nat} {ps : List (Nat × Operand)} {r r' : TR} {qs : List (Nat × Nat × List Value)} {l : List Value} (ht : TabOk P t r) (hq : r.und = .array n e) (ht' : TabOk P e r')
    (hqs : partsOf (fun i => some (i * r'.size, r'.size)) ρ ps = some qs) (hf : fitL r.zero.cells.size qs = true) (hl : fillL r.zero.cells.toList (qs.map fun q => (q.1, q.2.2)) = l) : PV P ρ S ⟨some d, .build t ps.toArray, ty, pos, after, none⟩ (.agg l.toArray) := by
  unfold PV
  intro w _
  have h2 := fill_eq (fun i => some (i * r'.size, r'.size)) _ (ps.map fun p => (p.1, ev ρ p.2)) qs r.zero.cells rfl (by simpa using parts_map ps qs hqs) hf
  simp only [execOp, Instr.build, Sem.run_bind, ht.run_zero, Result.andThen_ok, ht.run_und, hq, ht'.run_size, List.map_toArray]
  simp only [h2, hl]
  rfl
end
set_option maxRecDepth 100000 in
set_option maxHeartbeats 4000000 in
theorem works9_t (Γ : List HP) : FnV Try.prog 22 [] Γ fun v Γ' => v = .bool true ∧ Γ.Sublist Γ' := by
  refine Fn.enter Try.func22 rfl rfl rfl fun E => ?_
  refine m_run ?_
  (apply TL.pv; exact rfl; (apply PV.buildArr; exact tb rfl; exact rfl; exact tb rfl; exact rfl; exact rfl; exact (rfl : _ = prC (0, 1))))
  (apply TL.pv; exact rfl; (apply PV.buildArr; exact tb rfl; exact rfl; exact tb rfl; exact rfl; exact rfl; exact (rfl : _ = prC (1, 0))))
  (apply TL.pv; exact rfl; (apply PV.buildArr; exact tb rfl; exact rfl; exact tb rfl; exact rfl; exact rfl; exact (rfl : _ = prC (1, 2))))
  (apply TL.buildSlice (l := List.flatMap prC [((0 : Int), (1 : Int)), (1, 0), (1, 2)]); exact rfl; exact tb rfl; exact rfl; exact tb rfl; exact rfl; exact rfl; exact rfl; exact rfl; exact rfl)
  intro b11
  refine m_run ?_
  (apply TL.callV; exact rfl; exact callB_of (by kernel_rfl); exact rfl; exact fun _ h => h)
  exact partsG_t 4 (some ⟨b11, 0, none⟩) 3 [((0 : Int), (1 : Int)), (1, 0), (1, 2)] _ (has_src_row 0 rfl rfl) (by decide)
  rintro _ Γ1 ⟨QA, qA, LA, rfl, hRA, hSA, hZA, hPA⟩
  have hLA : LA.map Rw.w = [[2], [0, 1], [3]] := (hPA (by decide)).unique Gph.parts1
  rw [show pErr 4 [((0 : Int), (1 : Int)), (1, 0), (1, 2)] = 0 by decide]
  refine m_run ?_
  (apply TL.pv; exact rfl; (apply PV.buildArr; exact tb rfl; exact rfl; exact tb rfl; exact rfl; exact rfl; exact (rfl : _ = prC (0, 1))))
  (apply TL.pv; exact rfl; (apply PV.buildArr; exact tb rfl; exact rfl; exact tb rfl; exact rfl; exact rfl; exact (rfl : _ = prC (1, 2))))
  (apply TL.buildSlice (l := List.flatMap prC [((0 : Int), (1 : Int)), (1, 2)]); exact rfl; exact tb rfl; exact rfl; exact tb rfl; exact rfl; exact rfl; exact rfl; exact rfl; exact rfl)
  intro b18
  refine m_run ?_
  (apply TL.callV; exact rfl; exact callB_of (by kernel_rfl); exact rfl; exact fun _ h => h)
  exact partsG_t 3 (some ⟨b18, 0, none⟩) 2 [((0 : Int), (1 : Int)), (1, 2)] _ (has_src_row 0 rfl rfl) (by decide)
  rintro _ Γ2 ⟨QB, qB, LB, rfl, hRB, hSB, hZB, hPB⟩
  have hLB : LB.map Rw.w = [[2], [1], [0]] := (hPB (by decide)).unique Gph.parts2
  rw [show pErr 3 [((0 : Int), (1 : Int)), (1, 2)] = 0 by decide]
  refine m_run ?_
  (apply TL.pv; exact rfl; (apply PV.buildArr; exact tb rfl; exact rfl; exact tb rfl; exact rfl; exact rfl; exact (rfl : _ = prC (0, 2))))
  (apply TL.buildSlice (l := List.flatMap prC [((0 : Int), (2 : Int))]); exact rfl; exact tb rfl; exact rfl; exact tb rfl; exact rfl; exact rfl; exact rfl; exact rfl; exact rfl)
  intro b24
  refine m_run ?_
  (apply TL.callV; exact rfl; exact callB_of (by kernel_rfl); exact rfl; exact fun _ h => h)
  exact partsG_t 2 (some ⟨b24, 0, none⟩) 1 [((0 : Int), (2 : Int))] _ (has_src_row 0 rfl rfl) (by decide)
  rintro _ Γ3 ⟨QC, qC, LC, rfl, hRC, hSC, hZC, hPC⟩
  rw [show pErr 2 [((0 : Int), (2 : Int))] = 1 by decide]
  have hAl : LA.length = 3 := by have := congrArg List.length hLA; simpa using this
  have hBl : LB.length = 3 := by have := congrArg List.length hLB; simpa using this
  have hAr : ∀ r ∈ LA, r.w.length ≤ 1000000000 := fun r hr => by
    have : r.w ∈ LA.map Rw.w := List.mem_map_of_mem hr
    rw [hLA] at this
    simp only [List.mem_cons, List.not_mem_nil, or_false] at this
    rcases this with h | h | h <;> rw [h] <;> decide
  have hBr : ∀ r ∈ LB, r.w.length ≤ 1000000000 := fun r hr => by
    have : r.w ∈ LB.map Rw.w := List.mem_map_of_mem hr
    rw [hLB] at this
    simp only [List.mem_cons, List.not_mem_nil, or_false] at this
    rcases this with h | h | h <;> rw [h] <;> decide
  have rA : Rows QA LA Γ3 := ((hRA.tl.sub hSB).tl.sub hSC)
  have rB : Rows QB LB Γ3 := (hRB.tl.sub hSC)
  have sT : Γ.Sublist Γ3 := (((List.Sublist.cons _ (.refl _)).trans hSA).trans ((List.Sublist.cons _ (.refl _)).trans hSB)).trans ((List.Sublist.cons _ (.refl _)).trans hSC)
  refine m_run ?_
  (apply TL.buildSlice (l := ints [2]); exact rfl; exact tb rfl; exact rfl; exact tb rfl; exact rfl; exact rfl; exact rfl; exact rfl; exact rfl)
  intro b32
  refine m_run ?_
  (apply TL.buildSlice (l := ints [0, 1]); exact rfl; exact tb rfl; exact rfl; exact tb rfl; exact rfl; exact rfl; exact rfl; exact rfl; exact rfl)
  intro b33
  refine m_run ?_
  (apply TL.buildSlice (l := ints [3]); exact rfl; exact tb rfl; exact rfl; exact tb rfl; exact rfl; exact rfl; exact rfl; exact rfl; exact rfl)
  intro b34
  refine m_run ?_
  (apply TL.buildSlice (l := [Rw.v ⟨some ⟨b32, 0, none⟩, 1, [2]⟩, Rw.v ⟨some ⟨b33, 0, none⟩, 2, [0, 1]⟩, Rw.v ⟨some ⟨b34, 0, none⟩, 1, [3]⟩]); exact rfl; exact tb rfl; exact rfl; exact tb rfl; exact rfl; exact rfl; exact rfl; exact rfl; exact rfl)
  intro b35
  refine m_run ?_
  (apply TL.callV; exact rfl; exact callB_of (by kernel_rfl); exact rfl; exact fun _ h => h)
  refine same_t QA (some ⟨b35, 0, none⟩) qA 3 LA [⟨some ⟨b32, 0, none⟩, 1, [2]⟩, ⟨some ⟨b33, 0, none⟩, 2, [0, 1]⟩, ⟨some ⟨b34, 0, none⟩, 1, [3]⟩] _ rA.tl.tl.tl.tl ⟨has_src_row 0 rfl rfl, fun r hr => ?_⟩ (by omega) (show 3 ≤ 1000000000 by decide) hAr
  · simp only [List.mem_cons, List.not_mem_nil, or_false] at hr
    rcases hr with rfl | rfl | rfl
    · exact has_src_row 3 rfl rfl
    · exact has_src_row 2 rfl rfl
    · exact has_src_row 1 rfl rfl
  rintro _ _ ⟨rfl, rfl⟩
  rw [decide_eq_true (show LA.map Rw.w = List.map Rw.w [⟨some ⟨b32, 0, none⟩, 1, [2]⟩, ⟨some ⟨b33, 0, none⟩, 2, [0, 1]⟩, ⟨some ⟨b34, 0, none⟩, 1, [3]⟩] from hLA)]
  refine m_run ?_
  (apply TL.buildSlice (l := ints [2]); exact rfl; exact tb rfl; exact rfl; exact tb rfl; exact rfl; exact rfl; exact rfl; exact rfl; exact rfl)
  intro b44
  refine m_run ?_
  (apply TL.buildSlice (l := ints [1]); exact rfl; exact tb rfl; exact rfl; exact tb rfl; exact rfl; exact rfl; exact rfl; exact rfl; exact rfl)
  intro b45
  refine m_run ?_
  (apply TL.buildSlice (l := ints [0]); exact rfl; exact tb rfl; exact rfl; exact tb rfl; exact rfl; exact rfl; exact rfl; exact rfl; exact rfl)
  intro b46
  refine m_run ?_
  (apply TL.buildSlice (l := [Rw.v ⟨some ⟨b44, 0, none⟩, 1, [2]⟩, Rw.v ⟨some ⟨b45, 0, none⟩, 1, [1]⟩, Rw.v ⟨some ⟨b46, 0, none⟩, 1, [0]⟩]); exact rfl; exact tb rfl; exact rfl; exact tb rfl; exact rfl; exact rfl; exact rfl; exact rfl; exact rfl)
  intro b47
  refine m_run ?_
  (apply TL.callV; exact rfl; exact callB_of (by kernel_rfl); exact rfl; exact fun _ h => h)
  refine same_t QB (some ⟨b47, 0, none⟩) qB 3 LB [⟨some ⟨b44, 0, none⟩, 1, [2]⟩, ⟨some ⟨b45, 0, none⟩, 1, [1]⟩, ⟨some ⟨b46, 0, none⟩, 1, [0]⟩] _ rB.tl.tl.tl.tl.tl.tl.tl.tl ⟨has_src_row 0 rfl rfl, fun r hr => ?_⟩ (by omega) (show 3 ≤ 1000000000 by decide) hBr
  · simp only [List.mem_cons, List.not_mem_nil, or_false] at hr
    rcases hr with rfl | rfl | rfl
    · exact has_src_row 3 rfl rfl
    · exact has_src_row 2 rfl rfl
    · exact has_src_row 1 rfl rfl
  rintro _ _ ⟨rfl, rfl⟩
  rw [decide_eq_true (show LB.map Rw.w = List.map Rw.w [⟨some ⟨b44, 0, none⟩, 1, [2]⟩, ⟨some ⟨b45, 0, none⟩, 1, [1]⟩, ⟨some ⟨b46, 0, none⟩, 1, [0]⟩] from hLB)]
  refine m_run ?_
  (apply TL.callV; exact rfl; exact callB_of (by kernel_rfl); exact rfl; exact fun _ h => h)
  exact part_t QA qA LA 1 _ rA.tl.tl.tl.tl.tl.tl.tl.tl (by omega) hAr
  rintro _ _ ⟨⟨k1, rfl, hk1⟩, rfl⟩
  rw [hLA] at hk1
  obtain rfl := hk1.uniq (r' := 1) (.inl ⟨1, rfl, ⟨_, rfl, 1, rfl, by simp⟩, by simp⟩)
  refine m_run ?_
  (apply TL.callV; exact rfl; exact callB_of (by kernel_rfl); exact rfl; exact fun _ h => h)
  exact part_t QA qA LA 4 _ rA.tl.tl.tl.tl.tl.tl.tl.tl (by omega) hAr
  rintro _ _ ⟨⟨k2, rfl, hk2⟩, rfl⟩
  rw [hLA] at hk2
  obtain rfl := hk2.uniq (r' := -1) (.inr ⟨rfl, by simp⟩)
  refine m_run ?_
  (apply TK.ret1; exact rfl; exact rfl; (exact m_val))
  exact ⟨_, rfl, rfl, .cons _ (.cons _ (.cons _ (.cons _ (.cons _ (.cons _ (.cons _ (.cons _ sT)))))))⟩
end Go.Proofs.Ytndmjpceocecdaa.E

/- Edges read. -/
namespace Go.Proofs.Ytndmjpceocecdaa.E
open Go Go.RowKit Go.Proofs
def rPr : Rd (Int × Int) := ⟨2, prC, fun _ _ => True⟩
theorem reads_pr : Reads Try.prog 52 rPr :=
  ⟨(tb rfl : TabOk Try.prog 52 _).cellsOf, prC_len, fun _ _ _ _ h => h, fun enc w fuel cs x h => by
    obtain ⟨xs, m, rfl, hx, hlen, hl, hel⟩ := DataW.trod_array (n := 2) (e := 3) (tb rfl : TabOk Try.prog 52 _).1 h
    have hc : Try.prog.cellsOf 3 = 1 := (tb rfl : TabOk Try.prog 3 _).cellsOf
    have hct : Try.prog.cellsOf 52 = 2 := (tb rfl : TabOk Try.prog 52 _).cellsOf
    rw [hct] at hlen
    have key : ∀ i, i < 2 → ∃ k : Int, (cs.drop i).take 1 = [.int .i64 k] := fun i hi => by
      have h0 := hel i hi
      rw [hc, Nat.mul_one] at h0
      obtain ⟨y, hy⟩ : ∃ y, xs[i]? = some y := ⟨xs[i]'(by omega), List.getElem?_eq_getElem _⟩
      rw [hy] at h0
      obtain ⟨k, e1, _, _⟩ := DataW.trod_int (tb rfl : TabOk Try.prog 3 _).1 h0
      exact ⟨k, e1⟩
    obtain ⟨a, ha⟩ := key 0 (by decide)
    obtain ⟨b, hb⟩ := key 1 (by decide)
    exact ⟨(a, b), cut2 ha hb hlen rfl, trivial⟩⟩
theorem reads_prs : Reads Try.prog 45 (rSl rPr) := reads_sl reads_pr (tb rfl) rfl rfl
end Go.Proofs.Ytndmjpceocecdaa.E
