/- My own texts, one behind the other: Gwp Gwr Gwt Gwu. -/
import Derived.Test.YtndmjpceocecdaaPg7
/- With all edges turned round the parts are the same: walked. -/
namespace Go.Proofs.Ytndmjpceocecdaa.E
open Go Go.RowKit Go.Proofs
attribute [local irreducible] TK TL TQ TA TB Fn PV
def swE (x : Int × Int) : Int × Int := (x.2, x.1)
theorem right_facts {n : Int} {es : List (Int × Int)} (h : rightB n es = true) : 0 ≤ n ∧ n ≤ 60 ∧ es.length ≤ 300 ∧ (∀ x ∈ es, 0 ≤ x.1 ∧ x.1 < n ∧ 0 ≤ x.2 ∧ x.2 < n) := by
  unfold rightB at h
  simp only [Bool.and_eq_true, decide_eq_true_iff, Bool.not_eq_true'] at h
  refine ⟨h.1.1, h.1.2.1, h.1.2.2, fun x hx => ?_⟩
  have h1 : badE n x = false := by
    have := List.any_eq_false.1 h.2 x hx
    exact Bool.eq_false_iff.2 this
  have h2 : ¬ (x.1 < 0 ∨ n ≤ x.1 ∨ x.2 < 0 ∨ n ≤ x.2) := fun h3 => Bool.eq_false_iff.1 h1 ((badE_iff n x).2 h3)
  omega
theorem pErr_zero {n : Int} {es : List (Int × Int)} (h0 : 0 ≤ n) (h1 : n ≤ 60) (h2 : es.length ≤ 16384) (h3 : ∀ x ∈ es, 0 ≤ x.1 ∧ x.1 < n ∧ 0 ≤ x.2 ∧ x.2 < n) : pErr n es = 0 := by
  unfold pErr
  rw [if_neg (by omega), if_neg (by omega), if_neg (fun h => by
    obtain ⟨x, hx, hb⟩ := List.any_eq_true.1 h
    have := (badE_iff n x).1 hb
    have := h3 x hx
    omega)]
theorem el_turn {es : List (Int × Int)} : Gph.El (edsN (es.map swE)) = fun a b => Gph.El (edsN es) b a := by
  funext a b
  apply propext
  show (a, b) ∈ List.map edN (List.map swE es) ↔ (b, a) ∈ List.map edN es
  rw [List.map_map]
  simp only [List.mem_map, Function.comp]
  constructor
  · rintro ⟨x, hx, he⟩
    exact ⟨x, hx, by unfold edN swE at he; unfold edN; injection he with h1 h2; rw [h1, h2]⟩
  · rintro ⟨x, hx, he⟩
    exact ⟨x, hx, by unfold edN at he; unfold edN swE; injection he with h1 h2; show (x.2.toNat, x.1.toNat) = _; rw [h1, h2]⟩
/-- Which part a node is of, as told. -/
theorem part_pix {E : Nat → Nat → Prop} {n : Nat} {l : List (List Nat)} (h : Gph.IsParts E n l) {v : Nat} {k : Int} (hv : v < n) (hk : PartIs l (v : Int) k) : k = (Gph.pix l v : Int) := by
  obtain ⟨p, hp, hm⟩ := h.pix_mem hv
  rcases hk with ⟨i, rfl, ⟨q, hq, x, hx, hxq⟩, _⟩ | ⟨_, hno⟩
  · obtain rfl : v = x := by omega
    rw [h.ix_uniq hq hp hxq hm]
  · exact absurd rfl (hno p (List.mem_of_getElem? hp) v hm)
theorem parts_rows {E : Nat → Nat → Prop} {n : Nat} {L : List Rw} (h : Gph.IsParts E n (L.map Rw.w)) : L.length ≤ n ∧ ∀ r ∈ L, r.w.length ≤ n ∧ r.w ≠ [] ∧ ∀ x ∈ r.w, x < n := by
  constructor
  · have := Gph.more_len (E := fun _ _ => False) (n := n) (L := (List.range n).map fun v => [v]) (M := L.map Rw.w) ?_ h (fun v w hr => by
      cases hr with
      | refl => exact .refl _
      | step _ e => exact e.elim)
    · simpa using this
    · have hrc : ∀ v w, Gph.Rc (fun _ _ : Nat => False) v w → w = v := fun v w hr => by
        cases hr with
        | refl => rfl
        | step _ e => exact e.elim
      refine ⟨fun p hp => ?_, fun v hv => ⟨[v], List.mem_map.2 ⟨v, List.mem_range.2 hv, rfl⟩, by simp⟩, ?_, fun i p hp v hv w hw => ?_, fun i p hp x hx hf hw => ?_⟩
      · obtain ⟨v, hv, rfl⟩ := List.mem_map.1 hp
        refine ⟨by simp, by simp, fun x hx => ?_⟩
        rw [List.mem_singleton] at hx
        subst hx
        refine ⟨List.mem_range.1 hv, fun u => ?_⟩
        rw [List.mem_singleton]
        exact ⟨fun e => by subst e; exact ⟨.refl _, .refl _⟩, fun e => hrc _ _ e.1⟩
      · rw [List.pairwise_map]
        exact List.nodup_range.imp fun {a b} hab v hva hvb => by
          rw [List.mem_singleton] at hva hvb
          exact hab (hva.symm.trans hvb)
      · have := hrc _ _ hw
        subst this
        rw [List.take_add_one, hp]
        simp [hv]
      · rw [List.getElem?_map] at hp
        obtain ⟨v, hv, rfl⟩ := Option.map_eq_some_iff.1 hp
        have hvi : v = i := by
          have := (List.getElem?_eq_some_iff.1 hv).2
          simpa using this.symm
        subst hvi
        show v ≤ x
        apply Classical.byContradiction
        intro hc
        apply hf
        rw [List.mem_flatten]
        refine ⟨[x], List.mem_of_getElem? (i := x) ?_, by simp⟩
        rw [List.getElem?_take, if_pos (by omega), List.getElem?_map, List.getElem?_range (by omega)]
        rfl
  · intro r hr
    obtain ⟨h1, h2, h3⟩ := h.scc _ (List.mem_map_of_mem hr)
    exact ⟨Gph.nodup_len (h1.imp fun {a b} hab e => by rw [e] at hab; exact Nat.lt_irrefl _ hab) fun x hx => (h3 x hx).1, h2, fun x hx => (h3 x hx).1⟩
set_option maxRecDepth 100000 in
set_option maxHeartbeats 8000000 in
theorem graphTurned_t (n : Int) (A : Option Addr) (c : Nat) (es : List (Int × Int)) (ka kb : Nat) (Γ : List HP) (hs : has Γ (srcAt 2 A es.length (es.flatMap prC))) (hka : ka ≤ 255) (hkb : kb ≤ 255) :
    FnV Try.prog 8 [.int .i64 n, .slice A es.length c, .int .u8 (ka : Int), .int .u8 (kb : Int)] Γ fun v Γ' => v = .bool true ∧ Γ' = Γ := by
  refine Fn.enter Try.func8 rfl rfl rfl fun E => ?_
  refine m_run ?_
  (apply TL.callV; exact rfl; exact callB_of (by kernel_rfl); exact rfl; exact fun _ h => h)
  exact right_t n A c es _ hs
  rintro _ Γ ⟨rfl, rfl⟩
  cases hR : rightB n es with
  | false =>
    refine m_run ?_
    (apply TL.callV; exact rfl; exact callB_of (by kernel_rfl); exact rfl; exact fun _ h => h)
    exact works9_t _
    rintro _ Γ1 ⟨rfl, hs1⟩
    refine m_run ?_
    (apply TK.retS1; exact rfl; exact rfl; (exact m_val))
    exact ⟨_, rfl, rfl, rfl⟩
    exact hs1
  | true =>
    obtain ⟨hn0, hn1, hel, hes⟩ := right_facts hR
    by_cases hz : n = 0
    · refine m_run ?_
      (apply TL.callV; exact rfl; exact callB_of (by kernel_rfl); exact rfl; exact fun _ h => h)
      exact works9_t _
      rintro _ Γ1 ⟨rfl, hs1⟩
      refine m_run ?_
      (apply TK.retS1; exact rfl; exact rfl; (exact m_val))
      exact ⟨_, rfl, rfl, rfl⟩
      exact hs1
    obtain ⟨N, rfl⟩ : ∃ N : Nat, n = (N : Int) := ⟨n.toNat, by omega⟩
    refine m_run ?_
    refine TK.free (H := own 52 2 (.slice none 0 0) 0 []) (fun m hm => own_nil _ _ hm) ?_
    apply TK.iter (fun j ρ' Γ' => ∃ (i : Nat) (B : Option Addr) (k : Nat) (Γ2 : List HP), i + j = es.length ∧ Γ.Sublist Γ2 ∧ lk ρ' 0 = .int .i64 (N : Int) ∧ lk ρ' 1 = .slice A es.length c ∧ lk ρ' 2 = .int .u8 (ka : Int) ∧ lk ρ' 3 = .int .u8 (kb : Int) ∧ lk ρ' 9 = .slice B i k ∧ lk ρ' 10 = .int .i64 (i : Int) ∧ Γ' = own 52 2 (.slice B i k) i (((es.take i).map swE).flatMap prC) :: Γ2) es.length
    · exact ⟨0, none, 0, Γ, Nat.zero_add _, .refl _, rfl, rfl, rfl, rfl, rfl, rfl, rfl⟩
    rintro j IH ρ' _ ⟨i, B, k, Γ2, hij, hs2, e0, e1, e2, e3, e9, e10, rfl⟩
    refine TK.know6 e0 e1 e2 e3 e9 e10 ?_
    by_cases hi : i < es.length
    · obtain ⟨x, hx⟩ : ∃ x, es[i]? = some x := ⟨es[i], List.getElem?_eq_getElem hi⟩
      have hsx : has Γ2 (srcAt 2 A es.length (es.flatMap prC)) := has_sublist (up_src _ _ _ _) hs2 hs
      refine TK.mem fun m0 hm0 => ?_
      obtain ⟨g, u, rfl⟩ := edge_some (has_tls hsx : has (own 52 2 (.slice B i k) i (((es.take i).map swE).flatMap prC) :: Γ2) _) hm0 (by omega)
      clear hm0 m0
      obtain ⟨c1, c2⟩ := edge_cells hsx rfl hx
      refine m_run ?_
      refine TK.drawE mixed rfl Γ2 ?_
      refine m_take (At.mk : At 0) ?_; refine m_take (At.mk : At 1) ?_; refine m_take (At.mk : At 2) ?_; refine m_take (At.mk : At 3) ?_; refine m_take (At.mk : At 4) ?_; refine m_take (At.mk : At 5) ?_; refine m_take (At.mk : At 6) ?_; refine m_take (At.mk : At 7) ?_; refine m_take (At.mk : At 8) ?_; refine m_take (At.mk : At 9) ?_; refine m_take (At.mk : At 10) ?_
      (apply TA.takeA (At.mk : At 11); exact rfl; exact rfl; kernel_rfl; ((focus ((repeat (first | assumption | exact Ent.refl _ | apply Ent.tail)); done))); (apply PV.buildArr; exact tb rfl; exact rfl; exact tb rfl; exact rfl; exact rfl; exact (rfl : _ = prC (swE x))))
      (apply TA.one 12; kernel_rfl; exact rfl)
      (apply TL.buildSlice (l := [swE x].flatMap prC); exact rfl; exact tb rfl; exact rfl; exact tb rfl; exact rfl; exact rfl; exact rfl; exact rfl; exact rfl)
      intro b50
      refine TL.back (by (focus ((repeat (first | assumption | exact Ent.refl _ | apply Ent.tail)); done))) ?_
      (apply TA.one 13; kernel_rfl; exact rfl)
      (apply TL.append 1 (n := i) (m := 1) (cs := ((es.take i).map swE).flatMap prC) (news := [swE x].flatMap prC); exact rfl; exact rfl; exact tb rfl; exact rfl; exact tb rfl; exact rfl; exact rfl; exact rfl)
      · exact fun _ h => h
      · exact rfl
      · exact has_src_row 0 rfl rfl
      · exact fun u hu => by
          rcases List.mem_cons.1 hu with rfl | hu
          · rfl
          · rw [List.mem_singleton.1 hu]; rfl
      · show (i + 1) * 16 ≤ _; omega
      · show i + 1 ≤ maxLen; unfold maxLen; omega
      · exact fun _ => (rfl : _ = _ :: _ :: _)
      intro B2 k2 hk2
      rw [show ((es.take i).map swE).flatMap prC ++ [swE x].flatMap prC = ((es.take (i + 1)).map swE).flatMap prC by rw [take_next hx, List.map_append, List.flatMap_append]; rfl]
      refine TL.back (by (focus ((repeat (first | assumption | exact Ent.refl _ | apply Ent.tail)); done))) ?_
      refine m_take (At.mk : At 14) ?_
      refine TA.done (by kernel_rfl) ?_
      refine m_run ?_
      refine TK.perm (.swap _ _ _) ?_
      exact IH (j - 1) _ _ (by omega) ⟨i + 1, B2, k2, _, by omega, .cons _ hs2, rfl, rfl, rfl, rfl, rfl, congrArg (Value.int .i64) (i64_succ i (by omega)), rfl⟩
    obtain rfl : i = es.length := by omega
    clear IH
    rw [List.take_length]
    have hbl : (es.map swE).length = es.length := List.length_map ..
    have hbs : has (own 52 2 (.slice B es.length k) es.length ((es.map swE).flatMap prC) :: Γ2) (srcAt 2 B (es.map swE).length ((es.map swE).flatMap prC)) := by rw [hbl]; exact has_at (up_src _ _ _ _) 0 rfl fun _ h => own_src h
    have hsx := has_tls (K := own 52 2 (.slice B es.length k) es.length ((es.map swE).flatMap prC)) (has_sublist (up_src _ _ _ _) hs2 hs)
    have hS2 := hs2.trans (.cons (own 52 2 (.slice B es.length k) es.length ((es.map swE).flatMap prC)) (.refl _))
    generalize own 52 2 (.slice B es.length k) es.length ((es.map swE).flatMap prC) :: Γ2 = Γ3 at *
    have hp1 : pErr (N : Int) es = 0 := pErr_zero hn0 hn1 (by omega) hes
    have hp2 : pErr (N : Int) (es.map swE) = 0 := pErr_zero hn0 hn1 (by omega) fun x hx => by
      obtain ⟨y, hy, rfl⟩ := List.mem_map.1 hx
      have := hes y hy
      unfold swE
      omega
    refine m_run ?_
    (apply TL.callV; exact rfl; exact callB_of (by kernel_rfl); exact rfl; exact fun _ h => h)
    exact partsG_t N A c es _ hsx (by omega)
    rintro _ Γ4 ⟨Q, q, L, rfl, hRL, hs4, _, hPL⟩
    replace hPL := hPL hp1
    rw [Int.toNat_natCast] at hPL
    rw [hp1]
    have hcall := partsG_t N B k (es.map swE) Γ4 (has_sublist (up_src _ _ _ _) hs4 hbs) (by omega)
    rw [hbl] at hcall
    refine m_run ?_
    (apply TL.callV; exact rfl; exact callB_of (by kernel_rfl); exact rfl; exact fun _ h => h)
    exact hcall
    rintro _ Γ5 ⟨Q2, q2, M, rfl, hRM, hs5, _, hPM⟩
    replace hPM := hPM hp2
    rw [Int.toNat_natCast, el_turn] at hPM
    rw [hp2]
    have hLM : L.length = M.length := by have := Gph.turned_len hPL hPM; simpa using this
    have hRL5 := hRL.sub hs5
    have hsx5 := has_sublist (up_src _ _ _ _) (hs4.trans hs5) hsx
    have hS5 := (hS2.trans hs4).trans hs5
    obtain ⟨hLl, hLr⟩ := parts_rows hPL
    obtain ⟨hMl, hMr⟩ := parts_rows hPM
    clear hcall hp2 hbs hsx hRL hs4 hs5 hS2
    refine m_run ?_
    apply TK.iter (fun j ρ' Γ' => ∃ (i : Nat) (Γ6 : List HP), i + j = L.length ∧ Γ5.Sublist Γ6 ∧ lk ρ' 0 = .int .i64 (N : Int) ∧ lk ρ' 1 = .slice A es.length c ∧ lk ρ' 2 = .int .u8 (ka : Int) ∧ lk ρ' 3 = .int .u8 (kb : Int) ∧ lk ρ' 11 = .slice Q L.length q ∧ lk ρ' 13 = .slice Q2 M.length q2 ∧ lk ρ' 15 = .int .i64 (i : Int) ∧ Γ' = Γ6) L.length
    · exact ⟨0, Γ5, Nat.zero_add _, .refl _, rfl, rfl, rfl, rfl, rfl, rfl, rfl, rfl⟩
    clear e0 e1 e2 e3 e9 e10
    rintro j IH ρ' _ ⟨i, Γ6, hij, hs6, e0, e1, e2, e3, e11, e13, e15, rfl⟩
    refine TK.know7 e0 e1 e2 e3 e11 e13 e15 ?_
    by_cases hi : i < L.length
    · obtain ⟨r, hr⟩ : ∃ r, L[i]? = some r := ⟨L[i], List.getElem?_eq_getElem hi⟩
      have hrm := List.mem_of_getElem? hr
      obtain ⟨hrl, hrne, hrx⟩ := hLr r hrm
      have hrpos : 0 < r.w.length := List.length_pos_iff.2 hrne
      obtain ⟨x, hx⟩ : ∃ x, r.w[0]? = some x := ⟨r.w[0], List.getElem?_eq_getElem hrpos⟩
      have hxm := List.mem_of_getElem? hx
      obtain ⟨jj, hjj⟩ := List.getElem?_of_mem (Gph.turned_mem hPL hPM (List.mem_map_of_mem hrm : r.w ∈ L.map Rw.w))
      rw [List.getElem?_map] at hjj
      obtain ⟨t, ht, htw⟩ := Option.map_eq_some_iff.1 hjj
      have hjl := (List.getElem?_eq_some_iff.1 ht).1
      have hL6 := hRL5.sub hs6
      have hM6 := hRM.sub hs6
      have hrow := hL6.row r hrm
      refine TK.mem fun m0 hm0 => ?_
      obtain ⟨g, u, rfl⟩ := hL6.some hm0 (by omega)
      obtain ⟨g2, u2, rfl⟩ := hM6.some hm0 (by omega)
      obtain ⟨gr, ur, hrA⟩ := src_some (hrow m0 hm0) (by rw [ints_len]; exact hrpos)
      clear hm0 m0
      have hcr := hL6.v rfl hr
      have hct := hM6.v rfl ht
      have hcr' := hcr
      unfold Rw.v at hcr'
      rw [hrA] at hrow hcr'
      have hv : [r].map Rw.v = ([.slice (some ⟨gr, ur, none⟩) r.w.length r.c] : List Value) := by rw [List.map_singleton]; unfold Rw.v; rw [hrA]
      have hcx := has_ints hrow hx
      rw [Nat.add_zero] at hcx
      refine m_run ?_
      (apply TL.callV; exact rfl; exact callB_of (by kernel_rfl); exact rfl; exact fun _ h => h)
      exact part_t (some ⟨g2, u2, none⟩) q2 M (x : Int) _ hM6 (by omega) (fun r hr => by have := (hMr r hr).1; omega)
      rintro _ Γ6 ⟨⟨k1, rfl, hk1⟩, rfl⟩
      have hxN := hrx x hxm
      have hk2 := part_pix hPM hxN hk1
      rw [hPM.pix_of (i := jj) (p := r.w) (by rw [List.getElem?_map, ht]; exact congrArg some htw) hxm] at hk2
      subst hk2
      refine m_run ?_
      refine TK.drawS mixed rfl ?_
      refine m_take (At.mk : At 0) ?_; refine m_take (At.mk : At 1) ?_
      refine TA.know (t := 98) (v := .bool false) (congrArg Value.bool (decide_eq_false (by omega))) ?_
      refine m_take (At.mk : At 2) ?_; refine m_take (At.mk : At 3) ?_; refine m_take (At.mk : At 4) ?_; refine m_take (At.mk : At 5) ?_; refine m_take (At.mk : At 6) ?_
      refine TA.know (t := 103) (v := .bool false) (congrArg Value.bool (decide_eq_false (by omega))) ?_
      refine m_take (At.mk : At 7) ?_; refine m_take (At.mk : At 8) ?_; refine m_take (At.mk : At 9) ?_; refine m_take (At.mk : At 10) ?_; refine m_take (At.mk : At 11) ?_; refine m_take (At.mk : At 12) ?_; refine m_take (At.mk : At 14) ?_; refine m_take (At.mk : At 15) ?_; refine m_take (At.mk : At 16) ?_; refine m_take (At.mk : At 17) ?_
      refine TA.cutJ [13, 18] (fun ρ' Γ' => ∃ b110 b115 : Nat, lk ρ' 0 = .int .i64 (N : Int) ∧ lk ρ' 1 = .slice A es.length c ∧ lk ρ' 2 = .int .u8 (ka : Int) ∧ lk ρ' 3 = .int .u8 (kb : Int) ∧ lk ρ' 11 = .slice (some ⟨g, u, none⟩) L.length q ∧ lk ρ' 13 = .slice (some ⟨g2, u2, none⟩) M.length q2 ∧ lk ρ' 15 = .int .i64 (i : Int) ∧ lk ρ' 104 = .bool false ∧ lk ρ' 105 = .bool false ∧ lk ρ' 110 = .slice (some ⟨b110, 0, none⟩) 1 1 ∧ lk ρ' 115 = .slice (some ⟨b115, 0, none⟩) 1 1 ∧ Γ' = row b110 [.slice (some ⟨gr, ur, none⟩) r.w.length r.c] 54 :: row b115 [t.v] 54 :: Γ6) rfl ?_ ?_
      · intro tail
        (apply TA.two 13 18; kernel_rfl; exact rfl; exact rfl)
        · refine m_rrun ?_
          (apply TL.buildSlice (l := [.slice (some ⟨gr, ur, none⟩) r.w.length r.c]); exact rfl; exact tb rfl; exact rfl; exact tb rfl; exact rfl; exact rfl; exact rfl; exact rfl; exact rfl)
          intro b110
          refine TL.back (by (focus ((repeat (first | assumption | exact Ent.refl _ | apply Ent.tail)); done))) ?_
          (apply TA.one 18; kernel_rfl; exact rfl)
          refine m_rrun ?_
          (apply TL.buildSlice (l := [t.v]); exact rfl; exact tb rfl; exact rfl; exact tb rfl; exact rfl; exact rfl; exact rfl; exact rfl; exact rfl)
          intro b115
          refine TL.back (by (focus ((repeat (first | assumption | exact Ent.refl _ | apply Ent.tail)); done))) ?_
          refine TA.perm (.swap _ _ _) ?_
          refine TA.eqL ?_ (tail _ _ ⟨b110, b115, rfl, rfl, rfl, rfl, rfl, rfl, rfl, rfl, rfl, rfl, rfl, rfl⟩)
          kernel_rfl
        · refine m_rrun ?_
          (apply TL.buildSlice (l := [t.v]); exact rfl; exact tb rfl; exact rfl; exact tb rfl; exact rfl; exact rfl; exact rfl; exact rfl; exact rfl)
          intro b115
          refine TL.back (by (focus ((repeat (first | assumption | exact Ent.refl _ | apply Ent.tail)); done))) ?_
          (apply TA.one 13; kernel_rfl; exact rfl)
          refine m_rrun ?_
          (apply TL.buildSlice (l := [.slice (some ⟨gr, ur, none⟩) r.w.length r.c]); exact rfl; exact tb rfl; exact rfl; exact tb rfl; exact rfl; exact rfl; exact rfl; exact rfl; exact rfl)
          intro b110
          refine TL.back (by (focus ((repeat (first | assumption | exact Ent.refl _ | apply Ent.tail)); done))) ?_
          refine TA.eqL ?_ (tail _ _ ⟨b110, b115, rfl, rfl, rfl, rfl, rfl, rfl, rfl, rfl, rfl, rfl, rfl, rfl⟩)
          kernel_rfl
      rintro ρ3 _ ⟨b110, b115, x0, x1, x2, x3, x11, x13, x15, x104, x105, x110, x115, rfl⟩
      refine TA.know (t := 0) (v := .int .i64 (N : Int)) x0 ?_
      refine TA.know (t := 1) (v := .slice A es.length c) x1 ?_
      refine TA.know (t := 2) (v := .int .u8 (ka : Int)) x2 ?_
      refine TA.know (t := 3) (v := .int .u8 (kb : Int)) x3 ?_
      refine TA.know (t := 11) (v := .slice (some ⟨g, u, none⟩) L.length q) x11 ?_
      refine TA.know (t := 13) (v := .slice (some ⟨g2, u2, none⟩) M.length q2) x13 ?_
      refine TA.know (t := 15) (v := .int .i64 (i : Int)) x15 ?_
      refine TA.know (t := 104) (v := .bool false) x104 ?_
      refine TA.know (t := 105) (v := .bool false) x105 ?_
      refine TA.know (t := 110) (v := .slice (some ⟨b110, 0, none⟩) 1 1) x110 ?_
      refine TA.know (t := 115) (v := .slice (some ⟨b115, 0, none⟩) 1 1) x115 ?_
      (apply TA.one 19; kernel_rfl; exact rfl)
      refine m_rrun ?_
      (apply TL.callV; exact rfl; exact callB_of (by kernel_rfl); exact rfl; exact fun _ h => h)
      refine same_t (some ⟨b110, 0, none⟩) (some ⟨b115, 0, none⟩) 1 1 [r] [t] _ ⟨by rw [hv]; exact has_src_row 0 rfl rfl, fun y hy => ?_⟩ ⟨has_src_row 1 rfl rfl, fun y hy => ?_⟩ (show 1 ≤ 1000000000 by decide) (show 1 ≤ 1000000000 by decide) (fun y hy => ?_)
      · rw [List.mem_singleton.1 hy]; exact has_tls (has_tls (hL6.row r hrm))
      · rw [List.mem_singleton.1 hy]; exact has_tls (has_tls (hM6.row t (List.mem_of_getElem? ht)))
      · rw [List.mem_singleton.1 hy]; omega
      rintro _ _ ⟨rfl, rfl⟩
      rw [decide_eq_true (show List.map Rw.w [r] = List.map Rw.w [t] by rw [List.map_singleton, List.map_singleton, htw])]
      refine TL.back (by (focus ((repeat (first | assumption | exact Ent.refl _ | apply Ent.tail)); done))) ?_
      refine m_take (At.mk : At 20) ?_; refine m_take (At.mk : At 21) ?_
      refine TA.done (by kernel_rfl) ?_
      refine m_run ?_
      exact IH (j - 1) _ _ (by omega) ⟨i + 1, _, by omega, .cons _ (.cons _ hs6), rfl, rfl, rfl, rfl, rfl, rfl, congrArg (Value.int .i64) (i64_succ i (by omega)), rfl⟩
    obtain rfl : i = L.length := by omega
    clear IH
    have hL6 := hRL5.sub hs6
    have hsx6 := has_sublist (up_src _ _ _ _) hs6 hsx5
    have hS6 := hS5.trans hs6
    clear hs6 hRL5 hRM hsx5 hS5
    obtain ⟨ub, hub⟩ : ∃ ub, ub = ka % N := ⟨_, rfl⟩
    have hNp : 0 < N := by omega
    have huN : ub < N := by rw [hub]; exact Nat.mod_lt _ hNp
    refine m_run ?_
    refine TL.know (t := 120) (v := .int .i64 (ka : Int)) (congrArg (Value.int .i64) (i64_in (by omega) (by omega))) ?_
    refine m_run ?_
    (apply TL.pv; exact rfl; (apply PV.remN (n := ka) (m := N); exact rfl; exact rfl; exact rfl; exact (by omega)))
    rw [← hub]
    refine m_run ?_
    (apply TL.callV; exact rfl; exact callB_of (by kernel_rfl); exact rfl; exact fun _ h => h)
    exact part_t Q q L (ub : Int) _ hL6 (by omega) (fun r hr => by have := (hLr r hr).1; omega)
    rintro _ Γ6 ⟨⟨k1, rfl, hk1⟩, rfl⟩
    have hk2 := part_pix hPL huN hk1
    obtain ⟨w, hw⟩ : ∃ w, w = Gph.pix (L.map Rw.w) ub := ⟨_, rfl⟩
    rw [← hw] at hk2
    subst hk2
    obtain ⟨p, hpw, hup⟩ := hPL.pix_mem huN
    rw [← hw, List.getElem?_map] at hpw
    obtain ⟨r, hr, rfl⟩ := Option.map_eq_some_iff.1 hpw
    have hwl := (List.getElem?_eq_some_iff.1 hr).1
    have hrm := List.mem_of_getElem? hr
    obtain ⟨hrl, hrne, hrx⟩ := hLr r hrm
    have hrpos : 0 < r.w.length := List.length_pos_iff.2 hrne
    obtain ⟨to, hto⟩ : ∃ to, r.w[kb % r.w.length]? = some to := ⟨r.w[kb % r.w.length]'(Nat.mod_lt _ hrpos), List.getElem?_eq_getElem _⟩
    have hkm : kb % r.w.length < r.w.length := Nat.mod_lt _ hrpos
    have htm := List.mem_of_getElem? hto
    have hrow := hL6.row r hrm
    refine TL.mem fun m0 hm0 => ?_
    obtain ⟨g, u, rfl⟩ := hL6.some hm0 (by omega)
    obtain ⟨gr, ur, hrA⟩ := src_some (hrow m0 hm0) (by rw [ints_len]; exact hrpos)
    clear hm0 m0
    have hcr := hL6.v rfl hr
    unfold Rw.v at hcr
    rw [hrA] at hrow hcr
    have hct := has_ints hrow hto
    refine m_run ?_
    refine TK.drawS mixed rfl ?_
    refine m_take (At.mk : At 0) ?_; refine m_take (At.mk : At 1) ?_; refine m_take (At.mk : At 2) ?_; refine m_take (At.mk : At 3) ?_; refine m_take (At.mk : At 4) ?_; refine m_take (At.mk : At 5) ?_
    refine TA.know (t := 139) (v := .int .i64 (kb : Int)) (congrArg (Value.int .i64) (i64_in (by omega) (by omega))) ?_
    refine m_take (At.mk : At 6) ?_; refine m_take (At.mk : At 7) ?_; refine m_take (At.mk : At 8) ?_; refine m_take (At.mk : At 9) ?_; refine m_take (At.mk : At 10) ?_
    (apply TA.takeA (At.mk : At 11); exact rfl; exact rfl; kernel_rfl; ((focus ((repeat (first | assumption | exact Ent.refl _ | apply Ent.tail)); done))); (apply PV.remN (n := kb) (m := r.w.length); exact rfl; exact rfl; exact rfl; exact (by omega)))
    refine m_take (At.mk : At 12) ?_; refine m_take (At.mk : At 13) ?_; refine m_take (At.mk : At 14) ?_
    refine TA.done (by kernel_rfl) ?_
    refine m_run ?_
    (apply TL.buildSlice (l := []); exact rfl; exact tb rfl; exact rfl; exact tb rfl; exact rfl; exact rfl; exact rfl; exact rfl; exact rfl)
    intro b148
    refine m_run ?_
    (apply TL.append 0 (n := 0) (m := es.length) (cs := []) (news := es.flatMap prC); exact rfl; exact rfl; exact tb rfl; exact rfl; exact tb rfl; exact rfl; exact rfl; exact rfl)
    · exact fun _ h => own_row (n := 0) rfl (by decide) h
    · exact rfl
    · exact has_tls hsx6
    · exact fun u hu => by
        obtain ⟨y, _, hy⟩ := List.mem_flatMap.1 hu
        rcases List.mem_cons.1 hy with rfl | hy
        · rfl
        · rw [List.mem_singleton.1 hy]; rfl
    · show (0 + es.length) * 16 ≤ _; omega
    · show 0 + es.length ≤ maxLen; unfold maxLen; omega
    · exact fun _ => (rfl : _ = _ :: _)
    intro B5 k5 hk5
    simp only [Nat.zero_add, List.nil_append] at hk5 ⊢
    refine m_run ?_
    (apply TL.pv; exact rfl; (apply PV.buildArr; exact tb rfl; exact rfl; exact tb rfl; exact rfl; exact rfl; exact (rfl : _ = prC ((ub : Int), (to : Int)))))
    (apply TL.buildSlice (l := [((ub : Int), (to : Int))].flatMap prC); exact rfl; exact tb rfl; exact rfl; exact tb rfl; exact rfl; exact rfl; exact rfl; exact rfl; exact rfl)
    intro b154
    refine m_run ?_
    (apply TL.append 1 (n := es.length) (m := 1) (cs := es.flatMap prC) (news := [((ub : Int), (to : Int))].flatMap prC); exact rfl; exact rfl; exact tb rfl; exact rfl; exact tb rfl; exact rfl; exact rfl; exact rfl)
    · exact fun _ h => h
    · exact rfl
    · exact has_src_row 0 rfl rfl
    · exact fun u hu => by
        rcases List.mem_cons.1 hu with rfl | hu
        · rfl
        · rw [List.mem_singleton.1 hu]; rfl
    · show (es.length + 1) * 16 ≤ _; omega
    · show es.length + 1 ≤ maxLen; unfold maxLen; omega
    · exact fun _ => (rfl : _ = _ :: _ :: _)
    intro B6 k6 hk6
    rw [show es.flatMap prC ++ [((ub : Int), (to : Int))].flatMap prC = (es ++ [((ub : Int), (to : Int))]).flatMap prC by rw [List.flatMap_append], show es.length + 1 = (es ++ [((ub : Int), (to : Int))]).length by simp]
    have htN := hrx to htm
    have hp3 : pErr (N : Int) (es ++ [((ub : Int), (to : Int))]) = 0 := pErr_zero hn0 hn1 (by simp; omega) fun x hx => by
      rcases List.mem_append.1 hx with hx | hx
      · exact hes x hx
      · rw [List.mem_singleton.1 hx]
        exact ⟨by simp, by simp; omega, by simp, by simp; omega⟩
    refine m_run ?_
    (apply TL.callV; exact rfl; exact callB_of (by kernel_rfl); exact rfl; exact fun _ h => h)
    exact partsG_t N B6 k6 (es ++ [((ub : Int), (to : Int))]) _ (has_at (up_src _ _ _ _) 1 rfl fun _ h => own_src h) (by simp; omega)
    rintro _ Γ7 ⟨Q3, q3, O, rfl, hRO, hs7, _, hPO⟩
    replace hPO := hPO hp3
    rw [Int.toNat_natCast] at hPO
    rw [hp3]
    have hab : Gph.Rc (Gph.El (edsN es)) ub to := (((hPL.scc r.w (List.mem_map_of_mem hrm)).2.2 ub hup).2 to |>.1 htm).1
    have hE : Gph.El (edsN (es ++ [((ub : Int), (to : Int))])) = fun x y => Gph.El (edsN es) x y ∨ (x = ub ∧ y = to) := by
      funext x y
      apply propext
      show (x, y) ∈ List.map edN (es ++ [((ub : Int), (to : Int))]) ↔ (x, y) ∈ List.map edN es ∨ _
      rw [List.map_append, List.mem_append, List.map_singleton, List.mem_singleton, show edN ((ub : Int), (to : Int)) = (ub, to) from rfl, Prod.mk.injEq]
    rw [hE] at hPO
    have hLO : L.map Rw.w = O.map Rw.w := (hPL.congr (Gph.rc_more hab)).unique hPO
    have hOl : O.length = L.length := by have := congrArg List.length hLO; simpa using this.symm
    have hsT := (List.Sublist.cons (row b154 ([((ub : Int), (to : Int))].flatMap prC) 52) (.cons (own 52 2 (.slice B5 es.length k5) es.length (es.flatMap prC)) (.refl Γ6)))
    have hL7 : Rows (some ⟨g, u, none⟩) L Γ7 := (hL6.tl.tl).sub hs7
    refine m_run ?_
    (apply TL.callV; exact rfl; exact callB_of (by kernel_rfl); exact rfl; exact fun _ h => h)
    exact same_t (some ⟨g, u, none⟩) Q3 q q3 L O _ hL7 hRO (by omega) (by omega) (fun r hr => by have := (hLr r hr).1; omega)
    rintro _ Γ7 ⟨rfl, rfl⟩
    rw [decide_eq_true hLO]
    refine m_run ?_
    (apply TL.callV; exact rfl; exact callB_of (by kernel_rfl); exact rfl; exact fun _ h => h)
    exact works9_t _
    rintro _ Γ8 ⟨rfl, hs8⟩
    refine m_run ?_
    (apply TK.retS1; exact rfl; exact rfl; (exact m_val))
    exact ⟨_, rfl, rfl, rfl⟩
    exact ((hS6.trans (.cons _ (.cons _ (.refl _)))).trans hs7).trans hs8
end Go.Proofs.Ytndmjpceocecdaa.E

/- With an edge more there are no more parts: walked. -/
namespace Go.Proofs.Ytndmjpceocecdaa.E
open Go Go.RowKit Go.Proofs
attribute [local irreducible] TK TL TQ TA TB Fn PV
abbrev boolsC (l : List Bool) : List Value := l.map Value.bool
theorem bools_len (l : List Bool) : (boolsC l).length = l.length := by simp
theorem has_bool {Γ : List HP} {b o n i : Nat} {x : Bool} {l : List Bool} (h : has Γ (srcAt 1 (some ⟨b, o, none⟩) n (boolsC l))) (hi : l[i]? = some x) : has Γ (fun m => cellAt m b (o + i) (.bool x)) := has_v h (by rw [List.getElem?_map, hi]; rfl)
def cntB (l : List Bool) : Nat := l.countP id
theorem cntB_le (l : List Bool) : cntB l ≤ l.length := List.countP_le_length
theorem cntB_set {l : List Bool} {b : Nat} (h : l[b]? = some false) : cntB (l.set b true) = cntB l + 1 := by
  obtain ⟨h1, h2⟩ := List.getElem?_eq_some_iff.1 h
  unfold cntB
  rw [List.countP_set h1, h2]
  simp
/-- Who is seen, is come to; or is closed, or there are so many. -/
structure SeenR (es : List (Int × Int)) (w N : Nat) (bs : List Bool) : Prop where
  len : bs.length = N
  own : bs[w]? = some true
  sound : ∀ v, bs[v]? = some true → Gph.Rc (Gph.El (edsN es)) w v
def closedB (es : List (Int × Int)) (bs : List Bool) : Prop := ∀ x ∈ es, bs[x.1.toNat]? = some true → bs[x.2.toNat]? = some true
theorem SeenR.whole {es : List (Int × Int)} {w N : Nat} {bs : List Bool} (h : SeenR es w N bs) (hc : closedB es bs) (v : Nat) : bs[v]? = some true ↔ Gph.Rc (Gph.El (edsN es)) w v := by
  refine ⟨h.sound v, fun hr => ?_⟩
  refine hr.closed (C := fun z => bs[z]? = some true) (fun a b ha e => ?_) h.own
  obtain ⟨x, hx, hxe⟩ := List.mem_map.1 (show (a, b) ∈ List.map edN es from e)
  unfold edN at hxe
  injection hxe with h1 h2
  have := hc x hx
  rw [h1, h2] at this
  exact this ha
theorem SeenR.set {es : List (Int × Int)} {w N : Nat} {bs : List Bool} (h : SeenR es w N bs) {x : Int × Int} (hx : x ∈ es) (ha : bs[x.1.toNat]? = some true) (hb : x.2.toNat < N) : SeenR es w N (bs.set x.2.toNat true) := by
  refine ⟨by rw [List.length_set]; exact h.len, ?_, fun v hv => ?_⟩
  · rw [List.getElem?_set]
    split
    · rw [if_pos (by rw [h.len]; exact hb)]
    · exact h.own
  · rw [List.getElem?_set] at hv
    split at hv
    · rename_i e
      rw [← e]
      exact (h.sound _ ha).step (List.mem_map.2 ⟨x, hx, rfl⟩)
    · exact h.sound v hv
theorem sub_mid {H : HP} : ∀ {A B Γ : List HP}, (A ++ H :: B).Sublist Γ → ∃ Γ', Γ.Perm (H :: Γ') ∧ (A ++ B).Sublist Γ'
  | [], B, Γ, h => by
    obtain ⟨r1, r2, rfl, hm, hB⟩ := List.cons_sublist_iff.1 h
    obtain ⟨s, t, rfl⟩ := List.append_of_mem hm
    refine ⟨s ++ t ++ r2, ?_, hB.trans (List.sublist_append_right _ _)⟩
    simp only [List.append_assoc, List.cons_append]
    exact List.perm_middle
  | a :: A, B, Γ, h => by
    obtain ⟨r1, r2, rfl, hm, hB⟩ := List.cons_sublist_iff.1 h
    obtain ⟨Γ', hp, hS⟩ := sub_mid hB
    exact ⟨r1 ++ Γ', (List.Perm.append_left r1 hp).trans List.perm_middle, List.cons_sublist_iff.2 ⟨r1, Γ', rfl, hm, hS⟩⟩
theorem boolsC_set (l : List Bool) (i : Nat) (b : Bool) : boolsC (l.set i b) = (boolsC l).set i (.bool b) := List.map_set
theorem SeenR.zero {es : List (Int × Int)} {w N : Nat} (hw : w < N) : SeenR es w N ((List.replicate N false).set w true) where
  len := by simp
  own := List.getElem?_set_self (by simpa using hw)
  sound := fun v hv => by
    rw [List.getElem?_set] at hv
    split at hv
    · rename_i e
      subst e
      exact .refl _
    · rw [List.getElem?_replicate] at hv
      split at hv <;> cases hv
/-- How far a round has come. -/
def RndR (es : List (Int × Int)) (r i : Nat) (bs : List Bool) : Prop := closedB es bs ∨ ((∀ x ∈ es.take i, bs[x.1.toNat]? = some true → bs[x.2.toNat]? = some true) ∧ r + 1 ≤ cntB bs) ∨ r + 2 ≤ cntB bs
theorem RndR.fin {es : List (Int × Int)} {r : Nat} {bs : List Bool} (h : RndR es r es.length bs) : closedB es bs ∨ r + 1 + 1 ≤ cntB bs := by
  rcases h with h | ⟨h, _⟩ | h
  · exact .inl h
  · rw [List.take_length] at h; exact .inl h
  · exact .inr h
theorem RndR.start {es : List (Int × Int)} {r : Nat} {bs : List Bool} (h : closedB es bs ∨ r + 1 ≤ cntB bs) : RndR es r 0 bs := by
  rcases h with h | h
  · exact .inl h
  · exact .inr (.inl ⟨(fun x hx => by cases hx), h⟩)
theorem RndR.next {es : List (Int × Int)} {r i : Nat} {bs : List Bool} {x : Int × Int} (h : RndR es r i bs) (hx : es[i]? = some x) (h0 : bs[x.1.toNat]? = some true → bs[x.2.toNat]? = some true) : RndR es r (i + 1) bs := by
  rcases h with h | ⟨h, h2⟩ | h
  · exact .inl h
  · refine .inr (.inl ⟨fun y hy => ?_, h2⟩)
    rw [take_next hx] at hy
    rcases List.mem_append.1 hy with hy | hy
    · exact h y hy
    · rw [List.mem_singleton.1 hy]; exact h0
  · exact .inr (.inr h)
theorem RndR.mark {es : List (Int × Int)} {r i : Nat} {bs : List Bool} {x : Int × Int} (h : RndR es r i bs) (hx : es[i]? = some x) (h0 : bs[x.1.toNat]? = some true) (hl : x.2.toNat < bs.length) : RndR es r (i + 1) (bs.set x.2.toNat true) := by
  cases hb : bs[x.2.toNat]'hl with
  | true =>
    have hb' : bs[x.2.toNat]? = some true := by rw [List.getElem?_eq_getElem hl, hb]
    have : bs.set x.2.toNat true = bs := by rw [← hb]; exact List.set_getElem_self hl
    rw [this]
    exact h.next hx fun _ => hb'
  | false =>
    have hb' : bs[x.2.toNat]? = some false := by rw [List.getElem?_eq_getElem hl, hb]
    refine .inr (.inr ?_)
    rw [cntB_set hb']
    rcases h with h | ⟨_, h⟩ | h
    · have := h x (List.mem_of_getElem? hx) h0
      rw [hb'] at this
      cases this
    · omega
    · omega
set_option maxRecDepth 100000 in
set_option maxHeartbeats 8000000 in
theorem graphMore_t (n : Int) (A : Option Addr) (c : Nat) (es : List (Int × Int)) (ka kb : Nat) (Γ : List HP) (hs : has Γ (srcAt 2 A es.length (es.flatMap prC))) (hka : ka ≤ 255) (hkb : kb ≤ 255) :
    FnV Try.prog 10 [.int .i64 n, .slice A es.length c, .int .u8 (ka : Int), .int .u8 (kb : Int)] Γ fun v Γ' => v = .bool true ∧ Γ' = Γ := by
  refine Fn.enter Try.func10 rfl rfl rfl fun E => ?_
  have wk : ∀ Γ1 : List HP, Γ.Sublist Γ1 → Γ.Sublist Γ1 := fun _ h => h
  refine m_run ?_
  (apply TL.callV; exact rfl; exact callB_of (by kernel_rfl); exact rfl; exact fun _ h => h)
  exact few_t n A c es _
  rintro _ Γ ⟨rfl, rfl⟩
  cases hf : (decide (n ≤ 60) && decide (es.length ≤ 300)) with
  | false =>
    refine m_run ?_
    (apply TL.callV; exact rfl; exact callB_of (by kernel_rfl); exact rfl; exact fun _ h => h)
    exact works9_t _
    rintro _ Γ1 ⟨rfl, hs1⟩
    refine m_run ?_
    (apply TK.retS1; exact rfl; exact rfl; (exact m_val))
    exact ⟨_, rfl, rfl, rfl⟩
    exact hs1
  | true =>
  refine m_run ?_
  (apply TL.callV; exact rfl; exact callB_of (by kernel_rfl); exact rfl; exact fun _ h => h)
  exact right_t n A c es _ hs
  rintro _ Γ ⟨rfl, rfl⟩
  cases hR : rightB n es with
  | false =>
    refine m_run ?_
    (apply TL.callV; exact rfl; exact callB_of (by kernel_rfl); exact rfl; exact fun _ h => h)
    exact works9_t _
    rintro _ Γ1 ⟨rfl, hs1⟩
    refine m_run ?_
    (apply TK.retS1; exact rfl; exact rfl; (exact m_val))
    exact ⟨_, rfl, rfl, rfl⟩
    exact hs1
  | true =>
  obtain ⟨hn0, hn1, hel, hes⟩ := right_facts hR
  by_cases hz : n < 1
  · refine m_run ?_
    (apply TL.callV; exact rfl; exact callB_of (by kernel_rfl); exact rfl; exact fun _ h => h)
    exact works9_t _
    rintro _ Γ1 ⟨rfl, hs1⟩
    refine m_run ?_
    (apply TK.retS1; exact rfl; exact rfl; (exact m_val))
    exact ⟨_, rfl, rfl, rfl⟩
    exact hs1
  obtain ⟨N, rfl⟩ : ∃ N : Nat, n = (N : Int) := ⟨n.toNat, by omega⟩
  have hNp : 0 < N := by omega
  obtain ⟨fu, hfu⟩ : ∃ fu, fu = ka % N := ⟨_, rfl⟩
  obtain ⟨tw, htw⟩ : ∃ tw, tw = kb % N := ⟨_, rfl⟩
  have hfN : fu < N := by rw [hfu]; exact Nat.mod_lt _ hNp
  have htN : tw < N := by rw [htw]; exact Nat.mod_lt _ hNp
  refine m_run ?_
  refine TL.know (t := 41) (v := .int .i64 (ka : Int)) (congrArg (Value.int .i64) (i64_in (by omega) (by omega))) ?_
  refine m_run ?_
  (apply TL.pv; exact rfl; (apply PV.remN (n := ka) (m := N); exact rfl; exact rfl; exact rfl; exact (by omega)))
  rw [← hfu]
  refine m_run ?_
  refine TL.know (t := 45) (v := .int .i64 (kb : Int)) (congrArg (Value.int .i64) (i64_in (by omega) (by omega))) ?_
  refine m_run ?_
  (apply TL.pv; exact rfl; (apply PV.remN (n := kb) (m := N); exact rfl; exact rfl; exact rfl; exact (by omega)))
  rw [← htw]
  have hp1 : pErr (N : Int) es = 0 := pErr_zero hn0 hn1 (by omega) hes
  have hxE : ∀ x ∈ [((fu : Int), (tw : Int))], 0 ≤ x.1 ∧ x.1 < (N : Int) ∧ 0 ≤ x.2 ∧ x.2 < (N : Int) := fun x hx => by
    rw [List.mem_singleton.1 hx]
    exact ⟨by simp, by simp; omega, by simp, by simp; omega⟩
  have hes1 : ∀ x ∈ es ++ [((fu : Int), (tw : Int))], 0 ≤ x.1 ∧ x.1 < (N : Int) ∧ 0 ≤ x.2 ∧ x.2 < (N : Int) := fun x hx => (List.mem_append.1 hx).elim (hes x) (hxE x)
  have hes2 : ∀ x ∈ es ++ [((fu : Int), (tw : Int))] ++ [((fu : Int), (tw : Int))], 0 ≤ x.1 ∧ x.1 < (N : Int) ∧ 0 ≤ x.2 ∧ x.2 < (N : Int) := fun x hx => (List.mem_append.1 hx).elim (hes1 x) (hxE x)
  have hp2 : pErr (N : Int) (es ++ [((fu : Int), (tw : Int))]) = 0 := pErr_zero hn0 hn1 (by simp; omega) hes1
  have hp3 : pErr (N : Int) (es ++ [((fu : Int), (tw : Int))] ++ [((fu : Int), (tw : Int))]) = 0 := pErr_zero hn0 hn1 (by simp; omega) hes2
  refine m_run ?_
  (apply TL.callV; exact rfl; exact callB_of (by kernel_rfl); exact rfl; exact fun _ h => h)
  exact partsG_t N A c es _ hs (by omega)
  rintro _ Γ1 ⟨QL, ql, L, rfl, hRL, hs1, _, hPL⟩
  replace hPL := hPL hp1
  rw [Int.toNat_natCast] at hPL
  rw [hp1]
  refine m_run ?_
  (apply TL.buildSlice (l := []); exact rfl; exact tb rfl; exact rfl; exact tb rfl; exact rfl; exact rfl; exact rfl; exact rfl; exact rfl)
  intro b54
  refine m_run ?_
  (apply TL.append 0 (n := 0) (m := es.length) (cs := []) (news := es.flatMap prC); exact rfl; exact rfl; exact tb rfl; exact rfl; exact tb rfl; exact rfl; exact rfl; exact rfl)
  · exact fun _ h => own_row (n := 0) rfl (by decide) h
  · exact rfl
  · exact has_tls (has_sublist (up_src _ _ _ _) hs1 hs)
  · exact fun u hu => by
      obtain ⟨y, _, hy⟩ := List.mem_flatMap.1 hu
      rcases List.mem_cons.1 hy with rfl | hy
      · rfl
      · rw [List.mem_singleton.1 hy]; rfl
  · show (0 + es.length) * 16 ≤ _; omega
  · show 0 + es.length ≤ maxLen; unfold maxLen; omega
  · exact fun _ => (rfl : _ = _ :: _)
  intro B5 k5 hk5
  simp only [Nat.zero_add, List.nil_append] at hk5 ⊢
  refine m_run ?_
  (apply TL.pv; exact rfl; (apply PV.buildArr; exact tb rfl; exact rfl; exact tb rfl; exact rfl; exact rfl; exact (rfl : _ = prC ((fu : Int), (tw : Int)))))
  (apply TL.buildSlice (l := [((fu : Int), (tw : Int))].flatMap prC); exact rfl; exact tb rfl; exact rfl; exact tb rfl; exact rfl; exact rfl; exact rfl; exact rfl; exact rfl)
  intro b60
  refine m_run ?_
  (apply TL.append 1 (n := es.length) (m := 1) (cs := es.flatMap prC) (news := [((fu : Int), (tw : Int))].flatMap prC); exact rfl; exact rfl; exact tb rfl; exact rfl; exact tb rfl; exact rfl; exact rfl; exact rfl)
  · exact fun _ h => h
  · exact rfl
  · exact has_src_row 0 rfl rfl
  · exact fun u hu => by
      rcases List.mem_cons.1 hu with rfl | hu
      · rfl
      · rw [List.mem_singleton.1 hu]; rfl
  · show (es.length + 1) * 16 ≤ _; omega
  · show es.length + 1 ≤ maxLen; unfold maxLen; omega
  · exact fun _ => (rfl : _ = _ :: _ :: _)
  intro B6 k6 hkk6
  rw [show es.flatMap prC ++ [((fu : Int), (tw : Int))].flatMap prC = (es ++ [((fu : Int), (tw : Int))]).flatMap prC by rw [List.flatMap_append], show es.length + 1 = (es ++ [((fu : Int), (tw : Int))]).length by simp]
  obtain ⟨l1, hl1⟩ : ∃ l1, l1 = (es ++ [((fu : Int), (tw : Int))]).length := ⟨_, rfl⟩
  have hl1' : l1 = es.length + 1 := by rw [hl1]; simp
  rw [← hl1]
  have hc2 := partsX_t N B6 k6 (es ++ [((fu : Int), (tw : Int))]) (row b60 ([((fu : Int), (tw : Int))].flatMap prC) 52 :: own 52 2 (.slice B6 l1 k6) l1 ((es ++ [((fu : Int), (tw : Int))]).flatMap prC) :: Γ1) (by rw [← hl1]; exact has_at (up_src _ _ _ _) 1 rfl fun _ h => own_src h) (by simp; omega)
  rw [← hl1] at hc2
  refine m_run ?_
  (apply TL.callV; exact rfl; exact callB_of (by kernel_rfl); exact rfl; exact fun _ h => h)
  exact hc2
  rintro _ Γ2x ⟨QM, qm, M, rowsM, rfl, hmM, hs2x, _, hPM⟩
  replace hPM := hPM hp2
  rw [Int.toNat_natCast] at hPM
  rw [hp2]
  obtain ⟨Γ2, hpm, hs2⟩ := sub_mid (A := [own 54 1 (.slice QM M.length qm) M.length (M.map Rw.v), alls (Rw.h 3) rowsM, row b60 ([((fu : Int), (tw : Int))].flatMap prC) 52]) hs2x
  have hRM : Rows QM M Γ2 := Rows.sub ⟨has_at (Γ := [own 54 1 (.slice QM M.length qm) M.length (M.map Rw.v), alls (Rw.h 3) rowsM, row b60 ([((fu : Int), (tw : Int))].flatMap prC) 52] ++ Γ1) (up_src _ _ _ _) 0 rfl fun _ h => own_src h, fun r hr => by
    obtain ⟨q, hq⟩ := List.getElem?_of_mem (hmM r hr)
    exact has_allsW (Γ := [own 54 1 (.slice QM M.length qm) M.length (M.map Rw.v), alls (Rw.h 3) rowsM, row b60 ([((fu : Int), (tw : Int))].flatMap prC) 52] ++ Γ1) (k := 1) (up_src _ _ _ _) rfl hq fun _ h => own_src h⟩ hs2
  have hs12 : Γ1.Sublist Γ2 := (List.Sublist.cons _ (.cons _ (.cons _ (.refl _)))).trans hs2
  clear hs2 hs2x hmM
  refine TL.perm hpm ?_
  clear hpm
  refine m_run ?_
  (apply TL.pv; exact rfl; (apply PV.buildArr; exact tb rfl; exact rfl; exact tb rfl; exact rfl; exact rfl; exact (rfl : _ = prC ((fu : Int), (tw : Int)))))
  (apply TL.buildSlice (l := [((fu : Int), (tw : Int))].flatMap prC); exact rfl; exact tb rfl; exact rfl; exact tb rfl; exact rfl; exact rfl; exact rfl; exact rfl; exact rfl)
  intro b74
  refine m_run ?_
  (apply TL.append 1 (n := l1) (m := 1) (cs := (es ++ [((fu : Int), (tw : Int))]).flatMap prC) (news := [((fu : Int), (tw : Int))].flatMap prC); exact rfl; exact rfl; exact tb rfl; exact rfl; exact tb rfl; exact rfl; exact rfl; exact rfl)
  · exact fun _ h => h
  · exact rfl
  · exact has_src_row 0 rfl rfl
  · exact fun u hu => by
      rcases List.mem_cons.1 hu with rfl | hu
      · rfl
      · rw [List.mem_singleton.1 hu]; rfl
  · show (l1 + 1) * 16 ≤ _; omega
  · show l1 + 1 ≤ maxLen; unfold maxLen; omega
  · exact fun _ => (rfl : _ = _ :: _ :: _)
  intro B7 k7 hk7
  have hc3 := partsG_t N B7 k7 (es ++ [((fu : Int), (tw : Int))] ++ [((fu : Int), (tw : Int))]) (row b74 ([((fu : Int), (tw : Int))].flatMap prC) 52 :: own 52 2 (.slice B7 (l1 + 1) k7) (l1 + 1) ((es ++ [((fu : Int), (tw : Int))]).flatMap prC ++ [((fu : Int), (tw : Int))].flatMap prC) :: Γ2) (by rw [show (es ++ [((fu : Int), (tw : Int))] ++ [((fu : Int), (tw : Int))]).length = l1 + 1 by rw [List.length_append, hl1]; rfl, show (es ++ [((fu : Int), (tw : Int))] ++ [((fu : Int), (tw : Int))]).flatMap prC = (es ++ [((fu : Int), (tw : Int))]).flatMap prC ++ [((fu : Int), (tw : Int))].flatMap prC by rw [List.flatMap_append]]; exact has_at (up_src _ _ _ _) 1 rfl fun _ h => own_src h) (by simp; omega)
  rw [show (es ++ [((fu : Int), (tw : Int))] ++ [((fu : Int), (tw : Int))]).length = l1 + 1 by rw [List.length_append, hl1]; rfl] at hc3
  refine m_run ?_
  (apply TL.callV; exact rfl; exact callB_of (by kernel_rfl); exact rfl; exact fun _ h => h)
  exact hc3
  rintro _ Γ3 ⟨QT, qt, T, rfl, hRT, hs3, _, hPT⟩
  replace hPT := hPT hp3
  rw [Int.toNat_natCast] at hPT
  rw [hp3]
  have hs23 : Γ2.Sublist Γ3 := (List.Sublist.cons _ (.cons _ (.refl _))).trans hs3
  have hRL3 := hRL.sub (hs12.trans hs23)
  have hRM3 := hRM.sub hs23
  have hS3 := (hs1.trans hs12).trans hs23
  have hsx3 := has_sublist (up_src _ _ _ _) hS3 hs
  have hE1 : Gph.El (edsN (es ++ [((fu : Int), (tw : Int))])) = fun x y => Gph.El (edsN es) x y ∨ (x = fu ∧ y = tw) := by
    funext x y
    apply propext
    show (x, y) ∈ List.map edN (es ++ [((fu : Int), (tw : Int))]) ↔ (x, y) ∈ List.map edN es ∨ _
    rw [List.map_append, List.mem_append, List.map_singleton, List.mem_singleton, show edN ((fu : Int), (tw : Int)) = (fu, tw) from rfl, Prod.mk.injEq]
  have hE2 : Gph.El (edsN (es ++ [((fu : Int), (tw : Int))] ++ [((fu : Int), (tw : Int))])) = fun x y => Gph.El (edsN es) x y ∨ (x = fu ∧ y = tw) := by
    rw [← hE1]
    funext x y
    apply propext
    show (x, y) ∈ List.map edN (es ++ [((fu : Int), (tw : Int))] ++ [((fu : Int), (tw : Int))]) ↔ (x, y) ∈ List.map edN (es ++ [((fu : Int), (tw : Int))])
    rw [List.map_append (l₁ := (es ++ [((fu : Int), (tw : Int))])), List.mem_append]
    exact ⟨fun h => h.elim id fun h => by
      rw [List.map_append, List.mem_append]; exact .inr h, .inl⟩
  rw [hE1] at hPM
  rw [hE2] at hPT
  have hMT : M.map Rw.w = T.map Rw.w := hPM.unique hPT
  have hTl : T.length = M.length := by have := congrArg List.length hMT; simpa using this.symm
  have hup : ∀ v w, Gph.Rc (Gph.El (edsN es)) v w → Gph.Rc (fun x y => Gph.El (edsN es) x y ∨ (x = fu ∧ y = tw)) v w := fun v w h => Gph.rc_mono (fun _ _ h => .inl h) h
  have hMl : M.length ≤ L.length := by have := Gph.more_len hPL hPM hup; simpa using this
  obtain ⟨hLl, hLr⟩ := parts_rows hPL
  obtain ⟨hMl2, hMr⟩ := parts_rows hPM
  obtain ⟨hTl2, hTr⟩ := parts_rows hPT
  clear hc3 hs3 hRL hRM hs1 hs12 hs23 hE1 hE2
  refine m_run ?_
  apply TK.iter (fun j ρ' Γ' => ∃ (i : Nat) (Γ4 : List HP), i + j = N ∧ Γ3.Sublist Γ4 ∧ lk ρ' 0 = .int .i64 (N : Int) ∧ lk ρ' 1 = .slice A es.length c ∧ lk ρ' 9 = .int .i64 (fu : Int) ∧ lk ρ' 10 = .int .i64 (tw : Int) ∧ lk ρ' 11 = .slice QL L.length ql ∧ lk ρ' 14 = .slice QM M.length qm ∧ lk ρ' 16 = .slice QT T.length qt ∧ lk ρ' 18 = .int .i64 (i : Int) ∧ Γ' = Γ4) N
  · exact ⟨0, Γ3, Nat.zero_add _, .refl _, rfl, rfl, rfl, rfl, rfl, rfl, rfl, rfl, rfl⟩
  rintro j IH ρ' Γ4 ⟨i, _, hij, hs4, e0, e1, e9, e10, e11, e14, e16, e18, rfl⟩
  refine TK.know8 e0 e1 e9 e10 e11 e14 e16 e18 ?_
  by_cases hi : i < N
  · refine m_run ?_
    apply TK.iter (fun j2 ρ' Γ' => ∃ (k : Nat) (Γ5 : List HP), k + j2 = N ∧ Γ3.Sublist Γ5 ∧ lk ρ' 0 = .int .i64 (N : Int) ∧ lk ρ' 1 = .slice A es.length c ∧ lk ρ' 9 = .int .i64 (fu : Int) ∧ lk ρ' 10 = .int .i64 (tw : Int) ∧ lk ρ' 11 = .slice QL L.length ql ∧ lk ρ' 14 = .slice QM M.length qm ∧ lk ρ' 16 = .slice QT T.length qt ∧ lk ρ' 18 = .int .i64 (i : Int) ∧ lk ρ' 19 = .int .i64 (k : Int) ∧ Γ' = Γ5) N
    · exact ⟨0, _, Nat.zero_add _, hs4, rfl, rfl, rfl, rfl, rfl, rfl, rfl, rfl, rfl, rfl⟩
    clear e0 e1 e9 e10 e11 e14 e16 e18 hs4
    rintro j2 IH2 ρ' _ ⟨k, Γ5, hkj, hs5, e0, e1, e9, e10, e11, e14, e16, e18, e19, rfl⟩
    refine TK.know9 e0 e1 e9 e10 e11 e14 e16 e18 e19 ?_
    by_cases hk : k < N
    · have hL5 := hRL3.sub hs5
      have hM5 := hRM3.sub hs5
      have hT5 := hRT.sub hs5
      have hLM : Gph.pix (L.map Rw.w) i = Gph.pix (L.map Rw.w) k → Gph.pix (M.map Rw.w) i = Gph.pix (M.map Rw.w) k := fun h => by
        obtain ⟨h1, h2⟩ := (hPL.pix_same hi hk).1 h
        exact (hPM.pix_same hi hk).2 ⟨hup _ _ h1, hup _ _ h2⟩
      refine m_run ?_
      (apply TL.callV; exact rfl; exact callB_of (by kernel_rfl); exact rfl; exact fun _ h => h)
      exact part_t QL ql L (i : Int) _ hL5 (by omega) (fun r hr => by have := (hLr r hr).1; omega)
      rintro _ Γ5 ⟨⟨k1, rfl, hk1⟩, rfl⟩
      have hk2 := part_pix hPL hi hk1
      subst hk2
      clear hk1
      refine m_run ?_
      (apply TL.callV; exact rfl; exact callB_of (by kernel_rfl); exact rfl; exact fun _ h => h)
      exact part_t QL ql L (k : Int) _ hL5 (by omega) (fun r hr => by have := (hLr r hr).1; omega)
      rintro _ Γ5 ⟨⟨k1, rfl, hk1⟩, rfl⟩
      have hk2 := part_pix hPL hk hk1
      subst hk2
      clear hk1
      refine m_run ?_
      (apply TL.callV; exact rfl; exact callB_of (by kernel_rfl); exact rfl; exact fun _ h => h)
      exact part_t QM qm M (i : Int) _ hM5 (by omega) (fun r hr => by have := (hMr r hr).1; omega)
      rintro _ Γ5 ⟨⟨k1, rfl, hk1⟩, rfl⟩
      have hk2 := part_pix hPM hi hk1
      subst hk2
      clear hk1
      refine m_run ?_
      (apply TL.callV; exact rfl; exact callB_of (by kernel_rfl); exact rfl; exact fun _ h => h)
      exact part_t QM qm M (k : Int) _ hM5 (by omega) (fun r hr => by have := (hMr r hr).1; omega)
      rintro _ Γ5 ⟨⟨k1, rfl, hk1⟩, rfl⟩
      have hk2 := part_pix hPM hk hk1
      subst hk2
      clear hk1
      obtain ⟨a1, ha1⟩ : ∃ a, a = Gph.pix (L.map Rw.w) i := ⟨_, rfl⟩
      obtain ⟨a2, ha2⟩ : ∃ a, a = Gph.pix (L.map Rw.w) k := ⟨_, rfl⟩
      obtain ⟨b1, hb1⟩ : ∃ a, a = Gph.pix (M.map Rw.w) i := ⟨_, rfl⟩
      obtain ⟨b2, hb2⟩ : ∃ a, a = Gph.pix (M.map Rw.w) k := ⟨_, rfl⟩
      simp only [← ha1, ← ha2, ← hb1, ← hb2] at hLM ⊢
      by_cases h1 : a1 = a2
      · have h2 := hLM h1
        subst h1
        subst h2
        refine m_run ?_
        (apply TL.callV; exact rfl; exact callB_of (by kernel_rfl); exact rfl; exact fun _ h => h)
        exact part_t QT qt T (i : Int) _ hT5 (by omega) (fun r hr => by have := (hTr r hr).1; omega)
        rintro _ Γ5 ⟨⟨k1, rfl, hk1⟩, rfl⟩
        have hk2 := part_pix hPT hi hk1
        subst hk2
        clear hk1
        rw [← hMT, ← hb1]
        refine m_run ?_
        (apply TL.callV; exact rfl; exact callB_of (by kernel_rfl); exact rfl; exact fun _ h => h)
        exact part_t QT qt T (k : Int) _ hT5 (by omega) (fun r hr => by have := (hTr r hr).1; omega)
        rintro _ Γ5 ⟨⟨k1, rfl, hk1⟩, rfl⟩
        have hk2 := part_pix hPT hk hk1
        subst hk2
        clear hk1
        rw [← hMT, ← hb2]
        refine m_run ?_
        exact IH2 (j2 - 1) _ _ (by omega) ⟨k + 1, _, by omega, hs5, rfl, rfl, rfl, rfl, rfl, rfl, rfl, rfl, congrArg (Value.int .i64) (i64_succ k (by omega)), rfl⟩
      · by_cases h2 : b1 = b2
        · subst h2
          refine m_run ?_
          (apply TL.callV; exact rfl; exact callB_of (by kernel_rfl); exact rfl; exact fun _ h => h)
          exact part_t QT qt T (i : Int) _ hT5 (by omega) (fun r hr => by have := (hTr r hr).1; omega)
          rintro _ Γ5 ⟨⟨k1, rfl, hk1⟩, rfl⟩
          have hk2 := part_pix hPT hi hk1
          subst hk2
          clear hk1
          rw [← hMT, ← hb1]
          refine m_run ?_
          (apply TL.callV; exact rfl; exact callB_of (by kernel_rfl); exact rfl; exact fun _ h => h)
          exact part_t QT qt T (k : Int) _ hT5 (by omega) (fun r hr => by have := (hTr r hr).1; omega)
          rintro _ Γ5 ⟨⟨k1, rfl, hk1⟩, rfl⟩
          have hk2 := part_pix hPT hk hk1
          subst hk2
          clear hk1
          rw [← hMT, ← hb2]
          refine m_run ?_
          exact IH2 (j2 - 1) _ _ (by omega) ⟨k + 1, _, by omega, hs5, rfl, rfl, rfl, rfl, rfl, rfl, rfl, rfl, congrArg (Value.int .i64) (i64_succ k (by omega)), rfl⟩
        · refine m_run ?_
          (apply TL.callV; exact rfl; exact callB_of (by kernel_rfl); exact rfl; exact fun _ h => h)
          exact part_t QT qt T (i : Int) _ hT5 (by omega) (fun r hr => by have := (hTr r hr).1; omega)
          rintro _ Γ5 ⟨⟨k1, rfl, hk1⟩, rfl⟩
          have hk2 := part_pix hPT hi hk1
          subst hk2
          clear hk1
          rw [← hMT, ← hb1]
          refine m_run ?_
          (apply TL.callV; exact rfl; exact callB_of (by kernel_rfl); exact rfl; exact fun _ h => h)
          exact part_t QT qt T (k : Int) _ hT5 (by omega) (fun r hr => by have := (hTr r hr).1; omega)
          rintro _ Γ5 ⟨⟨k1, rfl, hk1⟩, rfl⟩
          have hk2 := part_pix hPT hk hk1
          subst hk2
          clear hk1
          rw [← hMT, ← hb2]
          refine m_run ?_
          exact IH2 (j2 - 1) _ _ (by omega) ⟨k + 1, _, by omega, hs5, rfl, rfl, rfl, rfl, rfl, rfl, rfl, rfl, congrArg (Value.int .i64) (i64_succ k (by omega)), rfl⟩
    obtain rfl : k = N := by omega
    refine m_run ?_
    exact IH (j - 1) _ _ (by omega) ⟨i + 1, _, by omega, hs5, rfl, rfl, rfl, rfl, rfl, rfl, rfl, congrArg (Value.int .i64) (i64_succ i (by omega)), rfl⟩
  clear IH
  have hM4 := hRM3.sub hs4
  have hsx4 := has_sublist (up_src _ _ _ _) hs4 hsx3
  have hS4 := hS3.trans hs4
  refine m_run ?_
  (apply TL.makeN (n := N) (c := N); exact rfl; exact rfl; exact rfl; exact tb rfl; exact rfl; exact tb rfl; exact rfl; exact rfl; exact Nat.le_refl _; exact (show 1 * N ≤ _ by omega); exact (show N ≤ maxLen by unfold maxLen; omega))
  intro wB
  rw [show List.replicate N (Value.bool false) = boolsC (List.replicate N false) from (List.map_replicate (f := Value.bool)).symm]
  refine m_run ?_
  (apply TL.storeOwn 0 tw; exact rfl; exact rfl; (exact m_val); exact rfl; exact tb rfl; exact rfl; exact (Nat.zero_add _).symm; exact htN)
  rw [← boolsC_set]
  clear e0 e1 e9 e10 e11 e14 e16 e18
  refine m_run ?_
  apply TK.iter (fun j ρ' Γ' => ∃ (r : Nat) (bs : List Bool), r + j = N ∧ SeenR es tw N bs ∧ (closedB es bs ∨ r + 1 ≤ cntB bs) ∧ lk ρ' 0 = .int .i64 (N : Int) ∧ lk ρ' 1 = .slice A es.length c ∧ lk ρ' 9 = .int .i64 (fu : Int) ∧ lk ρ' 10 = .int .i64 (tw : Int) ∧ lk ρ' 14 = .slice QM M.length qm ∧ lk ρ' 22 = .slice (some ⟨wB, 0, none⟩) N N ∧ lk ρ' 23 = .int .i64 (r : Int) ∧ Γ' = own 4 1 (.slice (some ⟨wB, 0, none⟩) N N) N (boolsC bs) :: Γ4) N
  · exact ⟨0, _, Nat.zero_add _, SeenR.zero htN, .inr (by rw [cntB_set (by rw [List.getElem?_replicate, if_pos htN])]; omega), rfl, rfl, rfl, rfl, rfl, rfl, rfl, rfl⟩
  rintro j IH ρ' _ ⟨r, bs, hrj, hSR, hcl, e0, e1, e9, e10, e14, e22, e23, rfl⟩
  refine TK.know7 e0 e1 e9 e10 e14 e22 e23 ?_
  by_cases hr : r < N
  · refine m_run ?_
    apply TK.iter (fun j2 ρ' Γ' => ∃ (i : Nat) (bs : List Bool), i + j2 = es.length ∧ SeenR es tw N bs ∧ RndR es r i bs ∧ lk ρ' 0 = .int .i64 (N : Int) ∧ lk ρ' 1 = .slice A es.length c ∧ lk ρ' 9 = .int .i64 (fu : Int) ∧ lk ρ' 10 = .int .i64 (tw : Int) ∧ lk ρ' 14 = .slice QM M.length qm ∧ lk ρ' 22 = .slice (some ⟨wB, 0, none⟩) N N ∧ lk ρ' 23 = .int .i64 (r : Int) ∧ lk ρ' 24 = .int .i64 (i : Int) ∧ Γ' = own 4 1 (.slice (some ⟨wB, 0, none⟩) N N) N (boolsC bs) :: Γ4) es.length
    · exact ⟨0, bs, Nat.zero_add _, hSR, .start hcl, rfl, rfl, rfl, rfl, rfl, rfl, rfl, rfl, rfl⟩
    clear e0 e1 e9 e10 e14 e22 e23 hSR hcl bs
    rintro j2 IH2 ρ' _ ⟨i, bs, hij2, hSR, hRd, e0, e1, e9, e10, e14, e22, e23, e24, rfl⟩
    refine TK.know8 e0 e1 e9 e10 e14 e22 e23 e24 ?_
    by_cases hie : i < es.length
    · obtain ⟨x, hx⟩ : ∃ x, es[i]? = some x := ⟨es[i], List.getElem?_eq_getElem hie⟩
      have hxm := List.mem_of_getElem? hx
      have hxb := hes x hxm
      obtain ⟨x1, x2⟩ := x
      simp only at hxb
      obtain ⟨a, rfl⟩ : ∃ a : Nat, x1 = (a : Int) := ⟨x1.toNat, by omega⟩
      obtain ⟨b, rfl⟩ : ∃ b : Nat, x2 = (b : Int) := ⟨x2.toNat, by omega⟩
      have haN : a < N := by omega
      have hbN : b < N := by omega
      have hsx5 : has (own 4 1 (.slice (some ⟨wB, 0, none⟩) N N) N (boolsC bs) :: Γ4) (srcAt 2 A es.length (es.flatMap prC)) := has_tls hsx4
      refine TK.mem fun m0 hm0 => ?_
      obtain ⟨g, u, rfl⟩ := edge_some hsx5 hm0 (by omega)
      clear hm0 m0
      obtain ⟨c1, c2⟩ := edge_cells hsx5 rfl hx
      dsimp only at c1 c2
      have hbo : has (own 4 1 (.slice (some ⟨wB, 0, none⟩) N N) N (boolsC bs) :: Γ4) (srcAt 1 (some ⟨wB, 0, none⟩) N (boolsC bs)) := has_at (up_src _ _ _ _) 0 rfl fun _ h => own_src h
      obtain ⟨v, hv⟩ : ∃ v, bs[a]? = some v := ⟨bs[a]'(by rw [hSR.len]; exact haN), List.getElem?_eq_getElem _⟩
      have hcv := has_bool hbo hv
      rw [Nat.zero_add] at hcv
      cases v with
      | true =>
        refine m_run ?_
        (apply TL.storeOwn 0 b; exact rfl; exact rfl; (exact m_val); exact rfl; exact tb rfl; exact rfl; exact (Nat.zero_add _).symm; exact hbN)
        rw [← boolsC_set]
        refine m_run ?_
        exact IH2 (j2 - 1) _ _ (by omega) ⟨i + 1, bs.set b true, by omega, hSR.set hxm hv hbN, hRd.mark hx hv (by rw [hSR.len]; exact hbN), rfl, rfl, rfl, rfl, rfl, rfl, rfl, congrArg (Value.int .i64) (i64_succ i (by omega)), rfl⟩
      | false =>
        refine m_run ?_
        exact IH2 (j2 - 1) _ _ (by omega) ⟨i + 1, bs, by omega, hSR, hRd.next hx (fun h => by
          rw [show bs[((a : Int), (b : Int)).1.toNat]? = some false from hv] at h; cases h), rfl, rfl, rfl, rfl, rfl, rfl, rfl, congrArg (Value.int .i64) (i64_succ i (by omega)), rfl⟩
    obtain rfl : i = es.length := by omega
    refine m_run ?_
    exact IH (j - 1) _ _ (by omega) ⟨r + 1, bs, by omega, hSR, hRd.fin, rfl, rfl, rfl, rfl, rfl, rfl, congrArg (Value.int .i64) (i64_succ r (by omega)), rfl⟩
  clear IH
  have hclo : closedB es bs := hcl.elim id fun h => by
    have := cntB_le bs
    rw [hSR.len] at this
    omega
  have hfin : Gph.pix (M.map Rw.w) fu = Gph.pix (M.map Rw.w) tw ↔ bs[fu]? = some true := by
    rw [hPM.pix_same hfN htN, hSR.whole hclo]
    refine ⟨fun h => ?_, fun h => ⟨hup _ _ h, .one (.inr ⟨rfl, rfl⟩)⟩⟩
    exact (Gph.rc_back h.1).elim id id
  have hM5 : Rows QM M (own 4 1 (.slice (some ⟨wB, 0, none⟩) N N) N (boolsC bs) :: Γ4) := hM4.tl
  have hbo : has (own 4 1 (.slice (some ⟨wB, 0, none⟩) N N) N (boolsC bs) :: Γ4) (srcAt 1 (some ⟨wB, 0, none⟩) N (boolsC bs)) := has_at (up_src _ _ _ _) 0 rfl fun _ h => own_src h
  have hS5 : Γ.Sublist (own 4 1 (.slice (some ⟨wB, 0, none⟩) N N) N (boolsC bs) :: Γ4) := .cons _ hS4
  obtain ⟨v, hv⟩ : ∃ v, bs[fu]? = some v := ⟨bs[fu]'(by rw [hSR.len]; exact hfN), List.getElem?_eq_getElem _⟩
  have hcv := has_bool hbo hv
  rw [Nat.zero_add] at hcv
  generalize own 4 1 (.slice (some ⟨wB, 0, none⟩) N N) N (boolsC bs) :: Γ4 = Γ5 at *
  refine m_run ?_
  refine TK.drawS mixed rfl ?_
  refine m_take (At.mk : At 0) ?_; refine m_take (At.mk : At 1) ?_; refine m_take (At.mk : At 3) ?_; refine m_take (At.mk : At 4) ?_; refine m_take (At.mk : At 7) ?_; refine m_take (At.mk : At 8) ?_; refine m_take (At.mk : At 9) ?_; refine m_take (At.mk : At 10) ?_
  (apply TA.one 2; kernel_rfl; exact rfl)
  (apply TL.callV; exact rfl; exact callB_of (by kernel_rfl); exact rfl; exact fun _ h => h)
  exact part_t QM qm M (fu : Int) _ hM5 (by omega) (fun r hr => by have := (hMr r hr).1; omega)
  rintro _ Γ5 ⟨⟨k1, rfl, hk1⟩, rfl⟩
  have hk2 := part_pix hPM hfN hk1
  subst hk2
  clear hk1
  refine TL.back (by (focus ((repeat (first | assumption | exact Ent.refl _ | apply Ent.tail)); done))) ?_
  (apply TA.one 5; kernel_rfl; exact rfl)
  (apply TL.callV; exact rfl; exact callB_of (by kernel_rfl); exact rfl; exact fun _ h => h)
  exact part_t QM qm M (tw : Int) _ hM5 (by omega) (fun r hr => by have := (hMr r hr).1; omega)
  rintro _ Γ5 ⟨⟨k1, rfl, hk1⟩, rfl⟩
  have hk2 := part_pix hPM htN hk1
  subst hk2
  clear hk1
  refine TL.back (by (focus ((repeat (first | assumption | exact Ent.refl _ | apply Ent.tail)); done))) ?_
  refine m_take (At.mk : At 6) ?_
  refine TA.know (t := 180) (v := .bool v) (congrArg Value.bool ?_) ?_
  · cases v with
    | true => exact decide_eq_true (congrArg Int.ofNat (hfin.2 hv))
    | false =>
      refine decide_eq_false fun h => ?_
      have := hfin.1 (Int.ofNat.inj h)
      rw [hv] at this
      cases this
  refine m_take (At.mk : At 11) ?_
  refine TA.know (t := 185) (v := .bool true) (congrArg Value.bool ?_) ?_
  · exact decide_eq_true rfl
  refine m_take (At.mk : At 12) ?_
  (apply TA.one 13; kernel_rfl; exact rfl)
  refine TL.guard_yes rfl rfl rfl rfl ?_
  (apply TL.callV; exact rfl; exact callB_of (by kernel_rfl); exact rfl; exact fun _ h => h)
  exact works9_t _
  rintro _ Γ6 ⟨rfl, hs6⟩
  refine TL.sub (Δ := Γ5) hs6 ?_
  refine TL.back (by (focus ((repeat (first | assumption | exact Ent.refl _ | apply Ent.tail)); done))) ?_
  refine m_take (At.mk : At 14) ?_; refine m_take (At.mk : At 15) ?_
  refine TA.done (by kernel_rfl) ?_
  refine m_run ?_
  (apply TK.retS1; exact rfl; exact rfl; (exact m_val))
  exact ⟨_, rfl, rfl, rfl⟩
  exact hS5
end Go.Proofs.Ytndmjpceocecdaa.E

/- Who is come to, as the document looks for it: walked. -/
namespace Go.Proofs.Ytndmjpceocecdaa.E
open Go Go.RowKit Go.Proofs
attribute [local irreducible] TK TL TQ TA TB Fn PV
set_option maxRecDepth 100000 in
set_option maxHeartbeats 4000000 in
theorem comes_t (N : Nat) (A : Option Addr) (c : Nat) (es : List (Int × Int)) (w : Nat) (Γ : List HP) (hs : has Γ (srcAt 2 A es.length (es.flatMap prC))) (hN : N ≤ 100000) (hw : w < N) (hel : es.length ≤ 100000) (hes : ∀ x ∈ es, 0 ≤ x.1 ∧ x.1 < (N : Int) ∧ 0 ≤ x.2 ∧ x.2 < (N : Int)) :
    FnV Try.prog 29 [.int .i64 (N : Int), .slice A es.length c, .int .i64 (w : Int)] Γ
      fun v Γ' => ∃ (wB : Nat) (bs : List Bool), v = .slice (some ⟨wB, 0, none⟩) N N ∧ bs.length = N ∧ (∀ u, bs[u]? = some true ↔ Gph.Rc (Gph.El (edsN es)) w u) ∧ Γ' = own 4 1 (.slice (some ⟨wB, 0, none⟩) N N) N (boolsC bs) :: Γ := by
  refine Fn.enter Try.func29 rfl rfl rfl fun E => ?_
  refine m_run ?_
  (apply TL.makeN (n := N) (c := N); exact rfl; exact rfl; exact rfl; exact tb rfl; exact rfl; exact tb rfl; exact rfl; exact rfl; exact Nat.le_refl _; exact (show 1 * N ≤ _ by omega); exact (show N ≤ maxLen by unfold maxLen; omega))
  intro wB
  rw [show List.replicate N (Value.bool false) = boolsC (List.replicate N false) from (List.map_replicate (f := Value.bool)).symm]
  refine m_run ?_
  (apply TL.storeOwn 0 w; exact rfl; exact rfl; (exact m_val); exact rfl; exact tb rfl; exact rfl; exact (Nat.zero_add _).symm; exact hw)
  rw [← boolsC_set]
  refine m_run ?_
  apply TK.iter (fun j ρ' Γ' => ∃ (more : Bool) (bs : List Bool), SeenR es w N bs ∧ (more = false → closedB es bs) ∧ (more = true → N + 1 ≤ j + cntB bs) ∧ lk ρ' 1 = .slice A es.length c ∧ lk ρ' 7 = .slice (some ⟨wB, 0, none⟩) N N ∧ lk ρ' 8 = .bool more ∧ Γ' = own 4 1 (.slice (some ⟨wB, 0, none⟩) N N) N (boolsC bs) :: Γ) N
  · exact ⟨true, _, SeenR.zero hw, (fun h => by cases h), (fun _ => by rw [cntB_set (by rw [List.getElem?_replicate, if_pos hw])]; omega), rfl, rfl, rfl, rfl⟩
  rintro j IH ρ' _ ⟨more, bs, hSR, hcl, hct, e1, e7, e8, rfl⟩
  refine TK.know3 e1 e7 e8 ?_
  have hle := cntB_le bs
  rw [hSR.len] at hle
  cases more with
  | false =>
    refine m_run ?_
    (apply TK.retS1; exact rfl; exact rfl; (exact m_val))
    exact ⟨_, rfl, wB, bs, rfl, hSR.len, fun u => hSR.whole (hcl rfl) u, rfl⟩
    exact List.Sublist.refl _
  | true =>
    have hct := hct rfl
    refine m_run ?_
    apply TK.iter (fun j2 ρ' Γ' => ∃ (i : Nat) (more : Bool) (bs2 : List Bool), i + j2 = es.length ∧ SeenR es w N bs2 ∧ cntB bs ≤ cntB bs2 ∧ (more = true → cntB bs + 1 ≤ cntB bs2) ∧ (more = false → ∀ x ∈ es.take i, bs2[x.1.toNat]? = some true → bs2[x.2.toNat]? = some true) ∧ lk ρ' 1 = .slice A es.length c ∧ lk ρ' 7 = .slice (some ⟨wB, 0, none⟩) N N ∧ lk ρ' 8 = .bool more ∧ lk ρ' 9 = .int .i64 (i : Int) ∧ Γ' = own 4 1 (.slice (some ⟨wB, 0, none⟩) N N) N (boolsC bs2) :: Γ) es.length
    · exact ⟨0, false, bs, Nat.zero_add _, hSR, Nat.le_refl _, (fun h => by cases h), (fun _ x hx => by cases hx), rfl, rfl, rfl, rfl, rfl⟩
    clear e1 e7 e8 hSR
    rintro j2 IH2 ρ' _ ⟨i, more, bs2, hij, hSR, hc1, hc2, hc3, e1, e7, e8, e9, rfl⟩
    refine TK.know4 e1 e7 e8 e9 ?_
    by_cases hi : i < es.length
    · obtain ⟨x, hx⟩ : ∃ x, es[i]? = some x := ⟨es[i], List.getElem?_eq_getElem hi⟩
      have hxm := List.mem_of_getElem? hx
      have hxb := hes x hxm
      obtain ⟨x1, x2⟩ := x
      simp only at hxb
      obtain ⟨a, rfl⟩ : ∃ a : Nat, x1 = (a : Int) := ⟨x1.toNat, by omega⟩
      obtain ⟨b, rfl⟩ : ∃ b : Nat, x2 = (b : Int) := ⟨x2.toNat, by omega⟩
      have haN : a < N := by omega
      have hbN : b < N := by omega
      have hsx5 : has (own 4 1 (.slice (some ⟨wB, 0, none⟩) N N) N (boolsC bs2) :: Γ) (srcAt 2 A es.length (es.flatMap prC)) := has_tls hs
      refine TK.mem fun m0 hm0 => ?_
      obtain ⟨g, u, rfl⟩ := edge_some hsx5 hm0 (by omega)
      clear hm0 m0
      obtain ⟨c1, c2⟩ := edge_cells hsx5 rfl hx
      dsimp only at c1 c2
      have hbo : has (own 4 1 (.slice (some ⟨wB, 0, none⟩) N N) N (boolsC bs2) :: Γ) (srcAt 1 (some ⟨wB, 0, none⟩) N (boolsC bs2)) := has_at (up_src _ _ _ _) 0 rfl fun _ h => own_src h
      obtain ⟨v, hv⟩ : ∃ v, bs2[a]? = some v := ⟨bs2[a]'(by rw [hSR.len]; exact haN), List.getElem?_eq_getElem _⟩
      obtain ⟨v2, hv2⟩ : ∃ v, bs2[b]? = some v := ⟨bs2[b]'(by rw [hSR.len]; exact hbN), List.getElem?_eq_getElem _⟩
      have hcv := has_bool hbo hv
      have hcv2 := has_bool hbo hv2
      rw [Nat.zero_add] at hcv hcv2
      have hnext : (v = true → v2 = true) → more = false → ∀ x ∈ es.take (i + 1), bs2[x.1.toNat]? = some true → bs2[x.2.toNat]? = some true := fun hv' hm y hy h0 => by
        rw [take_next hx] at hy
        rcases List.mem_append.1 hy with hy | hy
        · exact hc3 hm y hy h0
        · rw [List.mem_singleton.1 hy] at h0 ⊢
          have h0' : bs2[a]? = some true := h0
          rw [hv] at h0'
          injection h0' with h0'
          show bs2[b]? = some true
          rw [hv2, hv' h0']
      cases v with
      | false =>
        refine m_run ?_
        exact IH2 (j2 - 1) _ _ (by omega) ⟨i + 1, more, bs2, by omega, hSR, hc1, hc2, hnext (fun h => by cases h), rfl, rfl, rfl, congrArg (Value.int .i64) (i64_succ i (by omega)), rfl⟩
      | true =>
        cases v2 with
        | true =>
          refine m_run ?_
          exact IH2 (j2 - 1) _ _ (by omega) ⟨i + 1, more, bs2, by omega, hSR, hc1, hc2, hnext (fun _ => rfl), rfl, rfl, rfl, congrArg (Value.int .i64) (i64_succ i (by omega)), rfl⟩
        | false =>
          refine m_run ?_
          (apply TL.storeOwn 0 b; exact rfl; exact rfl; (exact m_val); exact rfl; exact tb rfl; exact rfl; exact (Nat.zero_add _).symm; exact hbN)
          rw [← boolsC_set]
          refine m_run ?_
          exact IH2 (j2 - 1) _ _ (by omega) ⟨i + 1, true, bs2.set b true, by omega, hSR.set hxm hv hbN, by rw [cntB_set hv2]; omega, (fun _ => by rw [cntB_set hv2]; omega), (fun h => by cases h), rfl, rfl, rfl, congrArg (Value.int .i64) (i64_succ i (by omega)), rfl⟩
    obtain rfl : i = es.length := by omega
    rw [List.take_length] at hc3
    refine m_run ?_
    exact IH (j - 1) _ _ (by omega) ⟨more, bs2, hSR, hc3, (fun h => by have := hc2 h; omega), rfl, rfl, rfl, rfl⟩
end Go.Proofs.Ytndmjpceocecdaa.E

/- The order: a part's place is what it reaches: walked. -/
namespace Go.Proofs.Ytndmjpceocecdaa.E
open Go Go.RowKit Go.Proofs
attribute [local irreducible] TK TL TQ TA TB Fn PV
theorem ofsC_none (of : List (Option Nat)) (u : Nat) : (ofsC of).set u (.int .i64 (-1)) = ofsC (of.set u none) := by
  show (of.map ofV).set u (ofV none) = _
  exact List.map_set.symm
set_option maxRecDepth 100000 in
set_option maxHeartbeats 8000000 in
theorem graphOrder_t (n : Int) (A : Option Addr) (c : Nat) (es : List (Int × Int)) (Γ : List HP) (hs : has Γ (srcAt 2 A es.length (es.flatMap prC))) :
    FnV Try.prog 7 [.int .i64 n, .slice A es.length c] Γ fun v Γ' => v = .bool true ∧ Γ' = Γ := by
  refine Fn.enter Try.func7 rfl rfl rfl fun E => ?_
  refine m_run ?_
  (apply TL.callV; exact rfl; exact callB_of (by kernel_rfl); exact rfl; exact fun _ h => h)
  exact right_t n A c es _ hs
  rintro _ Γ ⟨rfl, rfl⟩
  cases hR : rightB n es with
  | false =>
    refine m_run ?_
    (apply TL.callV; exact rfl; exact callB_of (by kernel_rfl); exact rfl; exact fun _ h => h)
    exact works9_t _
    rintro _ Γ1 ⟨rfl, hs1⟩
    refine m_run ?_
    (apply TK.retS1; exact rfl; exact rfl; (exact m_val))
    exact ⟨_, rfl, rfl, rfl⟩
    exact hs1
  | true =>
  obtain ⟨hn0, hn1, hel, hes⟩ := right_facts hR
  obtain ⟨N, rfl⟩ : ∃ N : Nat, n = (N : Int) := ⟨n.toNat, by omega⟩
  have hp1 : pErr (N : Int) es = 0 := pErr_zero hn0 hn1 (by omega) hes
  refine m_run ?_
  (apply TL.callV; exact rfl; exact callB_of (by kernel_rfl); exact rfl; exact fun _ h => h)
  exact partsG_t N A c es _ hs (by omega)
  rintro _ Γ1 ⟨QL, ql, L, rfl, hRL, hs1, _, hPL⟩
  replace hPL := hPL hp1
  rw [Int.toNat_natCast] at hPL
  rw [hp1]
  obtain ⟨hLl, hLr⟩ := parts_rows hPL
  have hsx1 := has_sublist (up_src _ _ _ _) hs1 hs
  refine m_run ?_
  (apply TL.makeN (n := N) (c := N); exact rfl; exact rfl; exact rfl; exact tb rfl; exact rfl; exact tb rfl; exact rfl; exact rfl; exact Nat.le_refl _; exact (show 8 * N ≤ _ by omega); exact (show N ≤ maxLen by unfold maxLen; omega))
  intro aB
  rw [show List.replicate N (Value.int .i64 0) = ofsC (List.replicate N (some 0)) by
    show List.replicate N (ofV (some 0)) = _
    exact List.map_replicate.symm]
  refine m_run ?_
  apply TK.iter (fun j ρ' Γ' => ∃ (k : Nat) (of : List (Option Nat)), k + j = N ∧ of.length = N ∧ (∀ x, x < k → of[x]? = some none) ∧ lk ρ' 0 = .int .i64 (N : Int) ∧ lk ρ' 1 = .slice A es.length c ∧ lk ρ' 5 = .slice QL L.length ql ∧ lk ρ' 7 = .slice (some ⟨aB, 0, none⟩) N N ∧ lk ρ' 8 = .int .i64 (k : Int) ∧ Γ' = own 3 1 (.slice (some ⟨aB, 0, none⟩) N N) N (ofsC of) :: Γ1) N
  · exact ⟨0, _, Nat.zero_add _, List.length_replicate, (fun x hx => by omega), rfl, rfl, rfl, rfl, rfl, rfl⟩
  rintro j IH ρ' _ ⟨k, of, hkj, hof, hon, e0, e1, e5, e7, e8, rfl⟩
  refine TK.know5 e0 e1 e5 e7 e8 ?_
  by_cases hk : k < N
  · refine m_run ?_
    (apply TL.storeOwn 0 k; exact rfl; exact rfl; (exact m_val); exact rfl; exact tb rfl; exact rfl; exact (Nat.zero_add _).symm; exact hk)
    rw [ofsC_none]
    refine m_run ?_
    refine IH (j - 1) _ _ (by omega) ⟨k + 1, of.set k none, by omega, by rw [List.length_set]; exact hof, fun x hx => ?_, rfl, rfl, rfl, rfl, congrArg (Value.int .i64) (i64_succ k (by omega)), rfl⟩
    rw [List.getElem?_set]
    split
    · rw [if_pos (by omega)]
    · exact hon x (by omega)
  clear IH
  obtain rfl : N = k := by omega
  refine m_run ?_
  apply TK.iter (fun j ρ' Γ' => ∃ (i : Nat) (of : List (Option Nat)), i + j = L.length ∧ of.length = N ∧ (∀ v, v < N → of[v]? = some (if Gph.pix (L.map Rw.w) v < i then some (Gph.pix (L.map Rw.w) v) else none)) ∧ lk ρ' 0 = .int .i64 (N : Int) ∧ lk ρ' 1 = .slice A es.length c ∧ lk ρ' 5 = .slice QL L.length ql ∧ lk ρ' 7 = .slice (some ⟨aB, 0, none⟩) N N ∧ lk ρ' 9 = .int .i64 (i : Int) ∧ Γ' = own 3 1 (.slice (some ⟨aB, 0, none⟩) N N) N (ofsC of) :: Γ1) L.length
  · exact ⟨0, of, Nat.zero_add _, hof, (fun v hv => by rw [hon v hv, if_neg (Nat.not_lt_zero _)]), rfl, rfl, rfl, rfl, rfl, rfl⟩
  clear e0 e1 e5 e7 e8 hof hon of hk hkj
  rintro j IH ρ' _ ⟨i, of, hij, hof, hon, e0, e1, e5, e7, e9, rfl⟩
  refine TK.know5 e0 e1 e5 e7 e9 ?_
  by_cases hi : i < L.length
  · obtain ⟨r, hr⟩ : ∃ r, L[i]? = some r := ⟨L[i], List.getElem?_eq_getElem hi⟩
    have hrm := List.mem_of_getElem? hr
    obtain ⟨hrl, hrne, hrx⟩ := hLr r hrm
    have hrpos : 0 < r.w.length := List.length_pos_iff.2 hrne
    have hmap : (L.map Rw.w)[i]? = some r.w := by rw [List.getElem?_map, hr]; rfl
    have hsort := (hPL.scc r.w (List.mem_map_of_mem hrm)).1
    have hpv : ∀ v, v ∈ r.w → Gph.pix (L.map Rw.w) v = i := fun v hv => hPL.pix_of hmap hv
    have hpm : ∀ v, v < N → Gph.pix (L.map Rw.w) v = i → v ∈ r.w := fun v hv h => by
      obtain ⟨p, h1, h2⟩ := hPL.pix_mem hv
      rw [h, hmap] at h1
      injection h1 with h1
      rw [h1]; exact h2
    have hLL := hRL.tl (H := own 3 1 (.slice (some ⟨aB, 0, none⟩) N N) N (ofsC of))
    have hrow := hLL.row r hrm
    refine TK.mem fun m0 hm0 => ?_
    obtain ⟨g, u, rfl⟩ := hLL.some hm0 (by omega)
    obtain ⟨gr, ur, hrA⟩ := src_some (hrow m0 hm0) (by rw [ints_len]; exact hrpos)
    clear hm0 m0
    have hcr := hLL.v rfl hr
    unfold Rw.v at hcr
    rw [hrA] at hcr
    refine m_run ?_
    apply TK.iter (fun j2 ρ' Γ' => ∃ (m : Nat) (of : List (Option Nat)), m + j2 = r.w.length ∧ of.length = N ∧ (∀ v, v < N → of[v]? = some (if Gph.pix (L.map Rw.w) v < i ∨ v ∈ r.w.take m then some (Gph.pix (L.map Rw.w) v) else none)) ∧ lk ρ' 0 = .int .i64 (N : Int) ∧ lk ρ' 1 = .slice A es.length c ∧ lk ρ' 5 = .slice (some ⟨g, u, none⟩) L.length ql ∧ lk ρ' 7 = .slice (some ⟨aB, 0, none⟩) N N ∧ lk ρ' 9 = .int .i64 (i : Int) ∧ lk ρ' 10 = .int .i64 (m : Int) ∧ Γ' = own 3 1 (.slice (some ⟨aB, 0, none⟩) N N) N (ofsC of) :: Γ1) r.w.length
    · exact ⟨0, of, Nat.zero_add _, hof, (fun v hv => by rw [hon v hv]; simp), rfl, rfl, rfl, rfl, rfl, rfl, rfl⟩
    clear e0 e1 e5 e7 e9 hof hon hrow hLL hcr of
    rintro j2 IH2 ρ' _ ⟨m, of, hmj, hof, hon, e0, e1, e5, e7, e9, e10, rfl⟩
    refine TK.know6 e0 e1 e5 e7 e9 e10 ?_
    have hLL := hRL.tl (H := own 3 1 (.slice (some ⟨aB, 0, none⟩) N N) N (ofsC of))
    have hrow := hLL.row r hrm
    have hcr := hLL.v rfl hr
    unfold Rw.v at hcr
    rw [hrA] at hcr hrow
    by_cases hm : m < r.w.length
    · obtain ⟨v, hv⟩ : ∃ v, r.w[m]? = some v := ⟨r.w[m], List.getElem?_eq_getElem hm⟩
      have hvm := List.mem_of_getElem? hv
      have hvN := hrx v hvm
      have hvi := hpv v hvm
      have hlt : ∀ y, y ∈ r.w.take m → y < v := fun y hy => by
        obtain ⟨q, hq⟩ := List.getElem?_of_mem hy
        rw [List.getElem?_take] at hq
        split at hq
        · rename_i hqm
          obtain ⟨h1, h2⟩ := List.getElem?_eq_some_iff.1 hq
          obtain ⟨h3, h4⟩ := List.getElem?_eq_some_iff.1 hv
          have := List.pairwise_iff_getElem.1 hsort q m h1 h3 hqm
          rw [h2, h4] at this
          exact this
        · cases hq
      have hnm : v ∉ r.w.take m := fun h => Nat.lt_irrefl _ (hlt v h)
      have hcx := has_ints hrow hv
      have hgv : has (own 3 1 (.slice (some ⟨aB, 0, none⟩) N N) N (ofsC of) :: Γ1) (fun m => cellAt m aB (0 + v) (.int .i64 (-1))) := has_v (has_at (up_src 1 (some ⟨aB, 0, none⟩) N (ofsC of)) 0 rfl fun _ h => own_src h) (by rw [List.getElem?_map, hon v hvN, if_neg (fun h => h.elim (fun h => by omega) hnm)]; rfl)
      rw [Nat.zero_add] at hgv
      have hstep : ∀ x, x < N → (of.set v (some i))[x]? = some (if Gph.pix (L.map Rw.w) x < i ∨ x ∈ r.w.take (m + 1) then some (Gph.pix (L.map Rw.w) x) else none) := fun x hx => by
        rw [List.getElem?_set, take_next hv]
        split
        · rename_i e
          subst e
          rw [if_pos (by omega), if_pos (.inr (by simp)), hvi]
        · rename_i e
          rw [hon x hx]
          congr 1
          have : x ∈ r.w.take m ++ [v] ↔ x ∈ r.w.take m := by
            rw [List.mem_append, List.mem_singleton]
            exact ⟨fun h => h.elim id fun h => absurd h.symm e, .inl⟩
          simp only [this]
      cases m with
      | zero =>
        refine m_run ?_
        (apply TL.storeOwn 0 v; exact rfl; exact rfl; (exact m_val); exact rfl; exact tb rfl; exact rfl; exact (Nat.zero_add _).symm; exact hvN)
        rw [ofsC_set]
        refine m_run ?_
        exact IH2 (j2 - 1) _ _ (by omega) ⟨_, of.set v (some i), by omega, by rw [List.length_set]; exact hof, hstep, rfl, rfl, rfl, rfl, rfl, congrArg (Value.int .i64) (i64_succ _ (by omega)), rfl⟩
      | succ m =>
        obtain ⟨y, hy⟩ : ∃ y, r.w[m]? = some y := ⟨r.w[m]'(by omega), List.getElem?_eq_getElem _⟩
        have hyv : y < v := hlt y (by rw [take_next hy]; simp)
        have hcy := has_ints hrow hy
        refine m_run ?_
        refine TL.know (t := 91) (v := .int .i64 (m : Int)) (congrArg (Value.int .i64) ((i64_in (by omega) (by omega)).trans (by omega))) ?_
        refine m_run ?_
        (apply TL.storeOwn 0 v; exact rfl; exact rfl; (exact m_val); exact rfl; exact tb rfl; exact rfl; exact (Nat.zero_add _).symm; exact hvN)
        rw [ofsC_set]
        refine m_run ?_
        exact IH2 (j2 - 1) _ _ (by omega) ⟨_, of.set v (some i), by omega, by rw [List.length_set]; exact hof, hstep, rfl, rfl, rfl, rfl, rfl, congrArg (Value.int .i64) (i64_succ _ (by omega)), rfl⟩
    obtain rfl : m = r.w.length := by omega
    rw [List.take_length] at hon
    refine m_run ?_
    refine IH (j - 1) _ _ (by omega) ⟨i + 1, of, by omega, hof, fun v hv => ?_, rfl, rfl, rfl, rfl, congrArg (Value.int .i64) (i64_succ i (by omega)), rfl⟩
    rw [hon v hv]
    have : (Gph.pix (L.map Rw.w) v < i ∨ v ∈ r.w) ↔ Gph.pix (L.map Rw.w) v < i + 1 := ⟨fun h => h.elim (fun h => by omega) fun h => by have := hpv v h; omega, fun h => by
      by_cases h2 : Gph.pix (L.map Rw.w) v = i
      · exact .inr (hpm v hv h2)
      · exact .inl (by omega)⟩
    simp only [this]
  clear IH
  obtain rfl : L.length = i := by omega
  have hat : ∀ v, v < N → has (own 3 1 (.slice (some ⟨aB, 0, none⟩) N N) N (ofsC of) :: Γ1) (fun m => cellAt m aB v (.int .i64 (Gph.pix (L.map Rw.w) v : Int))) := fun v hv => by
    have hlt := hPL.pix_lt hv
    rw [List.length_map] at hlt
    have h := has_v (i := v) (v := .int .i64 (Gph.pix (L.map Rw.w) v : Int)) (has_at (Γ := own 3 1 (.slice (some ⟨aB, 0, none⟩) N N) N (ofsC of) :: Γ1) (up_src 1 (some ⟨aB, 0, none⟩) N (ofsC of)) 0 rfl fun _ h => own_src h) (by rw [List.getElem?_map, hon v hv, if_pos hlt]; rfl)
    rwa [Nat.zero_add] at h
  have hL2 : Rows QL L (own 3 1 (.slice (some ⟨aB, 0, none⟩) N N) N (ofsC of) :: Γ1) := hRL.tl
  have hsx2 : has (own 3 1 (.slice (some ⟨aB, 0, none⟩) N N) N (ofsC of) :: Γ1) (srcAt 2 A es.length (es.flatMap prC)) := has_tls hsx1
  have hS2 : Γ.Sublist (own 3 1 (.slice (some ⟨aB, 0, none⟩) N N) N (ofsC of) :: Γ1) := .cons _ hs1
  generalize own 3 1 (.slice (some ⟨aB, 0, none⟩) N N) N (ofsC of) :: Γ1 = Γ2 at *
  clear hon hof hij hRL hsx1 hs1
  refine m_run ?_
  apply TK.iter (fun j ρ' Γ' => ∃ (i : Nat), i + j = es.length ∧ lk ρ' 0 = .int .i64 (N : Int) ∧ lk ρ' 1 = .slice A es.length c ∧ lk ρ' 5 = .slice QL L.length ql ∧ lk ρ' 7 = .slice (some ⟨aB, 0, none⟩) N N ∧ lk ρ' 12 = .int .i64 (i : Int) ∧ Γ' = Γ2) es.length
  · exact ⟨0, Nat.zero_add _, rfl, rfl, rfl, rfl, rfl, rfl⟩
  clear e0 e1 e5 e7 e9
  rintro j IH ρ' Γ2 ⟨i, hij, e0, e1, e5, e7, e12, rfl⟩
  refine TK.know5 e0 e1 e5 e7 e12 ?_
  by_cases hi : i < es.length
  · obtain ⟨x, hx⟩ : ∃ x, es[i]? = some x := ⟨es[i], List.getElem?_eq_getElem hi⟩
    have hxm := List.mem_of_getElem? hx
    have hxb := hes x hxm
    obtain ⟨x1, x2⟩ := x
    simp only at hxb
    obtain ⟨a, rfl⟩ : ∃ a : Nat, x1 = (a : Int) := ⟨x1.toNat, by omega⟩
    obtain ⟨b, rfl⟩ : ∃ b : Nat, x2 = (b : Int) := ⟨x2.toNat, by omega⟩
    have haN : a < N := by omega
    have hbN : b < N := by omega
    refine TK.mem fun m0 hm0 => ?_
    obtain ⟨g, u, rfl⟩ := edge_some hsx2 hm0 (by omega)
    clear hm0 m0
    obtain ⟨c1, c2⟩ := edge_cells hsx2 rfl hx
    dsimp only at c1 c2
    have ga := hat a haN
    have gb := hat b hbN
    have hdn : Gph.pix (L.map Rw.w) b ≤ Gph.pix (L.map Rw.w) a := hPL.pix_down haN hbN (.one (List.mem_map.2 ⟨_, hxm, rfl⟩))
    obtain ⟨pa, hpa⟩ : ∃ k, k = Gph.pix (L.map Rw.w) a := ⟨_, rfl⟩
    obtain ⟨pb, hpb⟩ : ∃ k, k = Gph.pix (L.map Rw.w) b := ⟨_, rfl⟩
    rw [← hpa] at ga hdn
    rw [← hpb] at gb hdn
    refine m_run ?_
    refine TK.drawS mixed rfl ?_
    refine m_take (At.mk : At 0) ?_; refine m_take (At.mk : At 1) ?_; refine m_take (At.mk : At 2) ?_; refine m_take (At.mk : At 3) ?_; refine m_take (At.mk : At 4) ?_; refine m_take (At.mk : At 5) ?_; refine m_take (At.mk : At 6) ?_; refine m_take (At.mk : At 7) ?_; refine m_take (At.mk : At 8) ?_; refine m_take (At.mk : At 9) ?_; refine m_take (At.mk : At 10) ?_; refine m_take (At.mk : At 11) ?_; refine m_take (At.mk : At 12) ?_; refine m_take (At.mk : At 13) ?_; refine m_take (At.mk : At 14) ?_; refine m_take (At.mk : At 15) ?_; refine m_take (At.mk : At 16) ?_
    refine TA.done (by kernel_rfl) ?_
    refine m_run ?_
    exact IH (j - 1) _ _ (by omega) ⟨i + 1, by omega, rfl, rfl, rfl, rfl, congrArg (Value.int .i64) (i64_succ i (by omega)), rfl⟩
  clear IH
  refine m_run ?_
  apply TK.iter (fun j ρ' Γ' => ∃ (i : Nat) (Γ3 : List HP), i + j = N ∧ Γ2.Sublist Γ3 ∧ lk ρ' 0 = .int .i64 (N : Int) ∧ lk ρ' 1 = .slice A es.length c ∧ lk ρ' 5 = .slice QL L.length ql ∧ lk ρ' 7 = .slice (some ⟨aB, 0, none⟩) N N ∧ lk ρ' 13 = .int .i64 (i : Int) ∧ Γ' = Γ3) N
  · exact ⟨0, Γ2, Nat.zero_add _, .refl _, rfl, rfl, rfl, rfl, rfl, rfl⟩
  clear e0 e1 e5 e7 e12 hi hij
  rintro j IH ρ' Γ3 ⟨i, _, hij, hs3, e0, e1, e5, e7, e13, rfl⟩
  refine TK.know5 e0 e1 e5 e7 e13 ?_
  by_cases hi : i < N
  · have hL3 := hL2.sub hs3
    have hsx3 := has_sublist (up_src _ _ _ _) hs3 hsx2
    have gi := has_sublist (up_cell _ _ _) hs3 (hat i hi)
    refine m_run ?_
    refine TK.drawS mixed rfl ?_
    refine m_take (At.mk : At 0) ?_; refine m_take (At.mk : At 1) ?_; refine m_take (At.mk : At 2) ?_; refine m_take (At.mk : At 3) ?_; refine m_take (At.mk : At 4) ?_
    refine TA.know (t := 134) (v := .bool false) (congrArg Value.bool (decide_eq_false (by omega))) ?_
    refine m_take (At.mk : At 5) ?_; refine m_take (At.mk : At 6) ?_; refine m_take (At.mk : At 7) ?_; refine m_take (At.mk : At 9) ?_; refine m_take (At.mk : At 10) ?_; refine m_take (At.mk : At 11) ?_; refine m_take (At.mk : At 12) ?_
    (apply TA.one 8; kernel_rfl; exact rfl)
    refine TL.guard_yes rfl rfl rfl rfl ?_
    (apply TL.callV; exact rfl; exact callB_of (by kernel_rfl); exact rfl; exact fun _ h => h)
    exact part_t QL ql L (i : Int) _ hL3 (by omega) (fun r hr => by have := (hLr r hr).1; omega)
    rintro _ Γ3 ⟨⟨k1, rfl, hk1⟩, rfl⟩
    have hk2 := part_pix hPL hi hk1
    subst hk2
    clear hk1
    refine TL.back (by (focus ((repeat (first | assumption | exact Ent.refl _ | apply Ent.tail)); done))) ?_
    refine m_take (At.mk : At 13) ?_; refine m_take (At.mk : At 14) ?_
    refine TA.done (by kernel_rfl) ?_
    refine m_run ?_
    (apply TL.callV; exact rfl; exact callB_of (by kernel_rfl); exact rfl; exact fun _ h => h)
    exact comes_t N A c es i _ hsx3 (by omega) hi (by omega) hes
    rintro _ _ ⟨wB, bs, rfl, hbl, hbs, rfl⟩
    refine m_run ?_
    apply TK.iter (fun j2 ρ' Γ' => ∃ (k : Nat) (Γ4 : List HP), k + j2 = i ∧ (own 4 1 (.slice (some ⟨wB, 0, none⟩) N N) N (boolsC bs) :: Γ3).Sublist Γ4 ∧ lk ρ' 0 = .int .i64 (N : Int) ∧ lk ρ' 1 = .slice A es.length c ∧ lk ρ' 5 = .slice QL L.length ql ∧ lk ρ' 7 = .slice (some ⟨aB, 0, none⟩) N N ∧ lk ρ' 13 = .int .i64 (i : Int) ∧ lk ρ' 14 = .slice (some ⟨wB, 0, none⟩) N N ∧ lk ρ' 15 = .int .i64 (k : Int) ∧ Γ' = Γ4) i
    · exact ⟨0, _, Nat.zero_add _, .refl _, rfl, rfl, rfl, rfl, rfl, rfl, rfl, rfl⟩
    clear e0 e1 e5 e7 e13
    rintro j2 IH2 ρ' Γ4 ⟨k, _, hkj, hs4, e0, e1, e5, e7, e13, e14, e15, rfl⟩
    refine TK.know7 e0 e1 e5 e7 e13 e14 e15 ?_
    have hs34 : Γ3.Sublist Γ4 := (List.Sublist.cons _ (.refl _)).trans hs4
    by_cases hk : k < i
    · have hkN : k < N := by omega
      have hsx4 := has_sublist (up_src _ _ _ _) hs34 hsx3
      refine m_run ?_
      (apply TL.callV; exact rfl; exact callB_of (by kernel_rfl); exact rfl; exact fun _ h => h)
      exact comes_t N A c es k _ hsx4 (by omega) hkN (by omega) hes
      rintro _ _ ⟨vB, bs2, rfl, hbl2, hbs2, rfl⟩
      have hs5 : Γ3.Sublist (own 4 1 (.slice (some ⟨vB, 0, none⟩) N N) N (boolsC bs2) :: Γ4) := .cons _ hs34
      have gk := has_sublist (up_cell _ _ _) (hs3.trans hs5) (hat k hkN)
      have gi := has_sublist (up_cell _ _ _) (hs3.trans hs5) (hat i hi)
      obtain ⟨x, hx⟩ : ∃ x, bs[k]? = some x := ⟨bs[k]'(by omega), List.getElem?_eq_getElem _⟩
      obtain ⟨y, hy⟩ : ∃ x, bs2[i]? = some x := ⟨bs2[i]'(by omega), List.getElem?_eq_getElem _⟩
      have hcx := has_bool (has_sublist (up_src _ _ _ _) (.cons (own 4 1 (.slice (some ⟨vB, 0, none⟩) N N) N (boolsC bs2)) hs4) (has_at (up_src 1 (some ⟨wB, 0, none⟩) N (boolsC bs)) 0 rfl fun _ h => own_src h)) hx
      have hcy := has_bool (has_at (Γ := own 4 1 (.slice (some ⟨vB, 0, none⟩) N N) N (boolsC bs2) :: Γ4) (up_src 1 (some ⟨vB, 0, none⟩) N (boolsC bs2)) 0 rfl fun _ h => own_src h) hy
      rw [Nat.zero_add] at hcx hcy
      have hxy : decide ((Gph.pix (L.map Rw.w) k : Int) = (Gph.pix (L.map Rw.w) i : Int)) = (x && y) := by
        have h1 : (x && y) = true ↔ Gph.pix (L.map Rw.w) k = Gph.pix (L.map Rw.w) i := by
          rw [hPL.pix_same hkN hi, ← hbs k, ← hbs2 i, hx, hy]
          cases x <;> cases y <;> simp
        by_cases h2 : Gph.pix (L.map Rw.w) k = Gph.pix (L.map Rw.w) i
        · rw [h1.2 h2]; exact decide_eq_true (congrArg Int.ofNat h2)
        · rw [Bool.eq_false_iff.2 fun h => h2 (h1.1 h)]
          exact decide_eq_false fun h => h2 (Int.ofNat.inj h)
      refine m_run ?_
      refine TK.drawS mixed rfl ?_
      refine m_take (At.mk : At 0) ?_; refine m_take (At.mk : At 1) ?_; refine m_take (At.mk : At 2) ?_; refine m_take (At.mk : At 3) ?_; refine m_take (At.mk : At 4) ?_; refine m_take (At.mk : At 5) ?_; refine m_take (At.mk : At 6) ?_; refine m_take (At.mk : At 7) ?_; refine m_take (At.mk : At 8) ?_
      refine TA.know (t := 166) (v := .bool (x && y)) (congrArg Value.bool hxy) ?_
      refine m_take (At.mk : At 9) ?_; refine m_take (At.mk : At 10) ?_; refine m_take (At.mk : At 11) ?_; refine m_take (At.mk : At 12) ?_; refine m_take (At.mk : At 13) ?_
      cases x with
      | false =>
        refine m_take (At.mk : At 14) ?_; refine m_take (At.mk : At 15) ?_; refine m_take (At.mk : At 16) ?_; refine m_take (At.mk : At 17) ?_; refine m_take (At.mk : At 18) ?_; refine m_take (At.mk : At 19) ?_
        refine TA.done (by kernel_rfl) ?_
        refine m_run ?_
        exact IH2 (j2 - 1) _ _ (by omega) ⟨k + 1, _, by omega, .cons _ hs4, rfl, rfl, rfl, rfl, rfl, rfl, congrArg (Value.int .i64) (i64_succ k (by omega)), rfl⟩
      | true =>
        cases y with
        | false =>
          refine m_take (At.mk : At 14) ?_; refine m_take (At.mk : At 15) ?_; refine m_take (At.mk : At 16) ?_; refine m_take (At.mk : At 17) ?_; refine m_take (At.mk : At 18) ?_; refine m_take (At.mk : At 19) ?_
          refine TA.done (by kernel_rfl) ?_
          refine m_run ?_
          exact IH2 (j2 - 1) _ _ (by omega) ⟨k + 1, _, by omega, .cons _ hs4, rfl, rfl, rfl, rfl, rfl, rfl, congrArg (Value.int .i64) (i64_succ k (by omega)), rfl⟩
        | true =>
          refine m_take (At.mk : At 14) ?_; refine m_take (At.mk : At 15) ?_; refine m_take (At.mk : At 16) ?_; refine m_take (At.mk : At 17) ?_; refine m_take (At.mk : At 18) ?_; refine m_take (At.mk : At 19) ?_
          refine TA.done (by kernel_rfl) ?_
          refine m_run ?_
          exact IH2 (j2 - 1) _ _ (by omega) ⟨k + 1, _, by omega, .cons _ hs4, rfl, rfl, rfl, rfl, rfl, rfl, congrArg (Value.int .i64) (i64_succ k (by omega)), rfl⟩
    obtain rfl : i = k := by omega
    refine m_run ?_
    exact IH (j - 1) _ _ (by omega) ⟨i + 1, _, by omega, hs3.trans hs34, rfl, rfl, rfl, rfl, congrArg (Value.int .i64) (i64_succ i (by omega)), rfl⟩
  clear IH
  refine m_run ?_
  (apply TL.callV; exact rfl; exact callB_of (by kernel_rfl); exact rfl; exact fun _ h => h)
  exact works9_t _
  rintro _ Γ5 ⟨rfl, hs5⟩
  refine m_run ?_
  (apply TK.retS1; exact rfl; exact rfl; (exact m_val))
  exact ⟨_, rfl, rfl, rfl⟩
  exact (hS2.trans hs3).trans hs5
end Go.Proofs.Ytndmjpceocecdaa.E
