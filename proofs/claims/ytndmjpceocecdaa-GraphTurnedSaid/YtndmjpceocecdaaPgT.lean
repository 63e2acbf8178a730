/- My own texts, one behind the other: Gwp. -/
import Derived.Test.YtndmjpceocecdaaPg7
/- With all edges turned round the parts are the same: walked. -/
namespace Go.Proofs.Ytndmjpceocecdaa.E
open Go Go.RowKit Go.Proofs
attribute [local irreducible] TK TL TQ TA TB Fn PV
def swE (x : Int × Int) : Int × Int := (x.2, x.1)
theorem right_facts {n : Int} {es : List (Int × Int)} (h : rightB n es = true) : 0 ≤ n ∧ n ≤ 60 ∧ es.length ≤ 300 ∧ (∀ x ∈ es, 0 ≤ x.1 ∧ x.1 < n ∧ 0 ≤ x.2 ∧ x.2 < n) := by
  unfold rightB at h
  simp only [Bool.and_eq_true, decide_eq_true_iff, Bool.not_eq_true'] at h
  refine ⟨h.1.1, h.1.2.1, h.1.2.2, fun x hx => ?_⟩
  have h1 : badE n x = false := by
    have := List.any_eq_false.1 h.2 x hx
    exact Bool.eq_false_iff.2 this
  have h2 : ¬ (x.1 < 0 ∨ n ≤ x.1 ∨ x.2 < 0 ∨ n ≤ x.2) := fun h3 => Bool.eq_false_iff.1 h1 ((badE_iff n x).2 h3)
  omega
theorem pErr_zero {n : Int} {es : List (Int × Int)} (h0 : 0 ≤ n) (h1 : n ≤ 60) (h2 : es.length ≤ 16384) (h3 : ∀ x ∈ es, 0 ≤ x.1 ∧ x.1 < n ∧ 0 ≤ x.2 ∧ x.2 < n) : pErr n es = 0 := by
  unfold pErr
  rw [if_neg (by omega), if_neg (by omega), if_neg (fun h => by
    obtain ⟨x, hx, hb⟩ := List.any_eq_true.1 h
    have := (badE_iff n x).1 hb
    have := h3 x hx
    omega)]
theorem el_turn {es : List (Int × Int)} : Gph.El (edsN (es.map swE)) = fun a b => Gph.El (edsN es) b a := by
  funext a b
  apply propext
  show (a, b) ∈ List.map edN (List.map swE es) ↔ (b, a) ∈ List.map edN es
  rw [List.map_map]
  simp only [List.mem_map, Function.comp]
  constructor
  · rintro ⟨x, hx, he⟩
    exact ⟨x, hx, by unfold edN swE at he; unfold edN; injection he with h1 h2; rw [h1, h2]⟩
  · rintro ⟨x, hx, he⟩
    exact ⟨x, hx, by unfold edN at he; unfold edN swE; injection he with h1 h2; show (x.2.toNat, x.1.toNat) = _; rw [h1, h2]⟩
/-- Which part a node is of, as told. -/
theorem part_pix {E : Nat → Nat → Prop} {n : Nat} {l : List (List Nat)} (h : Gph.IsParts E n l) {v : Nat} {k : Int} (hv : v < n) (hk : PartIs l (v : Int) k) : k = (Gph.pix l v : Int) := by
  obtain ⟨p, hp, hm⟩ := h.pix_mem hv
  rcases hk with ⟨i, rfl, ⟨q, hq, x, hx, hxq⟩, _⟩ | ⟨_, hno⟩
  · obtain rfl : v = x := by omega
    rw [h.ix_uniq hq hp hxq hm]
  · exact absurd rfl (hno p (List.mem_of_getElem? hp) v hm)
theorem parts_rows {E : Nat → Nat → Prop} {n : Nat} {L : List Rw} (h : Gph.IsParts E n (L.map Rw.w)) : L.length ≤ n ∧ ∀ r ∈ L, r.w.length ≤ n ∧ r.w ≠ [] ∧ ∀ x ∈ r.w, x < n := by
  constructor
  · have := Gph.more_len (E := fun _ _ => False) (n := n) (L := (List.range n).map fun v => [v]) (M := L.map Rw.w) ?_ h (fun v w hr => by
      cases hr with
      | refl => exact .refl _
      | step _ e => exact e.elim)
    · simpa using this
    · have hrc : ∀ v w, Gph.Rc (fun _ _ : Nat => False) v w → w = v := fun v w hr => by
        cases hr with
        | refl => rfl
        | step _ e => exact e.elim
      refine ⟨fun p hp => ?_, fun v hv => ⟨[v], List.mem_map.2 ⟨v, List.mem_range.2 hv, rfl⟩, by simp⟩, ?_, fun i p hp v hv w hw => ?_, fun i p hp x hx hf hw => ?_⟩
      · obtain ⟨v, hv, rfl⟩ := List.mem_map.1 hp
        refine ⟨by simp, by simp, fun x hx => ?_⟩
        rw [List.mem_singleton] at hx
        subst hx
        refine ⟨List.mem_range.1 hv, fun u => ?_⟩
        rw [List.mem_singleton]
        exact ⟨fun e => by subst e; exact ⟨.refl _, .refl _⟩, fun e => hrc _ _ e.1⟩
      · rw [List.pairwise_map]
        exact List.nodup_range.imp fun {a b} hab v hva hvb => by
          rw [List.mem_singleton] at hva hvb
          exact hab (hva.symm.trans hvb)
      · have := hrc _ _ hw
        subst this
        rw [List.take_add_one, hp]
        simp [hv]
      · rw [List.getElem?_map] at hp
        obtain ⟨v, hv, rfl⟩ := Option.map_eq_some_iff.1 hp
        have hvi : v = i := by
          have := (List.getElem?_eq_some_iff.1 hv).2
          simpa using this.symm
        subst hvi
        show v ≤ x
        apply Classical.byContradiction
        intro hc
        apply hf
        rw [List.mem_flatten]
        refine ⟨[x], List.mem_of_getElem? (i := x) ?_, by simp⟩
        rw [List.getElem?_take, if_pos (by omega), List.getElem?_map, List.getElem?_range (by omega)]
        rfl
  · intro r hr
    obtain ⟨h1, h2, h3⟩ := h.scc _ (List.mem_map_of_mem hr)
    exact ⟨Gph.nodup_len (h1.imp fun {a b} hab e => by rw [e] at hab; exact Nat.lt_irrefl _ hab) fun x hx => (h3 x hx).1, h2, fun x hx => (h3 x hx).1⟩
set_option maxRecDepth 100000 in
set_option maxHeartbeats 8000000 in
theorem graphTurned_t (n : Int) (A : Option Addr) (c : Nat) (es : List (Int × Int)) (ka kb : Nat) (Γ : List HP) (hs : has Γ (srcAt 2 A es.length (es.flatMap prC))) (hka : ka ≤ 255) (hkb : kb ≤ 255) :
    FnV Try.prog 8 [.int .i64 n, .slice A es.length c, .int .u8 (ka : Int), .int .u8 (kb : Int)] Γ fun v Γ' => v = .bool true ∧ Γ' = Γ := by
  refine Fn.enter Try.func8 rfl rfl rfl fun E => ?_
  refine m_run ?_
  (apply TL.callV; exact rfl; exact callB_of (by kernel_rfl); exact rfl; exact fun _ h => h)
  exact right_t n A c es _ hs
  rintro _ Γ ⟨rfl, rfl⟩
  cases hR : rightB n es with
  | false =>
    refine m_run ?_
    (apply TL.callV; exact rfl; exact callB_of (by kernel_rfl); exact rfl; exact fun _ h => h)
    exact works9_t _
    rintro _ Γ1 ⟨rfl, hs1⟩
    refine m_run ?_
    (apply TK.retS1; exact rfl; exact rfl; (exact m_val))
    exact ⟨_, rfl, rfl, rfl⟩
    exact hs1
  | true =>
    obtain ⟨hn0, hn1, hel, hes⟩ := right_facts hR
    by_cases hz : n = 0
    · refine m_run ?_
      (apply TL.callV; exact rfl; exact callB_of (by kernel_rfl); exact rfl; exact fun _ h => h)
      exact works9_t _
      rintro _ Γ1 ⟨rfl, hs1⟩
      refine m_run ?_
      (apply TK.retS1; exact rfl; exact rfl; (exact m_val))
      exact ⟨_, rfl, rfl, rfl⟩
      exact hs1
    obtain ⟨N, rfl⟩ : ∃ N : Nat, n = (N : Int) := ⟨n.toNat, by omega⟩
    refine m_run ?_
    refine TK.free (H := own 52 2 (.slice none 0 0) 0 []) (fun m hm => own_nil _ _ hm) ?_
    apply TK.iter (fun j ρ' Γ' => ∃ (i : Nat) (B : Option Addr) (k : Nat) (Γ2 : List HP), i + j = es.length ∧ Γ.Sublist Γ2 ∧ lk ρ' 0 = .int .i64 (N : Int) ∧ lk ρ' 1 = .slice A es.length c ∧ lk ρ' 2 = .int .u8 (ka : Int) ∧ lk ρ' 3 = .int .u8 (kb : Int) ∧ lk ρ' 9 = .slice B i k ∧ lk ρ' 10 = .int .i64 (i : Int) ∧ Γ' = own 52 2 (.slice B i k) i (((es.take i).map swE).flatMap prC) :: Γ2) es.length
    · exact ⟨0, none, 0, Γ, Nat.zero_add _, .refl _, rfl, rfl, rfl, rfl, rfl, rfl, rfl⟩
    rintro j IH ρ' _ ⟨i, B, k, Γ2, hij, hs2, e0, e1, e2, e3, e9, e10, rfl⟩
    refine TK.know6 e0 e1 e2 e3 e9 e10 ?_
    by_cases hi : i < es.length
    · obtain ⟨x, hx⟩ : ∃ x, es[i]? = some x := ⟨es[i], List.getElem?_eq_getElem hi⟩
      have hsx : has Γ2 (srcAt 2 A es.length (es.flatMap prC)) := has_sublist (up_src _ _ _ _) hs2 hs
      refine TK.mem fun m0 hm0 => ?_
      obtain ⟨g, u, rfl⟩ := edge_some (has_tls hsx : has (own 52 2 (.slice B i k) i (((es.take i).map swE).flatMap prC) :: Γ2) _) hm0 (by omega)
      clear hm0 m0
      obtain ⟨c1, c2⟩ := edge_cells hsx rfl hx
      refine m_run ?_
      refine TK.drawE mixed rfl Γ2 ?_
      refine m_take (At.mk : At 0) ?_; refine m_take (At.mk : At 1) ?_; refine m_take (At.mk : At 2) ?_; refine m_take (At.mk : At 3) ?_; refine m_take (At.mk : At 4) ?_; refine m_take (At.mk : At 5) ?_; refine m_take (At.mk : At 6) ?_; refine m_take (At.mk : At 7) ?_; refine m_take (At.mk : At 8) ?_; refine m_take (At.mk : At 9) ?_; refine m_take (At.mk : At 10) ?_
      (apply TA.takeA (At.mk : At 11); exact rfl; exact rfl; kernel_rfl; ((focus ((repeat (first | assumption | exact Ent.refl _ | apply Ent.tail)); done))); (apply PV.buildArr; exact tb rfl; exact rfl; exact tb rfl; exact rfl; exact rfl; exact (rfl : _ = prC (swE x))))
      (apply TA.one 12; kernel_rfl; exact rfl)
      (apply TL.buildSlice (l := [swE x].flatMap prC); exact rfl; exact tb rfl; exact rfl; exact tb rfl; exact rfl; exact rfl; exact rfl; exact rfl; exact rfl)
      intro b50
      refine TL.back (by (focus ((repeat (first | assumption | exact Ent.refl _ | apply Ent.tail)); done))) ?_
      (apply TA.one 13; kernel_rfl; exact rfl)
      (apply TL.append 1 (n := i) (m := 1) (cs := ((es.take i).map swE).flatMap prC) (news := [swE x].flatMap prC); exact rfl; exact rfl; exact tb rfl; exact rfl; exact tb rfl; exact rfl; exact rfl; exact rfl)
      · exact fun _ h => h
      · exact rfl
      · exact has_src_row 0 rfl rfl
      · exact fun u hu => by
          rcases List.mem_cons.1 hu with rfl | hu
          · rfl
          · rw [List.mem_singleton.1 hu]; rfl
      · show (i + 1) * 16 ≤ _; omega
      · show i + 1 ≤ maxLen; unfold maxLen; omega
      · exact fun _ => (rfl : _ = _ :: _ :: _)
      intro B2 k2 hk2
      rw [show ((es.take i).map swE).flatMap prC ++ [swE x].flatMap prC = ((es.take (i + 1)).map swE).flatMap prC by rw [take_next hx, List.map_append, List.flatMap_append]; rfl]
      refine TL.back (by (focus ((repeat (first | assumption | exact Ent.refl _ | apply Ent.tail)); done))) ?_
      refine m_take (At.mk : At 14) ?_
      refine TA.done (by kernel_rfl) ?_
      refine m_run ?_
      refine TK.perm (.swap _ _ _) ?_
      exact IH (j - 1) _ _ (by omega) ⟨i + 1, B2, k2, _, by omega, .cons _ hs2, rfl, rfl, rfl, rfl, rfl, congrArg (Value.int .i64) (i64_succ i (by omega)), rfl⟩
    obtain rfl : i = es.length := by omega
    clear IH
    rw [List.take_length]
    have hbl : (es.map swE).length = es.length := List.length_map ..
    have hbs : has (own 52 2 (.slice B es.length k) es.length ((es.map swE).flatMap prC) :: Γ2) (srcAt 2 B (es.map swE).length ((es.map swE).flatMap prC)) := by rw [hbl]; exact has_at (up_src _ _ _ _) 0 rfl fun _ h => own_src h
    have hsx := has_tls (K := own 52 2 (.slice B es.length k) es.length ((es.map swE).flatMap prC)) (has_sublist (up_src _ _ _ _) hs2 hs)
    have hS2 := hs2.trans (.cons (own 52 2 (.slice B es.length k) es.length ((es.map swE).flatMap prC)) (.refl _))
    generalize own 52 2 (.slice B es.length k) es.length ((es.map swE).flatMap prC) :: Γ2 = Γ3 at *
    have hp1 : pErr (N : Int) es = 0 := pErr_zero hn0 hn1 (by omega) hes
    have hp2 : pErr (N : Int) (es.map swE) = 0 := pErr_zero hn0 hn1 (by omega) fun x hx => by
      obtain ⟨y, hy, rfl⟩ := List.mem_map.1 hx
      have := hes y hy
      unfold swE
      omega
    refine m_run ?_
    (apply TL.callV; exact rfl; exact callB_of (by kernel_rfl); exact rfl; exact fun _ h => h)
    exact partsG_t N A c es _ hsx (by omega)
    rintro _ Γ4 ⟨Q, q, L, rfl, hRL, hs4, _, hPL⟩
    replace hPL := hPL hp1
    rw [Int.toNat_natCast] at hPL
    rw [hp1]
    have hcall := partsG_t N B k (es.map swE) Γ4 (has_sublist (up_src _ _ _ _) hs4 hbs) (by omega)
    rw [hbl] at hcall
    refine m_run ?_
    (apply TL.callV; exact rfl; exact callB_of (by kernel_rfl); exact rfl; exact fun _ h => h)
    exact hcall
    rintro _ Γ5 ⟨Q2, q2, M, rfl, hRM, hs5, _, hPM⟩
    replace hPM := hPM hp2
    rw [Int.toNat_natCast, el_turn] at hPM
    rw [hp2]
    have hLM : L.length = M.length := by have := Gph.turned_len hPL hPM; simpa using this
    have hRL5 := hRL.sub hs5
    have hsx5 := has_sublist (up_src _ _ _ _) (hs4.trans hs5) hsx
    have hS5 := (hS2.trans hs4).trans hs5
    obtain ⟨hLl, hLr⟩ := parts_rows hPL
    obtain ⟨hMl, hMr⟩ := parts_rows hPM
    clear hcall hp2 hbs hsx hRL hs4 hs5 hS2
    refine m_run ?_
    apply TK.iter (fun j ρ' Γ' => ∃ (i : Nat) (Γ6 : List HP), i + j = L.length ∧ Γ5.Sublist Γ6 ∧ lk ρ' 0 = .int .i64 (N : Int) ∧ lk ρ' 1 = .slice A es.length c ∧ lk ρ' 2 = .int .u8 (ka : Int) ∧ lk ρ' 3 = .int .u8 (kb : Int) ∧ lk ρ' 11 = .slice Q L.length q ∧ lk ρ' 13 = .slice Q2 M.length q2 ∧ lk ρ' 15 = .int .i64 (i : Int) ∧ Γ' = Γ6) L.length
    · exact ⟨0, Γ5, Nat.zero_add _, .refl _, rfl, rfl, rfl, rfl, rfl, rfl, rfl, rfl⟩
    clear e0 e1 e2 e3 e9 e10
    rintro j IH ρ' _ ⟨i, Γ6, hij, hs6, e0, e1, e2, e3, e11, e13, e15, rfl⟩
    refine TK.know7 e0 e1 e2 e3 e11 e13 e15 ?_
    by_cases hi : i < L.length
    · obtain ⟨r, hr⟩ : ∃ r, L[i]? = some r := ⟨L[i], List.getElem?_eq_getElem hi⟩
      have hrm := List.mem_of_getElem? hr
      obtain ⟨hrl, hrne, hrx⟩ := hLr r hrm
      have hrpos : 0 < r.w.length := List.length_pos_iff.2 hrne
      obtain ⟨x, hx⟩ : ∃ x, r.w[0]? = some x := ⟨r.w[0], List.getElem?_eq_getElem hrpos⟩
      have hxm := List.mem_of_getElem? hx
      obtain ⟨jj, hjj⟩ := List.getElem?_of_mem (Gph.turned_mem hPL hPM (List.mem_map_of_mem hrm : r.w ∈ L.map Rw.w))
      rw [List.getElem?_map] at hjj
      obtain ⟨t, ht, htw⟩ := Option.map_eq_some_iff.1 hjj
      have hjl := (List.getElem?_eq_some_iff.1 ht).1
      have hL6 := hRL5.sub hs6
      have hM6 := hRM.sub hs6
      have hrow := hL6.row r hrm
      refine TK.mem fun m0 hm0 => ?_
      obtain ⟨g, u, rfl⟩ := hL6.some hm0 (by omega)
      obtain ⟨g2, u2, rfl⟩ := hM6.some hm0 (by omega)
      obtain ⟨gr, ur, hrA⟩ := src_some (hrow m0 hm0) (by rw [ints_len]; exact hrpos)
      clear hm0 m0
      have hcr := hL6.v rfl hr
      have hct := hM6.v rfl ht
      have hcr' := hcr
      unfold Rw.v at hcr'
      rw [hrA] at hrow hcr'
      have hv : [r].map Rw.v = ([.slice (some ⟨gr, ur, none⟩) r.w.length r.c] : List Value) := by rw [List.map_singleton]; unfold Rw.v; rw [hrA]
      have hcx := has_ints hrow hx
      rw [Nat.add_zero] at hcx
      refine m_run ?_
      (apply TL.callV; exact rfl; exact callB_of (by kernel_rfl); exact rfl; exact fun _ h => h)
      exact part_t (some ⟨g2, u2, none⟩) q2 M (x : Int) _ hM6 (by omega) (fun r hr => by have := (hMr r hr).1; omega)
      rintro _ Γ6 ⟨⟨k1, rfl, hk1⟩, rfl⟩
      have hxN := hrx x hxm
      have hk2 := part_pix hPM hxN hk1
      rw [hPM.pix_of (i := jj) (p := r.w) (by rw [List.getElem?_map, ht]; exact congrArg some htw) hxm] at hk2
      subst hk2
      refine m_run ?_
      refine TK.drawS mixed rfl ?_
      refine m_take (At.mk : At 0) ?_; refine m_take (At.mk : At 1) ?_
      refine TA.know (t := 98) (v := .bool false) (congrArg Value.bool (decide_eq_false (by omega))) ?_
      refine m_take (At.mk : At 2) ?_; refine m_take (At.mk : At 3) ?_; refine m_take (At.mk : At 4) ?_; refine m_take (At.mk : At 5) ?_; refine m_take (At.mk : At 6) ?_
      refine TA.know (t := 103) (v := .bool false) (congrArg Value.bool (decide_eq_false (by omega))) ?_
      refine m_take (At.mk : At 7) ?_; refine m_take (At.mk : At 8) ?_; refine m_take (At.mk : At 9) ?_; refine m_take (At.mk : At 10) ?_; refine m_take (At.mk : At 11) ?_; refine m_take (At.mk : At 12) ?_; refine m_take (At.mk : At 14) ?_; refine m_take (At.mk : At 15) ?_; refine m_take (At.mk : At 16) ?_; refine m_take (At.mk : At 17) ?_
      refine TA.cutJ [13, 18] (fun ρ' Γ' => ∃ b110 b115 : Nat, lk ρ' 0 = .int .i64 (N : Int) ∧ lk ρ' 1 = .slice A es.length c ∧ lk ρ' 2 = .int .u8 (ka : Int) ∧ lk ρ' 3 = .int .u8 (kb : Int) ∧ lk ρ' 11 = .slice (some ⟨g, u, none⟩) L.length q ∧ lk ρ' 13 = .slice (some ⟨g2, u2, none⟩) M.length q2 ∧ lk ρ' 15 = .int .i64 (i : Int) ∧ lk ρ' 104 = .bool false ∧ lk ρ' 105 = .bool false ∧ lk ρ' 110 = .slice (some ⟨b110, 0, none⟩) 1 1 ∧ lk ρ' 115 = .slice (some ⟨b115, 0, none⟩) 1 1 ∧ Γ' = row b110 [.slice (some ⟨gr, ur, none⟩) r.w.length r.c] 54 :: row b115 [t.v] 54 :: Γ6) rfl ?_ ?_
      · intro tail
        (apply TA.two 13 18; kernel_rfl; exact rfl; exact rfl)
        · refine m_rrun ?_
          (apply TL.buildSlice (l := [.slice (some ⟨gr, ur, none⟩) r.w.length r.c]); exact rfl; exact tb rfl; exact rfl; exact tb rfl; exact rfl; exact rfl; exact rfl; exact rfl; exact rfl)
          intro b110
          refine TL.back (by (focus ((repeat (first | assumption | exact Ent.refl _ | apply Ent.tail)); done))) ?_
          (apply TA.one 18; kernel_rfl; exact rfl)
          refine m_rrun ?_
          (apply TL.buildSlice (l := [t.v]); exact rfl; exact tb rfl; exact rfl; exact tb rfl; exact rfl; exact rfl; exact rfl; exact rfl; exact rfl)
          intro b115
          refine TL.back (by (focus ((repeat (first | assumption | exact Ent.refl _ | apply Ent.tail)); done))) ?_
          refine TA.perm (.swap _ _ _) ?_
          refine TA.eqL ?_ (tail _ _ ⟨b110, b115, rfl, rfl, rfl, rfl, rfl, rfl, rfl, rfl, rfl, rfl, rfl, rfl⟩)
          kernel_rfl
        · refine m_rrun ?_
          (apply TL.buildSlice (l := [t.v]); exact rfl; exact tb rfl; exact rfl; exact tb rfl; exact rfl; exact rfl; exact rfl; exact rfl; exact rfl)
          intro b115
          refine TL.back (by (focus ((repeat (first | assumption | exact Ent.refl _ | apply Ent.tail)); done))) ?_
          (apply TA.one 13; kernel_rfl; exact rfl)
          refine m_rrun ?_
          (apply TL.buildSlice (l := [.slice (some ⟨gr, ur, none⟩) r.w.length r.c]); exact rfl; exact tb rfl; exact rfl; exact tb rfl; exact rfl; exact rfl; exact rfl; exact rfl; exact rfl)
          intro b110
          refine TL.back (by (focus ((repeat (first | assumption | exact Ent.refl _ | apply Ent.tail)); done))) ?_
          refine TA.eqL ?_ (tail _ _ ⟨b110, b115, rfl, rfl, rfl, rfl, rfl, rfl, rfl, rfl, rfl, rfl, rfl, rfl⟩)
          kernel_rfl
      rintro ρ3 _ ⟨b110, b115, x0, x1, x2, x3, x11, x13, x15, x104, x105, x110, x115, rfl⟩
      refine TA.know (t := 0) (v := .int .i64 (N : Int)) x0 ?_
      refine TA.know (t := 1) (v := .slice A es.length c) x1 ?_
      refine TA.know (t := 2) (v := .int .u8 (ka : Int)) x2 ?_
      refine TA.know (t := 3) (v := .int .u8 (kb : Int)) x3 ?_
      refine TA.know (t := 11) (v := .slice (some ⟨g, u, none⟩) L.length q) x11 ?_
      refine TA.know (t := 13) (v := .slice (some ⟨g2, u2, none⟩) M.length q2) x13 ?_
      refine TA.know (t := 15) (v := .int .i64 (i : Int)) x15 ?_
      refine TA.know (t := 104) (v := .bool false) x104 ?_
      refine TA.know (t := 105) (v := .bool false) x105 ?_
      refine TA.know (t := 110) (v := .slice (some ⟨b110, 0, none⟩) 1 1) x110 ?_
      refine TA.know (t := 115) (v := .slice (some ⟨b115, 0, none⟩) 1 1) x115 ?_
      (apply TA.one 19; kernel_rfl; exact rfl)
      refine m_rrun ?_
      (apply TL.callV; exact rfl; exact callB_of (by kernel_rfl); exact rfl; exact fun _ h => h)
      refine same_t (some ⟨b110, 0, none⟩) (some ⟨b115, 0, none⟩) 1 1 [r] [t] _ ⟨by rw [hv]; exact has_src_row 0 rfl rfl, fun y hy => ?_⟩ ⟨has_src_row 1 rfl rfl, fun y hy => ?_⟩ (show 1 ≤ 1000000000 by decide) (show 1 ≤ 1000000000 by decide) (fun y hy => ?_)
      · rw [List.mem_singleton.1 hy]; exact has_tls (has_tls (hL6.row r hrm))
      · rw [List.mem_singleton.1 hy]; exact has_tls (has_tls (hM6.row t (List.mem_of_getElem? ht)))
      · rw [List.mem_singleton.1 hy]; omega
      rintro _ _ ⟨rfl, rfl⟩
      rw [decide_eq_true (show List.map Rw.w [r] = List.map Rw.w [t] by rw [List.map_singleton, List.map_singleton, htw])]
      refine TL.back (by (focus ((repeat (first | assumption | exact Ent.refl _ | apply Ent.tail)); done))) ?_
      refine m_take (At.mk : At 20) ?_; refine m_take (At.mk : At 21) ?_
      refine TA.done (by kernel_rfl) ?_
      refine m_run ?_
      exact IH (j - 1) _ _ (by omega) ⟨i + 1, _, by omega, .cons _ (.cons _ hs6), rfl, rfl, rfl, rfl, rfl, rfl, congrArg (Value.int .i64) (i64_succ i (by omega)), rfl⟩
    obtain rfl : i = L.length := by omega
    clear IH
    have hL6 := hRL5.sub hs6
    have hsx6 := has_sublist (up_src _ _ _ _) hs6 hsx5
    have hS6 := hS5.trans hs6
    clear hs6 hRL5 hRM hsx5 hS5
    obtain ⟨ub, hub⟩ : ∃ ub, ub = ka % N := ⟨_, rfl⟩
    have hNp : 0 < N := by omega
    have huN : ub < N := by rw [hub]; exact Nat.mod_lt _ hNp
    refine m_run ?_
    refine TL.know (t := 120) (v := .int .i64 (ka : Int)) (congrArg (Value.int .i64) (i64_in (by omega) (by omega))) ?_
    refine m_run ?_
    (apply TL.pv; exact rfl; (apply PV.remN (n := ka) (m := N); exact rfl; exact rfl; exact rfl; exact (by omega)))
    rw [← hub]
    refine m_run ?_
    (apply TL.callV; exact rfl; exact callB_of (by kernel_rfl); exact rfl; exact fun _ h => h)
    exact part_t Q q L (ub : Int) _ hL6 (by omega) (fun r hr => by have := (hLr r hr).1; omega)
    rintro _ Γ6 ⟨⟨k1, rfl, hk1⟩, rfl⟩
    have hk2 := part_pix hPL huN hk1
    obtain ⟨w, hw⟩ : ∃ w, w = Gph.pix (L.map Rw.w) ub := ⟨_, rfl⟩
    rw [← hw] at hk2
    subst hk2
    obtain ⟨p, hpw, hup⟩ := hPL.pix_mem huN
    rw [← hw, List.getElem?_map] at hpw
    obtain ⟨r, hr, rfl⟩ := Option.map_eq_some_iff.1 hpw
    have hwl := (List.getElem?_eq_some_iff.1 hr).1
    have hrm := List.mem_of_getElem? hr
    obtain ⟨hrl, hrne, hrx⟩ := hLr r hrm
    have hrpos : 0 < r.w.length := List.length_pos_iff.2 hrne
    obtain ⟨to, hto⟩ : ∃ to, r.w[kb % r.w.length]? = some to := ⟨r.w[kb % r.w.length]'(Nat.mod_lt _ hrpos), List.getElem?_eq_getElem _⟩
    have hkm : kb % r.w.length < r.w.length := Nat.mod_lt _ hrpos
    have htm := List.mem_of_getElem? hto
    have hrow := hL6.row r hrm
    refine TL.mem fun m0 hm0 => ?_
    obtain ⟨g, u, rfl⟩ := hL6.some hm0 (by omega)
    obtain ⟨gr, ur, hrA⟩ := src_some (hrow m0 hm0) (by rw [ints_len]; exact hrpos)
    clear hm0 m0
    have hcr := hL6.v rfl hr
    unfold Rw.v at hcr
    rw [hrA] at hrow hcr
    have hct := has_ints hrow hto
    refine m_run ?_
    refine TK.drawS mixed rfl ?_
    refine m_take (At.mk : At 0) ?_; refine m_take (At.mk : At 1) ?_; refine m_take (At.mk : At 2) ?_; refine m_take (At.mk : At 3) ?_; refine m_take (At.mk : At 4) ?_; refine m_take (At.mk : At 5) ?_
    refine TA.know (t := 139) (v := .int .i64 (kb : Int)) (congrArg (Value.int .i64) (i64_in (by omega) (by omega))) ?_
    refine m_take (At.mk : At 6) ?_; refine m_take (At.mk : At 7) ?_; refine m_take (At.mk : At 8) ?_; refine m_take (At.mk : At 9) ?_; refine m_take (At.mk : At 10) ?_
    (apply TA.takeA (At.mk : At 11); exact rfl; exact rfl; kernel_rfl; ((focus ((repeat (first | assumption | exact Ent.refl _ | apply Ent.tail)); done))); (apply PV.remN (n := kb) (m := r.w.length); exact rfl; exact rfl; exact rfl; exact (by omega)))
    refine m_take (At.mk : At 12) ?_; refine m_take (At.mk : At 13) ?_; refine m_take (At.mk : At 14) ?_
    refine TA.done (by kernel_rfl) ?_
    refine m_run ?_
    (apply TL.buildSlice (l := []); exact rfl; exact tb rfl; exact rfl; exact tb rfl; exact rfl; exact rfl; exact rfl; exact rfl; exact rfl)
    intro b148
    refine m_run ?_
    (apply TL.append 0 (n := 0) (m := es.length) (cs := []) (news := es.flatMap prC); exact rfl; exact rfl; exact tb rfl; exact rfl; exact tb rfl; exact rfl; exact rfl; exact rfl)
    · exact fun _ h => own_row (n := 0) rfl (by decide) h
    · exact rfl
    · exact has_tls hsx6
    · exact fun u hu => by
        obtain ⟨y, _, hy⟩ := List.mem_flatMap.1 hu
        rcases List.mem_cons.1 hy with rfl | hy
        · rfl
        · rw [List.mem_singleton.1 hy]; rfl
    · show (0 + es.length) * 16 ≤ _; omega
    · show 0 + es.length ≤ maxLen; unfold maxLen; omega
    · exact fun _ => (rfl : _ = _ :: _)
    intro B5 k5 hk5
    simp only [Nat.zero_add, List.nil_append] at hk5 ⊢
    refine m_run ?_
    (apply TL.pv; exact rfl; (apply PV.buildArr; exact tb rfl; exact rfl; exact tb rfl; exact rfl; exact rfl; exact (rfl : _ = prC ((ub : Int), (to : Int)))))
    (apply TL.buildSlice (l := [((ub : Int), (to : Int))].flatMap prC); exact rfl; exact tb rfl; exact rfl; exact tb rfl; exact rfl; exact rfl; exact rfl; exact rfl; exact rfl)
    intro b154
    refine m_run ?_
    (apply TL.append 1 (n := es.length) (m := 1) (cs := es.flatMap prC) (news := [((ub : Int), (to : Int))].flatMap prC); exact rfl; exact rfl; exact tb rfl; exact rfl; exact tb rfl; exact rfl; exact rfl; exact rfl)
    · exact fun _ h => h
    · exact rfl
    · exact has_src_row 0 rfl rfl
    · exact fun u hu => by
        rcases List.mem_cons.1 hu with rfl | hu
        · rfl
        · rw [List.mem_singleton.1 hu]; rfl
    · show (es.length + 1) * 16 ≤ _; omega
    · show es.length + 1 ≤ maxLen; unfold maxLen; omega
    · exact fun _ => (rfl : _ = _ :: _ :: _)
    intro B6 k6 hk6
    rw [show es.flatMap prC ++ [((ub : Int), (to : Int))].flatMap prC = (es ++ [((ub : Int), (to : Int))]).flatMap prC by rw [List.flatMap_append], show es.length + 1 = (es ++ [((ub : Int), (to : Int))]).length by simp]
    have htN := hrx to htm
    have hp3 : pErr (N : Int) (es ++ [((ub : Int), (to : Int))]) = 0 := pErr_zero hn0 hn1 (by simp; omega) fun x hx => by
      rcases List.mem_append.1 hx with hx | hx
      · exact hes x hx
      · rw [List.mem_singleton.1 hx]
        exact ⟨by simp, by simp; omega, by simp, by simp; omega⟩
    refine m_run ?_
    (apply TL.callV; exact rfl; exact callB_of (by kernel_rfl); exact rfl; exact fun _ h => h)
    exact partsG_t N B6 k6 (es ++ [((ub : Int), (to : Int))]) _ (has_at (up_src _ _ _ _) 1 rfl fun _ h => own_src h) (by simp; omega)
    rintro _ Γ7 ⟨Q3, q3, O, rfl, hRO, hs7, _, hPO⟩
    replace hPO := hPO hp3
    rw [Int.toNat_natCast] at hPO
    rw [hp3]
    have hab : Gph.Rc (Gph.El (edsN es)) ub to := (((hPL.scc r.w (List.mem_map_of_mem hrm)).2.2 ub hup).2 to |>.1 htm).1
    have hE : Gph.El (edsN (es ++ [((ub : Int), (to : Int))])) = fun x y => Gph.El (edsN es) x y ∨ (x = ub ∧ y = to) := by
      funext x y
      apply propext
      show (x, y) ∈ List.map edN (es ++ [((ub : Int), (to : Int))]) ↔ (x, y) ∈ List.map edN es ∨ _
      rw [List.map_append, List.mem_append, List.map_singleton, List.mem_singleton, show edN ((ub : Int), (to : Int)) = (ub, to) from rfl, Prod.mk.injEq]
    rw [hE] at hPO
    have hLO : L.map Rw.w = O.map Rw.w := (hPL.congr (Gph.rc_more hab)).unique hPO
    have hOl : O.length = L.length := by have := congrArg List.length hLO; simpa using this.symm
    have hsT := (List.Sublist.cons (row b154 ([((ub : Int), (to : Int))].flatMap prC) 52) (.cons (own 52 2 (.slice B5 es.length k5) es.length (es.flatMap prC)) (.refl Γ6)))
    have hL7 : Rows (some ⟨g, u, none⟩) L Γ7 := (hL6.tl.tl).sub hs7
    refine m_run ?_
    (apply TL.callV; exact rfl; exact callB_of (by kernel_rfl); exact rfl; exact fun _ h => h)
    exact same_t (some ⟨g, u, none⟩) Q3 q q3 L O _ hL7 hRO (by omega) (by omega) (fun r hr => by have := (hLr r hr).1; omega)
    rintro _ Γ7 ⟨rfl, rfl⟩
    rw [decide_eq_true hLO]
    refine m_run ?_
    (apply TL.callV; exact rfl; exact callB_of (by kernel_rfl); exact rfl; exact fun _ h => h)
    exact works9_t _
    rintro _ Γ8 ⟨rfl, hs8⟩
    refine m_run ?_
    (apply TK.retS1; exact rfl; exact rfl; (exact m_val))
    exact ⟨_, rfl, rfl, rfl⟩
    exact ((hS6.trans (.cons _ (.cons _ (.refl _)))).trans hs7).trans hs8
end Go.Proofs.Ytndmjpceocecdaa.E
