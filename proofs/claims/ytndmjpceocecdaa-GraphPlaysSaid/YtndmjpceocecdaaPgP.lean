/- My own texts, one behind the other: Gwp Gwr Gwt Gxa Gxb Gxc Gxd. -/
import Derived.Test.YtndmjpceocecdaaPg7
import Derived.Stop.BytesEq
/- With all edges turned round the parts are the same: walked. -/
namespace Go.Proofs.Ytndmjpceocecdaa.E
open Go Go.RowKit Go.Proofs
attribute [local irreducible] TK TL TQ TA TB Fn PV
def swE (x : Int × Int) : Int × Int := (x.2, x.1)
theorem right_facts {n : Int} {es : List (Int × Int)} (h : rightB n es = true) : 0 ≤ n ∧ n ≤ 60 ∧ es.length ≤ 300 ∧ (∀ x ∈ es, 0 ≤ x.1 ∧ x.1 < n ∧ 0 ≤ x.2 ∧ x.2 < n) := by
  unfold rightB at h
  simp only [Bool.and_eq_true, decide_eq_true_iff, Bool.not_eq_true'] at h
  refine ⟨h.1.1, h.1.2.1, h.1.2.2, fun x hx => ?_⟩
  have h1 : badE n x = false := by
    have := List.any_eq_false.1 h.2 x hx
    exact Bool.eq_false_iff.2 this
  have h2 : ¬ (x.1 < 0 ∨ n ≤ x.1 ∨ x.2 < 0 ∨ n ≤ x.2) := fun h3 => Bool.eq_false_iff.1 h1 ((badE_iff n x).2 h3)
  omega
theorem pErr_zero {n : Int} {es : List (Int × Int)} (h0 : 0 ≤ n) (h1 : n ≤ 60) (h2 : es.length ≤ 16384) (h3 : ∀ x ∈ es, 0 ≤ x.1 ∧ x.1 < n ∧ 0 ≤ x.2 ∧ x.2 < n) : pErr n es = 0 := by
  unfold pErr
  rw [if_neg (by omega), if_neg (by omega), if_neg (fun h => by
    obtain ⟨x, hx, hb⟩ := List.any_eq_true.1 h
    have := (badE_iff n x).1 hb
    have := h3 x hx
    omega)]
theorem el_turn {es : List (Int × Int)} : Gph.El (edsN (es.map swE)) = fun a b => Gph.El (edsN es) b a := by
  funext a b
  apply propext
  show (a, b) ∈ List.map edN (List.map swE es) ↔ (b, a) ∈ List.map edN es
  rw [List.map_map]
  simp only [List.mem_map, Function.comp]
  constructor
  · rintro ⟨x, hx, he⟩
    exact ⟨x, hx, by unfold edN swE at he; unfold edN; injection he with h1 h2; rw [h1, h2]⟩
  · rintro ⟨x, hx, he⟩
    exact ⟨x, hx, by unfold edN at he; unfold edN swE; injection he with h1 h2; show (x.2.toNat, x.1.toNat) = _; rw [h1, h2]⟩
/-- Which part a node is of, as told. -/
theorem part_pix {E : Nat → Nat → Prop} {n : Nat} {l : List (List Nat)} (h : Gph.IsParts E n l) {v : Nat} {k : Int} (hv : v < n) (hk : PartIs l (v : Int) k) : k = (Gph.pix l v : Int) := by
  obtain ⟨p, hp, hm⟩ := h.pix_mem hv
  rcases hk with ⟨i, rfl, ⟨q, hq, x, hx, hxq⟩, _⟩ | ⟨_, hno⟩
  · obtain rfl : v = x := by omega
    rw [h.ix_uniq hq hp hxq hm]
  · exact absurd rfl (hno p (List.mem_of_getElem? hp) v hm)
theorem parts_rows {E : Nat → Nat → Prop} {n : Nat} {L : List Rw} (h : Gph.IsParts E n (L.map Rw.w)) : L.length ≤ n ∧ ∀ r ∈ L, r.w.length ≤ n ∧ r.w ≠ [] ∧ ∀ x ∈ r.w, x < n := by
  constructor
  · have := Gph.more_len (E := fun _ _ => False) (n := n) (L := (List.range n).map fun v => [v]) (M := L.map Rw.w) ?_ h (fun v w hr => by
      cases hr with
      | refl => exact .refl _
      | step _ e => exact e.elim)
    · simpa using this
    · have hrc : ∀ v w, Gph.Rc (fun _ _ : Nat => False) v w → w = v := fun v w hr => by
        cases hr with
        | refl => rfl
        | step _ e => exact e.elim
      refine ⟨fun p hp => ?_, fun v hv => ⟨[v], List.mem_map.2 ⟨v, List.mem_range.2 hv, rfl⟩, by simp⟩, ?_, fun i p hp v hv w hw => ?_, fun i p hp x hx hf hw => ?_⟩
      · obtain ⟨v, hv, rfl⟩ := List.mem_map.1 hp
        refine ⟨by simp, by simp, fun x hx => ?_⟩
        rw [List.mem_singleton] at hx
        subst hx
        refine ⟨List.mem_range.1 hv, fun u => ?_⟩
        rw [List.mem_singleton]
        exact ⟨fun e => by subst e; exact ⟨.refl _, .refl _⟩, fun e => hrc _ _ e.1⟩
      · rw [List.pairwise_map]
        exact List.nodup_range.imp fun {a b} hab v hva hvb => by
          rw [List.mem_singleton] at hva hvb
          exact hab (hva.symm.trans hvb)
      · have := hrc _ _ hw
        subst this
        rw [List.take_add_one, hp]
        simp [hv]
      · rw [List.getElem?_map] at hp
        obtain ⟨v, hv, rfl⟩ := Option.map_eq_some_iff.1 hp
        have hvi : v = i := by
          have := (List.getElem?_eq_some_iff.1 hv).2
          simpa using this.symm
        subst hvi
        show v ≤ x
        apply Classical.byContradiction
        intro hc
        apply hf
        rw [List.mem_flatten]
        refine ⟨[x], List.mem_of_getElem? (i := x) ?_, by simp⟩
        rw [List.getElem?_take, if_pos (by omega), List.getElem?_map, List.getElem?_range (by omega)]
        rfl
  · intro r hr
    obtain ⟨h1, h2, h3⟩ := h.scc _ (List.mem_map_of_mem hr)
    exact ⟨Gph.nodup_len (h1.imp fun {a b} hab e => by rw [e] at hab; exact Nat.lt_irrefl _ hab) fun x hx => (h3 x hx).1, h2, fun x hx => (h3 x hx).1⟩
set_option maxRecDepth 100000 in
set_option maxHeartbeats 8000000 in
theorem graphTurned_t (n : Int) (A : Option Addr) (c : Nat) (es : List (Int × Int)) (ka kb : Nat) (Γ : List HP) (hs : has Γ (srcAt 2 A es.length (es.flatMap prC))) (hka : ka ≤ 255) (hkb : kb ≤ 255) :
    FnV Try.prog 8 [.int .i64 n, .slice A es.length c, .int .u8 (ka : Int), .int .u8 (kb : Int)] Γ fun v Γ' => v = .bool true ∧ Γ' = Γ := by
  refine Fn.enter Try.func8 rfl rfl rfl fun E => ?_
  refine m_run ?_
  (apply TL.callV; exact rfl; exact callB_of (by kernel_rfl); exact rfl; exact fun _ h => h)
  exact right_t n A c es _ hs
  rintro _ Γ ⟨rfl, rfl⟩
  cases hR : rightB n es with
  | false =>
    refine m_run ?_
    (apply TL.callV; exact rfl; exact callB_of (by kernel_rfl); exact rfl; exact fun _ h => h)
    exact works9_t _
    rintro _ Γ1 ⟨rfl, hs1⟩
    refine m_run ?_
    (apply TK.retS1; exact rfl; exact rfl; (exact m_val))
    exact ⟨_, rfl, rfl, rfl⟩
    exact hs1
  | true =>
    obtain ⟨hn0, hn1, hel, hes⟩ := right_facts hR
    by_cases hz : n = 0
    · refine m_run ?_
      (apply TL.callV; exact rfl; exact callB_of (by kernel_rfl); exact rfl; exact fun _ h => h)
      exact works9_t _
      rintro _ Γ1 ⟨rfl, hs1⟩
      refine m_run ?_
      (apply TK.retS1; exact rfl; exact rfl; (exact m_val))
      exact ⟨_, rfl, rfl, rfl⟩
      exact hs1
    obtain ⟨N, rfl⟩ : ∃ N : Nat, n = (N : Int) := ⟨n.toNat, by omega⟩
    refine m_run ?_
    refine TK.free (H := own 52 2 (.slice none 0 0) 0 []) (fun m hm => own_nil _ _ hm) ?_
    apply TK.iter (fun j ρ' Γ' => ∃ (i : Nat) (B : Option Addr) (k : Nat) (Γ2 : List HP), i + j = es.length ∧ Γ.Sublist Γ2 ∧ lk ρ' 0 = .int .i64 (N : Int) ∧ lk ρ' 1 = .slice A es.length c ∧ lk ρ' 2 = .int .u8 (ka : Int) ∧ lk ρ' 3 = .int .u8 (kb : Int) ∧ lk ρ' 9 = .slice B i k ∧ lk ρ' 10 = .int .i64 (i : Int) ∧ Γ' = own 52 2 (.slice B i k) i (((es.take i).map swE).flatMap prC) :: Γ2) es.length
    · exact ⟨0, none, 0, Γ, Nat.zero_add _, .refl _, rfl, rfl, rfl, rfl, rfl, rfl, rfl⟩
    rintro j IH ρ' _ ⟨i, B, k, Γ2, hij, hs2, e0, e1, e2, e3, e9, e10, rfl⟩
    refine TK.know6 e0 e1 e2 e3 e9 e10 ?_
    by_cases hi : i < es.length
    · obtain ⟨x, hx⟩ : ∃ x, es[i]? = some x := ⟨es[i], List.getElem?_eq_getElem hi⟩
      have hsx : has Γ2 (srcAt 2 A es.length (es.flatMap prC)) := has_sublist (up_src _ _ _ _) hs2 hs
      refine TK.mem fun m0 hm0 => ?_
      obtain ⟨g, u, rfl⟩ := edge_some (has_tls hsx : has (own 52 2 (.slice B i k) i (((es.take i).map swE).flatMap prC) :: Γ2) _) hm0 (by omega)
      clear hm0 m0
      obtain ⟨c1, c2⟩ := edge_cells hsx rfl hx
      refine m_run ?_
      refine TK.drawE mixed rfl Γ2 ?_
      refine m_take (At.mk : At 0) ?_; refine m_take (At.mk : At 1) ?_; refine m_take (At.mk : At 2) ?_; refine m_take (At.mk : At 3) ?_; refine m_take (At.mk : At 4) ?_; refine m_take (At.mk : At 5) ?_; refine m_take (At.mk : At 6) ?_; refine m_take (At.mk : At 7) ?_; refine m_take (At.mk : At 8) ?_; refine m_take (At.mk : At 9) ?_; refine m_take (At.mk : At 10) ?_
      (apply TA.takeA (At.mk : At 11); exact rfl; exact rfl; kernel_rfl; ((focus ((repeat (first | assumption | exact Ent.refl _ | apply Ent.tail)); done))); (apply PV.buildArr; exact tb rfl; exact rfl; exact tb rfl; exact rfl; exact rfl; exact (rfl : _ = prC (swE x))))
      (apply TA.one 12; kernel_rfl; exact rfl)
      (apply TL.buildSlice (l := [swE x].flatMap prC); exact rfl; exact tb rfl; exact rfl; exact tb rfl; exact rfl; exact rfl; exact rfl; exact rfl; exact rfl)
      intro b50
      refine TL.back (by (focus ((repeat (first | assumption | exact Ent.refl _ | apply Ent.tail)); done))) ?_
      (apply TA.one 13; kernel_rfl; exact rfl)
      (apply TL.append 1 (n := i) (m := 1) (cs := ((es.take i).map swE).flatMap prC) (news := [swE x].flatMap prC); exact rfl; exact rfl; exact tb rfl; exact rfl; exact tb rfl; exact rfl; exact rfl; exact rfl)
      · exact fun _ h => h
      · exact rfl
      · exact has_src_row 0 rfl rfl
      · exact fun u hu => by
          rcases List.mem_cons.1 hu with rfl | hu
          · rfl
          · rw [List.mem_singleton.1 hu]; rfl
      · show (i + 1) * 16 ≤ _; omega
      · show i + 1 ≤ maxLen; unfold maxLen; omega
      · exact fun _ => (rfl : _ = _ :: _ :: _)
      intro B2 k2 hk2
      rw [show ((es.take i).map swE).flatMap prC ++ [swE x].flatMap prC = ((es.take (i + 1)).map swE).flatMap prC by rw [take_next hx, List.map_append, List.flatMap_append]; rfl]
      refine TL.back (by (focus ((repeat (first | assumption | exact Ent.refl _ | apply Ent.tail)); done))) ?_
      refine m_take (At.mk : At 14) ?_
      refine TA.done (by kernel_rfl) ?_
      refine m_run ?_
      refine TK.perm (.swap _ _ _) ?_
      exact IH (j - 1) _ _ (by omega) ⟨i + 1, B2, k2, _, by omega, .cons _ hs2, rfl, rfl, rfl, rfl, rfl, congrArg (Value.int .i64) (i64_succ i (by omega)), rfl⟩
    obtain rfl : i = es.length := by omega
    clear IH
    rw [List.take_length]
    have hbl : (es.map swE).length = es.length := List.length_map ..
    have hbs : has (own 52 2 (.slice B es.length k) es.length ((es.map swE).flatMap prC) :: Γ2) (srcAt 2 B (es.map swE).length ((es.map swE).flatMap prC)) := by rw [hbl]; exact has_at (up_src _ _ _ _) 0 rfl fun _ h => own_src h
    have hsx := has_tls (K := own 52 2 (.slice B es.length k) es.length ((es.map swE).flatMap prC)) (has_sublist (up_src _ _ _ _) hs2 hs)
    have hS2 := hs2.trans (.cons (own 52 2 (.slice B es.length k) es.length ((es.map swE).flatMap prC)) (.refl _))
    generalize own 52 2 (.slice B es.length k) es.length ((es.map swE).flatMap prC) :: Γ2 = Γ3 at *
    have hp1 : pErr (N : Int) es = 0 := pErr_zero hn0 hn1 (by omega) hes
    have hp2 : pErr (N : Int) (es.map swE) = 0 := pErr_zero hn0 hn1 (by omega) fun x hx => by
      obtain ⟨y, hy, rfl⟩ := List.mem_map.1 hx
      have := hes y hy
      unfold swE
      omega
    refine m_run ?_
    (apply TL.callV; exact rfl; exact callB_of (by kernel_rfl); exact rfl; exact fun _ h => h)
    exact partsG_t N A c es _ hsx (by omega)
    rintro _ Γ4 ⟨Q, q, L, rfl, hRL, hs4, _, hPL⟩
    replace hPL := hPL hp1
    rw [Int.toNat_natCast] at hPL
    rw [hp1]
    have hcall := partsG_t N B k (es.map swE) Γ4 (has_sublist (up_src _ _ _ _) hs4 hbs) (by omega)
    rw [hbl] at hcall
    refine m_run ?_
    (apply TL.callV; exact rfl; exact callB_of (by kernel_rfl); exact rfl; exact fun _ h => h)
    exact hcall
    rintro _ Γ5 ⟨Q2, q2, M, rfl, hRM, hs5, _, hPM⟩
    replace hPM := hPM hp2
    rw [Int.toNat_natCast, el_turn] at hPM
    rw [hp2]
    have hLM : L.length = M.length := by have := Gph.turned_len hPL hPM; simpa using this
    have hRL5 := hRL.sub hs5
    have hsx5 := has_sublist (up_src _ _ _ _) (hs4.trans hs5) hsx
    have hS5 := (hS2.trans hs4).trans hs5
    obtain ⟨hLl, hLr⟩ := parts_rows hPL
    obtain ⟨hMl, hMr⟩ := parts_rows hPM
    clear hcall hp2 hbs hsx hRL hs4 hs5 hS2
    refine m_run ?_
    apply TK.iter (fun j ρ' Γ' => ∃ (i : Nat) (Γ6 : List HP), i + j = L.length ∧ Γ5.Sublist Γ6 ∧ lk ρ' 0 = .int .i64 (N : Int) ∧ lk ρ' 1 = .slice A es.length c ∧ lk ρ' 2 = .int .u8 (ka : Int) ∧ lk ρ' 3 = .int .u8 (kb : Int) ∧ lk ρ' 11 = .slice Q L.length q ∧ lk ρ' 13 = .slice Q2 M.length q2 ∧ lk ρ' 15 = .int .i64 (i : Int) ∧ Γ' = Γ6) L.length
    · exact ⟨0, Γ5, Nat.zero_add _, .refl _, rfl, rfl, rfl, rfl, rfl, rfl, rfl, rfl⟩
    clear e0 e1 e2 e3 e9 e10
    rintro j IH ρ' _ ⟨i, Γ6, hij, hs6, e0, e1, e2, e3, e11, e13, e15, rfl⟩
    refine TK.know7 e0 e1 e2 e3 e11 e13 e15 ?_
    by_cases hi : i < L.length
    · obtain ⟨r, hr⟩ : ∃ r, L[i]? = some r := ⟨L[i], List.getElem?_eq_getElem hi⟩
      have hrm := List.mem_of_getElem? hr
      obtain ⟨hrl, hrne, hrx⟩ := hLr r hrm
      have hrpos : 0 < r.w.length := List.length_pos_iff.2 hrne
      obtain ⟨x, hx⟩ : ∃ x, r.w[0]? = some x := ⟨r.w[0], List.getElem?_eq_getElem hrpos⟩
      have hxm := List.mem_of_getElem? hx
      obtain ⟨jj, hjj⟩ := List.getElem?_of_mem (Gph.turned_mem hPL hPM (List.mem_map_of_mem hrm : r.w ∈ L.map Rw.w))
      rw [List.getElem?_map] at hjj
      obtain ⟨t, ht, htw⟩ := Option.map_eq_some_iff.1 hjj
      have hjl := (List.getElem?_eq_some_iff.1 ht).1
      have hL6 := hRL5.sub hs6
      have hM6 := hRM.sub hs6
      have hrow := hL6.row r hrm
      refine TK.mem fun m0 hm0 => ?_
      obtain ⟨g, u, rfl⟩ := hL6.some hm0 (by omega)
      obtain ⟨g2, u2, rfl⟩ := hM6.some hm0 (by omega)
      obtain ⟨gr, ur, hrA⟩ := src_some (hrow m0 hm0) (by rw [ints_len]; exact hrpos)
      clear hm0 m0
      have hcr := hL6.v rfl hr
      have hct := hM6.v rfl ht
      have hcr' := hcr
      unfold Rw.v at hcr'
      rw [hrA] at hrow hcr'
      have hv : [r].map Rw.v = ([.slice (some ⟨gr, ur, none⟩) r.w.length r.c] : List Value) := by rw [List.map_singleton]; unfold Rw.v; rw [hrA]
      have hcx := has_ints hrow hx
      rw [Nat.add_zero] at hcx
      refine m_run ?_
      (apply TL.callV; exact rfl; exact callB_of (by kernel_rfl); exact rfl; exact fun _ h => h)
      exact part_t (some ⟨g2, u2, none⟩) q2 M (x : Int) _ hM6 (by omega) (fun r hr => by have := (hMr r hr).1; omega)
      rintro _ Γ6 ⟨⟨k1, rfl, hk1⟩, rfl⟩
      have hxN := hrx x hxm
      have hk2 := part_pix hPM hxN hk1
      rw [hPM.pix_of (i := jj) (p := r.w) (by rw [List.getElem?_map, ht]; exact congrArg some htw) hxm] at hk2
      subst hk2
      refine m_run ?_
      refine TK.drawS mixed rfl ?_
      refine m_take (At.mk : At 0) ?_; refine m_take (At.mk : At 1) ?_
      refine TA.know (t := 98) (v := .bool false) (congrArg Value.bool (decide_eq_false (by omega))) ?_
      refine m_take (At.mk : At 2) ?_; refine m_take (At.mk : At 3) ?_; refine m_take (At.mk : At 4) ?_; refine m_take (At.mk : At 5) ?_; refine m_take (At.mk : At 6) ?_
      refine TA.know (t := 103) (v := .bool false) (congrArg Value.bool (decide_eq_false (by omega))) ?_
      refine m_take (At.mk : At 7) ?_; refine m_take (At.mk : At 8) ?_; refine m_take (At.mk : At 9) ?_; refine m_take (At.mk : At 10) ?_; refine m_take (At.mk : At 11) ?_; refine m_take (At.mk : At 12) ?_; refine m_take (At.mk : At 14) ?_; refine m_take (At.mk : At 15) ?_; refine m_take (At.mk : At 16) ?_; refine m_take (At.mk : At 17) ?_
      refine TA.cutJ [13, 18] (fun ρ' Γ' => ∃ b110 b115 : Nat, lk ρ' 0 = .int .i64 (N : Int) ∧ lk ρ' 1 = .slice A es.length c ∧ lk ρ' 2 = .int .u8 (ka : Int) ∧ lk ρ' 3 = .int .u8 (kb : Int) ∧ lk ρ' 11 = .slice (some ⟨g, u, none⟩) L.length q ∧ lk ρ' 13 = .slice (some ⟨g2, u2, none⟩) M.length q2 ∧ lk ρ' 15 = .int .i64 (i : Int) ∧ lk ρ' 104 = .bool false ∧ lk ρ' 105 = .bool false ∧ lk ρ' 110 = .slice (some ⟨b110, 0, none⟩) 1 1 ∧ lk ρ' 115 = .slice (some ⟨b115, 0, none⟩) 1 1 ∧ Γ' = row b110 [.slice (some ⟨gr, ur, none⟩) r.w.length r.c] 54 :: row b115 [t.v] 54 :: Γ6) rfl ?_ ?_
      · intro tail
        (apply TA.two 13 18; kernel_rfl; exact rfl; exact rfl)
        · refine m_rrun ?_
          (apply TL.buildSlice (l := [.slice (some ⟨gr, ur, none⟩) r.w.length r.c]); exact rfl; exact tb rfl; exact rfl; exact tb rfl; exact rfl; exact rfl; exact rfl; exact rfl; exact rfl)
          intro b110
          refine TL.back (by (focus ((repeat (first | assumption | exact Ent.refl _ | apply Ent.tail)); done))) ?_
          (apply TA.one 18; kernel_rfl; exact rfl)
          refine m_rrun ?_
          (apply TL.buildSlice (l := [t.v]); exact rfl; exact tb rfl; exact rfl; exact tb rfl; exact rfl; exact rfl; exact rfl; exact rfl; exact rfl)
          intro b115
          refine TL.back (by (focus ((repeat (first | assumption | exact Ent.refl _ | apply Ent.tail)); done))) ?_
          refine TA.perm (.swap _ _ _) ?_
          refine TA.eqL ?_ (tail _ _ ⟨b110, b115, rfl, rfl, rfl, rfl, rfl, rfl, rfl, rfl, rfl, rfl, rfl, rfl⟩)
          kernel_rfl
        · refine m_rrun ?_
          (apply TL.buildSlice (l := [t.v]); exact rfl; exact tb rfl; exact rfl; exact tb rfl; exact rfl; exact rfl; exact rfl; exact rfl; exact rfl)
          intro b115
          refine TL.back (by (focus ((repeat (first | assumption | exact Ent.refl _ | apply Ent.tail)); done))) ?_
          (apply TA.one 13; kernel_rfl; exact rfl)
          refine m_rrun ?_
          (apply TL.buildSlice (l := [.slice (some ⟨gr, ur, none⟩) r.w.length r.c]); exact rfl; exact tb rfl; exact rfl; exact tb rfl; exact rfl; exact rfl; exact rfl; exact rfl; exact rfl)
          intro b110
          refine TL.back (by (focus ((repeat (first | assumption | exact Ent.refl _ | apply Ent.tail)); done))) ?_
          refine TA.eqL ?_ (tail _ _ ⟨b110, b115, rfl, rfl, rfl, rfl, rfl, rfl, rfl, rfl, rfl, rfl, rfl, rfl⟩)
          kernel_rfl
      rintro ρ3 _ ⟨b110, b115, x0, x1, x2, x3, x11, x13, x15, x104, x105, x110, x115, rfl⟩
      refine TA.know (t := 0) (v := .int .i64 (N : Int)) x0 ?_
      refine TA.know (t := 1) (v := .slice A es.length c) x1 ?_
      refine TA.know (t := 2) (v := .int .u8 (ka : Int)) x2 ?_
      refine TA.know (t := 3) (v := .int .u8 (kb : Int)) x3 ?_
      refine TA.know (t := 11) (v := .slice (some ⟨g, u, none⟩) L.length q) x11 ?_
      refine TA.know (t := 13) (v := .slice (some ⟨g2, u2, none⟩) M.length q2) x13 ?_
      refine TA.know (t := 15) (v := .int .i64 (i : Int)) x15 ?_
      refine TA.know (t := 104) (v := .bool false) x104 ?_
      refine TA.know (t := 105) (v := .bool false) x105 ?_
      refine TA.know (t := 110) (v := .slice (some ⟨b110, 0, none⟩) 1 1) x110 ?_
      refine TA.know (t := 115) (v := .slice (some ⟨b115, 0, none⟩) 1 1) x115 ?_
      (apply TA.one 19; kernel_rfl; exact rfl)
      refine m_rrun ?_
      (apply TL.callV; exact rfl; exact callB_of (by kernel_rfl); exact rfl; exact fun _ h => h)
      refine same_t (some ⟨b110, 0, none⟩) (some ⟨b115, 0, none⟩) 1 1 [r] [t] _ ⟨by rw [hv]; exact has_src_row 0 rfl rfl, fun y hy => ?_⟩ ⟨has_src_row 1 rfl rfl, fun y hy => ?_⟩ (show 1 ≤ 1000000000 by decide) (show 1 ≤ 1000000000 by decide) (fun y hy => ?_)
      · rw [List.mem_singleton.1 hy]; exact has_tls (has_tls (hL6.row r hrm))
      · rw [List.mem_singleton.1 hy]; exact has_tls (has_tls (hM6.row t (List.mem_of_getElem? ht)))
      · rw [List.mem_singleton.1 hy]; omega
      rintro _ _ ⟨rfl, rfl⟩
      rw [decide_eq_true (show List.map Rw.w [r] = List.map Rw.w [t] by rw [List.map_singleton, List.map_singleton, htw])]
      refine TL.back (by (focus ((repeat (first | assumption | exact Ent.refl _ | apply Ent.tail)); done))) ?_
      refine m_take (At.mk : At 20) ?_; refine m_take (At.mk : At 21) ?_
      refine TA.done (by kernel_rfl) ?_
      refine m_run ?_
      exact IH (j - 1) _ _ (by omega) ⟨i + 1, _, by omega, .cons _ (.cons _ hs6), rfl, rfl, rfl, rfl, rfl, rfl, congrArg (Value.int .i64) (i64_succ i (by omega)), rfl⟩
    obtain rfl : i = L.length := by omega
    clear IH
    have hL6 := hRL5.sub hs6
    have hsx6 := has_sublist (up_src _ _ _ _) hs6 hsx5
    have hS6 := hS5.trans hs6
    clear hs6 hRL5 hRM hsx5 hS5
    obtain ⟨ub, hub⟩ : ∃ ub, ub = ka % N := ⟨_, rfl⟩
    have hNp : 0 < N := by omega
    have huN : ub < N := by rw [hub]; exact Nat.mod_lt _ hNp
    refine m_run ?_
    refine TL.know (t := 120) (v := .int .i64 (ka : Int)) (congrArg (Value.int .i64) (i64_in (by omega) (by omega))) ?_
    refine m_run ?_
    (apply TL.pv; exact rfl; (apply PV.remN (n := ka) (m := N); exact rfl; exact rfl; exact rfl; exact (by omega)))
    rw [← hub]
    refine m_run ?_
    (apply TL.callV; exact rfl; exact callB_of (by kernel_rfl); exact rfl; exact fun _ h => h)
    exact part_t Q q L (ub : Int) _ hL6 (by omega) (fun r hr => by have := (hLr r hr).1; omega)
    rintro _ Γ6 ⟨⟨k1, rfl, hk1⟩, rfl⟩
    have hk2 := part_pix hPL huN hk1
    obtain ⟨w, hw⟩ : ∃ w, w = Gph.pix (L.map Rw.w) ub := ⟨_, rfl⟩
    rw [← hw] at hk2
    subst hk2
    obtain ⟨p, hpw, hup⟩ := hPL.pix_mem huN
    rw [← hw, List.getElem?_map] at hpw
    obtain ⟨r, hr, rfl⟩ := Option.map_eq_some_iff.1 hpw
    have hwl := (List.getElem?_eq_some_iff.1 hr).1
    have hrm := List.mem_of_getElem? hr
    obtain ⟨hrl, hrne, hrx⟩ := hLr r hrm
    have hrpos : 0 < r.w.length := List.length_pos_iff.2 hrne
    obtain ⟨to, hto⟩ : ∃ to, r.w[kb % r.w.length]? = some to := ⟨r.w[kb % r.w.length]'(Nat.mod_lt _ hrpos), List.getElem?_eq_getElem _⟩
    have hkm : kb % r.w.length < r.w.length := Nat.mod_lt _ hrpos
    have htm := List.mem_of_getElem? hto
    have hrow := hL6.row r hrm
    refine TL.mem fun m0 hm0 => ?_
    obtain ⟨g, u, rfl⟩ := hL6.some hm0 (by omega)
    obtain ⟨gr, ur, hrA⟩ := src_some (hrow m0 hm0) (by rw [ints_len]; exact hrpos)
    clear hm0 m0
    have hcr := hL6.v rfl hr
    unfold Rw.v at hcr
    rw [hrA] at hrow hcr
    have hct := has_ints hrow hto
    refine m_run ?_
    refine TK.drawS mixed rfl ?_
    refine m_take (At.mk : At 0) ?_; refine m_take (At.mk : At 1) ?_; refine m_take (At.mk : At 2) ?_; refine m_take (At.mk : At 3) ?_; refine m_take (At.mk : At 4) ?_; refine m_take (At.mk : At 5) ?_
    refine TA.know (t := 139) (v := .int .i64 (kb : Int)) (congrArg (Value.int .i64) (i64_in (by omega) (by omega))) ?_
    refine m_take (At.mk : At 6) ?_; refine m_take (At.mk : At 7) ?_; refine m_take (At.mk : At 8) ?_; refine m_take (At.mk : At 9) ?_; refine m_take (At.mk : At 10) ?_
    (apply TA.takeA (At.mk : At 11); exact rfl; exact rfl; kernel_rfl; ((focus ((repeat (first | assumption | exact Ent.refl _ | apply Ent.tail)); done))); (apply PV.remN (n := kb) (m := r.w.length); exact rfl; exact rfl; exact rfl; exact (by omega)))
    refine m_take (At.mk : At 12) ?_; refine m_take (At.mk : At 13) ?_; refine m_take (At.mk : At 14) ?_
    refine TA.done (by kernel_rfl) ?_
    refine m_run ?_
    (apply TL.buildSlice (l := []); exact rfl; exact tb rfl; exact rfl; exact tb rfl; exact rfl; exact rfl; exact rfl; exact rfl; exact rfl)
    intro b148
    refine m_run ?_
    (apply TL.append 0 (n := 0) (m := es.length) (cs := []) (news := es.flatMap prC); exact rfl; exact rfl; exact tb rfl; exact rfl; exact tb rfl; exact rfl; exact rfl; exact rfl)
    · exact fun _ h => own_row (n := 0) rfl (by decide) h
    · exact rfl
    · exact has_tls hsx6
    · exact fun u hu => by
        obtain ⟨y, _, hy⟩ := List.mem_flatMap.1 hu
        rcases List.mem_cons.1 hy with rfl | hy
        · rfl
        · rw [List.mem_singleton.1 hy]; rfl
    · show (0 + es.length) * 16 ≤ _; omega
    · show 0 + es.length ≤ maxLen; unfold maxLen; omega
    · exact fun _ => (rfl : _ = _ :: _)
    intro B5 k5 hk5
    simp only [Nat.zero_add, List.nil_append] at hk5 ⊢
    refine m_run ?_
    (apply TL.pv; exact rfl; (apply PV.buildArr; exact tb rfl; exact rfl; exact tb rfl; exact rfl; exact rfl; exact (rfl : _ = prC ((ub : Int), (to : Int)))))
    (apply TL.buildSlice (l := [((ub : Int), (to : Int))].flatMap prC); exact rfl; exact tb rfl; exact rfl; exact tb rfl; exact rfl; exact rfl; exact rfl; exact rfl; exact rfl)
    intro b154
    refine m_run ?_
    (apply TL.append 1 (n := es.length) (m := 1) (cs := es.flatMap prC) (news := [((ub : Int), (to : Int))].flatMap prC); exact rfl; exact rfl; exact tb rfl; exact rfl; exact tb rfl; exact rfl; exact rfl; exact rfl)
    · exact fun _ h => h
    · exact rfl
    · exact has_src_row 0 rfl rfl
    · exact fun u hu => by
        rcases List.mem_cons.1 hu with rfl | hu
        · rfl
        · rw [List.mem_singleton.1 hu]; rfl
    · show (es.length + 1) * 16 ≤ _; omega
    · show es.length + 1 ≤ maxLen; unfold maxLen; omega
    · exact fun _ => (rfl : _ = _ :: _ :: _)
    intro B6 k6 hk6
    rw [show es.flatMap prC ++ [((ub : Int), (to : Int))].flatMap prC = (es ++ [((ub : Int), (to : Int))]).flatMap prC by rw [List.flatMap_append], show es.length + 1 = (es ++ [((ub : Int), (to : Int))]).length by simp]
    have htN := hrx to htm
    have hp3 : pErr (N : Int) (es ++ [((ub : Int), (to : Int))]) = 0 := pErr_zero hn0 hn1 (by simp; omega) fun x hx => by
      rcases List.mem_append.1 hx with hx | hx
      · exact hes x hx
      · rw [List.mem_singleton.1 hx]
        exact ⟨by simp, by simp; omega, by simp, by simp; omega⟩
    refine m_run ?_
    (apply TL.callV; exact rfl; exact callB_of (by kernel_rfl); exact rfl; exact fun _ h => h)
    exact partsG_t N B6 k6 (es ++ [((ub : Int), (to : Int))]) _ (has_at (up_src _ _ _ _) 1 rfl fun _ h => own_src h) (by simp; omega)
    rintro _ Γ7 ⟨Q3, q3, O, rfl, hRO, hs7, _, hPO⟩
    replace hPO := hPO hp3
    rw [Int.toNat_natCast] at hPO
    rw [hp3]
    have hab : Gph.Rc (Gph.El (edsN es)) ub to := (((hPL.scc r.w (List.mem_map_of_mem hrm)).2.2 ub hup).2 to |>.1 htm).1
    have hE : Gph.El (edsN (es ++ [((ub : Int), (to : Int))])) = fun x y => Gph.El (edsN es) x y ∨ (x = ub ∧ y = to) := by
      funext x y
      apply propext
      show (x, y) ∈ List.map edN (es ++ [((ub : Int), (to : Int))]) ↔ (x, y) ∈ List.map edN es ∨ _
      rw [List.map_append, List.mem_append, List.map_singleton, List.mem_singleton, show edN ((ub : Int), (to : Int)) = (ub, to) from rfl, Prod.mk.injEq]
    rw [hE] at hPO
    have hLO : L.map Rw.w = O.map Rw.w := (hPL.congr (Gph.rc_more hab)).unique hPO
    have hOl : O.length = L.length := by have := congrArg List.length hLO; simpa using this.symm
    have hsT := (List.Sublist.cons (row b154 ([((ub : Int), (to : Int))].flatMap prC) 52) (.cons (own 52 2 (.slice B5 es.length k5) es.length (es.flatMap prC)) (.refl Γ6)))
    have hL7 : Rows (some ⟨g, u, none⟩) L Γ7 := (hL6.tl.tl).sub hs7
    refine m_run ?_
    (apply TL.callV; exact rfl; exact callB_of (by kernel_rfl); exact rfl; exact fun _ h => h)
    exact same_t (some ⟨g, u, none⟩) Q3 q q3 L O _ hL7 hRO (by omega) (by omega) (fun r hr => by have := (hLr r hr).1; omega)
    rintro _ Γ7 ⟨rfl, rfl⟩
    rw [decide_eq_true hLO]
    refine m_run ?_
    (apply TL.callV; exact rfl; exact callB_of (by kernel_rfl); exact rfl; exact fun _ h => h)
    exact works9_t _
    rintro _ Γ8 ⟨rfl, hs8⟩
    refine m_run ?_
    (apply TK.retS1; exact rfl; exact rfl; (exact m_val))
    exact ⟨_, rfl, rfl, rfl⟩
    exact ((hS6.trans (.cons _ (.cons _ (.refl _)))).trans hs7).trans hs8
end Go.Proofs.Ytndmjpceocecdaa.E

/- With an edge more there are no more parts: walked. -/
namespace Go.Proofs.Ytndmjpceocecdaa.E
open Go Go.RowKit Go.Proofs
attribute [local irreducible] TK TL TQ TA TB Fn PV
abbrev boolsC (l : List Bool) : List Value := l.map Value.bool
theorem bools_len (l : List Bool) : (boolsC l).length = l.length := by simp
theorem has_bool {Γ : List HP} {b o n i : Nat} {x : Bool} {l : List Bool} (h : has Γ (srcAt 1 (some ⟨b, o, none⟩) n (boolsC l))) (hi : l[i]? = some x) : has Γ (fun m => cellAt m b (o + i) (.bool x)) := has_v h (by rw [List.getElem?_map, hi]; rfl)
def cntB (l : List Bool) : Nat := l.countP id
theorem cntB_le (l : List Bool) : cntB l ≤ l.length := List.countP_le_length
theorem cntB_set {l : List Bool} {b : Nat} (h : l[b]? = some false) : cntB (l.set b true) = cntB l + 1 := by
  obtain ⟨h1, h2⟩ := List.getElem?_eq_some_iff.1 h
  unfold cntB
  rw [List.countP_set h1, h2]
  simp
/-- Who is seen, is come to; or is closed, or there are so many. -/
structure SeenR (es : List (Int × Int)) (w N : Nat) (bs : List Bool) : Prop where
  len : bs.length = N
  own : bs[w]? = some true
  sound : ∀ v, bs[v]? = some true → Gph.Rc (Gph.El (edsN es)) w v
def closedB (es : List (Int × Int)) (bs : List Bool) : Prop := ∀ x ∈ es, bs[x.1.toNat]? = some true → bs[x.2.toNat]? = some true
theorem SeenR.whole {es : List (Int × Int)} {w N : Nat} {bs : List Bool} (h : SeenR es w N bs) (hc : closedB es bs) (v : Nat) : bs[v]? = some true ↔ Gph.Rc (Gph.El (edsN es)) w v := by
  refine ⟨h.sound v, fun hr => ?_⟩
  refine hr.closed (C := fun z => bs[z]? = some true) (fun a b ha e => ?_) h.own
  obtain ⟨x, hx, hxe⟩ := List.mem_map.1 (show (a, b) ∈ List.map edN es from e)
  unfold edN at hxe
  injection hxe with h1 h2
  have := hc x hx
  rw [h1, h2] at this
  exact this ha
theorem SeenR.set {es : List (Int × Int)} {w N : Nat} {bs : List Bool} (h : SeenR es w N bs) {x : Int × Int} (hx : x ∈ es) (ha : bs[x.1.toNat]? = some true) (hb : x.2.toNat < N) : SeenR es w N (bs.set x.2.toNat true) := by
  refine ⟨by rw [List.length_set]; exact h.len, ?_, fun v hv => ?_⟩
  · rw [List.getElem?_set]
    split
    · rw [if_pos (by rw [h.len]; exact hb)]
    · exact h.own
  · rw [List.getElem?_set] at hv
    split at hv
    · rename_i e
      rw [← e]
      exact (h.sound _ ha).step (List.mem_map.2 ⟨x, hx, rfl⟩)
    · exact h.sound v hv
theorem sub_mid {H : HP} : ∀ {A B Γ : List HP}, (A ++ H :: B).Sublist Γ → ∃ Γ', Γ.Perm (H :: Γ') ∧ (A ++ B).Sublist Γ'
  | [], B, Γ, h => by
    obtain ⟨r1, r2, rfl, hm, hB⟩ := List.cons_sublist_iff.1 h
    obtain ⟨s, t, rfl⟩ := List.append_of_mem hm
    refine ⟨s ++ t ++ r2, ?_, hB.trans (List.sublist_append_right _ _)⟩
    simp only [List.append_assoc, List.cons_append]
    exact List.perm_middle
  | a :: A, B, Γ, h => by
    obtain ⟨r1, r2, rfl, hm, hB⟩ := List.cons_sublist_iff.1 h
    obtain ⟨Γ', hp, hS⟩ := sub_mid hB
    exact ⟨r1 ++ Γ', (List.Perm.append_left r1 hp).trans List.perm_middle, List.cons_sublist_iff.2 ⟨r1, Γ', rfl, hm, hS⟩⟩
theorem boolsC_set (l : List Bool) (i : Nat) (b : Bool) : boolsC (l.set i b) = (boolsC l).set i (.bool b) := List.map_set
theorem SeenR.zero {es : List (Int × Int)} {w N : Nat} (hw : w < N) : SeenR es w N ((List.replicate N false).set w true) where
  len := by simp
  own := List.getElem?_set_self (by simpa using hw)
  sound := fun v hv => by
    rw [List.getElem?_set] at hv
    split at hv
    · rename_i e
      subst e
      exact .refl _
    · rw [List.getElem?_replicate] at hv
      split at hv <;> cases hv
/-- How far a round has come. -/
def RndR (es : List (Int × Int)) (r i : Nat) (bs : List Bool) : Prop := closedB es bs ∨ ((∀ x ∈ es.take i, bs[x.1.toNat]? = some true → bs[x.2.toNat]? = some true) ∧ r + 1 ≤ cntB bs) ∨ r + 2 ≤ cntB bs
theorem RndR.fin {es : List (Int × Int)} {r : Nat} {bs : List Bool} (h : RndR es r es.length bs) : closedB es bs ∨ r + 1 + 1 ≤ cntB bs := by
  rcases h with h | ⟨h, _⟩ | h
  · exact .inl h
  · rw [List.take_length] at h; exact .inl h
  · exact .inr h
theorem RndR.start {es : List (Int × Int)} {r : Nat} {bs : List Bool} (h : closedB es bs ∨ r + 1 ≤ cntB bs) : RndR es r 0 bs := by
  rcases h with h | h
  · exact .inl h
  · exact .inr (.inl ⟨(fun x hx => by cases hx), h⟩)
theorem RndR.next {es : List (Int × Int)} {r i : Nat} {bs : List Bool} {x : Int × Int} (h : RndR es r i bs) (hx : es[i]? = some x) (h0 : bs[x.1.toNat]? = some true → bs[x.2.toNat]? = some true) : RndR es r (i + 1) bs := by
  rcases h with h | ⟨h, h2⟩ | h
  · exact .inl h
  · refine .inr (.inl ⟨fun y hy => ?_, h2⟩)
    rw [take_next hx] at hy
    rcases List.mem_append.1 hy with hy | hy
    · exact h y hy
    · rw [List.mem_singleton.1 hy]; exact h0
  · exact .inr (.inr h)
theorem RndR.mark {es : List (Int × Int)} {r i : Nat} {bs : List Bool} {x : Int × Int} (h : RndR es r i bs) (hx : es[i]? = some x) (h0 : bs[x.1.toNat]? = some true) (hl : x.2.toNat < bs.length) : RndR es r (i + 1) (bs.set x.2.toNat true) := by
  cases hb : bs[x.2.toNat]'hl with
  | true =>
    have hb' : bs[x.2.toNat]? = some true := by rw [List.getElem?_eq_getElem hl, hb]
    have : bs.set x.2.toNat true = bs := by rw [← hb]; exact List.set_getElem_self hl
    rw [this]
    exact h.next hx fun _ => hb'
  | false =>
    have hb' : bs[x.2.toNat]? = some false := by rw [List.getElem?_eq_getElem hl, hb]
    refine .inr (.inr ?_)
    rw [cntB_set hb']
    rcases h with h | ⟨_, h⟩ | h
    · have := h x (List.mem_of_getElem? hx) h0
      rw [hb'] at this
      cases this
    · omega
    · omega
set_option maxRecDepth 100000 in
set_option maxHeartbeats 8000000 in
theorem graphMore_t (n : Int) (A : Option Addr) (c : Nat) (es : List (Int × Int)) (ka kb : Nat) (Γ : List HP) (hs : has Γ (srcAt 2 A es.length (es.flatMap prC))) (hka : ka ≤ 255) (hkb : kb ≤ 255) :
    FnV Try.prog 10 [.int .i64 n, .slice A es.length c, .int .u8 (ka : Int), .int .u8 (kb : Int)] Γ fun v Γ' => v = .bool true ∧ Γ' = Γ := by
  refine Fn.enter Try.func10 rfl rfl rfl fun E => ?_
  have wk : ∀ Γ1 : List HP, Γ.Sublist Γ1 → Γ.Sublist Γ1 := fun _ h => h
  refine m_run ?_
  (apply TL.callV; exact rfl; exact callB_of (by kernel_rfl); exact rfl; exact fun _ h => h)
  exact few_t n A c es _
  rintro _ Γ ⟨rfl, rfl⟩
  cases hf : (decide (n ≤ 60) && decide (es.length ≤ 300)) with
  | false =>
    refine m_run ?_
    (apply TL.callV; exact rfl; exact callB_of (by kernel_rfl); exact rfl; exact fun _ h => h)
    exact works9_t _
    rintro _ Γ1 ⟨rfl, hs1⟩
    refine m_run ?_
    (apply TK.retS1; exact rfl; exact rfl; (exact m_val))
    exact ⟨_, rfl, rfl, rfl⟩
    exact hs1
  | true =>
  refine m_run ?_
  (apply TL.callV; exact rfl; exact callB_of (by kernel_rfl); exact rfl; exact fun _ h => h)
  exact right_t n A c es _ hs
  rintro _ Γ ⟨rfl, rfl⟩
  cases hR : rightB n es with
  | false =>
    refine m_run ?_
    (apply TL.callV; exact rfl; exact callB_of (by kernel_rfl); exact rfl; exact fun _ h => h)
    exact works9_t _
    rintro _ Γ1 ⟨rfl, hs1⟩
    refine m_run ?_
    (apply TK.retS1; exact rfl; exact rfl; (exact m_val))
    exact ⟨_, rfl, rfl, rfl⟩
    exact hs1
  | true =>
  obtain ⟨hn0, hn1, hel, hes⟩ := right_facts hR
  by_cases hz : n < 1
  · refine m_run ?_
    (apply TL.callV; exact rfl; exact callB_of (by kernel_rfl); exact rfl; exact fun _ h => h)
    exact works9_t _
    rintro _ Γ1 ⟨rfl, hs1⟩
    refine m_run ?_
    (apply TK.retS1; exact rfl; exact rfl; (exact m_val))
    exact ⟨_, rfl, rfl, rfl⟩
    exact hs1
  obtain ⟨N, rfl⟩ : ∃ N : Nat, n = (N : Int) := ⟨n.toNat, by omega⟩
  have hNp : 0 < N := by omega
  obtain ⟨fu, hfu⟩ : ∃ fu, fu = ka % N := ⟨_, rfl⟩
  obtain ⟨tw, htw⟩ : ∃ tw, tw = kb % N := ⟨_, rfl⟩
  have hfN : fu < N := by rw [hfu]; exact Nat.mod_lt _ hNp
  have htN : tw < N := by rw [htw]; exact Nat.mod_lt _ hNp
  refine m_run ?_
  refine TL.know (t := 41) (v := .int .i64 (ka : Int)) (congrArg (Value.int .i64) (i64_in (by omega) (by omega))) ?_
  refine m_run ?_
  (apply TL.pv; exact rfl; (apply PV.remN (n := ka) (m := N); exact rfl; exact rfl; exact rfl; exact (by omega)))
  rw [← hfu]
  refine m_run ?_
  refine TL.know (t := 45) (v := .int .i64 (kb : Int)) (congrArg (Value.int .i64) (i64_in (by omega) (by omega))) ?_
  refine m_run ?_
  (apply TL.pv; exact rfl; (apply PV.remN (n := kb) (m := N); exact rfl; exact rfl; exact rfl; exact (by omega)))
  rw [← htw]
  have hp1 : pErr (N : Int) es = 0 := pErr_zero hn0 hn1 (by omega) hes
  have hxE : ∀ x ∈ [((fu : Int), (tw : Int))], 0 ≤ x.1 ∧ x.1 < (N : Int) ∧ 0 ≤ x.2 ∧ x.2 < (N : Int) := fun x hx => by
    rw [List.mem_singleton.1 hx]
    exact ⟨by simp, by simp; omega, by simp, by simp; omega⟩
  have hes1 : ∀ x ∈ es ++ [((fu : Int), (tw : Int))], 0 ≤ x.1 ∧ x.1 < (N : Int) ∧ 0 ≤ x.2 ∧ x.2 < (N : Int) := fun x hx => (List.mem_append.1 hx).elim (hes x) (hxE x)
  have hes2 : ∀ x ∈ es ++ [((fu : Int), (tw : Int))] ++ [((fu : Int), (tw : Int))], 0 ≤ x.1 ∧ x.1 < (N : Int) ∧ 0 ≤ x.2 ∧ x.2 < (N : Int) := fun x hx => (List.mem_append.1 hx).elim (hes1 x) (hxE x)
  have hp2 : pErr (N : Int) (es ++ [((fu : Int), (tw : Int))]) = 0 := pErr_zero hn0 hn1 (by simp; omega) hes1
  have hp3 : pErr (N : Int) (es ++ [((fu : Int), (tw : Int))] ++ [((fu : Int), (tw : Int))]) = 0 := pErr_zero hn0 hn1 (by simp; omega) hes2
  refine m_run ?_
  (apply TL.callV; exact rfl; exact callB_of (by kernel_rfl); exact rfl; exact fun _ h => h)
  exact partsG_t N A c es _ hs (by omega)
  rintro _ Γ1 ⟨QL, ql, L, rfl, hRL, hs1, _, hPL⟩
  replace hPL := hPL hp1
  rw [Int.toNat_natCast] at hPL
  rw [hp1]
  refine m_run ?_
  (apply TL.buildSlice (l := []); exact rfl; exact tb rfl; exact rfl; exact tb rfl; exact rfl; exact rfl; exact rfl; exact rfl; exact rfl)
  intro b54
  refine m_run ?_
  (apply TL.append 0 (n := 0) (m := es.length) (cs := []) (news := es.flatMap prC); exact rfl; exact rfl; exact tb rfl; exact rfl; exact tb rfl; exact rfl; exact rfl; exact rfl)
  · exact fun _ h => own_row (n := 0) rfl (by decide) h
  · exact rfl
  · exact has_tls (has_sublist (up_src _ _ _ _) hs1 hs)
  · exact fun u hu => by
      obtain ⟨y, _, hy⟩ := List.mem_flatMap.1 hu
      rcases List.mem_cons.1 hy with rfl | hy
      · rfl
      · rw [List.mem_singleton.1 hy]; rfl
  · show (0 + es.length) * 16 ≤ _; omega
  · show 0 + es.length ≤ maxLen; unfold maxLen; omega
  · exact fun _ => (rfl : _ = _ :: _)
  intro B5 k5 hk5
  simp only [Nat.zero_add, List.nil_append] at hk5 ⊢
  refine m_run ?_
  (apply TL.pv; exact rfl; (apply PV.buildArr; exact tb rfl; exact rfl; exact tb rfl; exact rfl; exact rfl; exact (rfl : _ = prC ((fu : Int), (tw : Int)))))
  (apply TL.buildSlice (l := [((fu : Int), (tw : Int))].flatMap prC); exact rfl; exact tb rfl; exact rfl; exact tb rfl; exact rfl; exact rfl; exact rfl; exact rfl; exact rfl)
  intro b60
  refine m_run ?_
  (apply TL.append 1 (n := es.length) (m := 1) (cs := es.flatMap prC) (news := [((fu : Int), (tw : Int))].flatMap prC); exact rfl; exact rfl; exact tb rfl; exact rfl; exact tb rfl; exact rfl; exact rfl; exact rfl)
  · exact fun _ h => h
  · exact rfl
  · exact has_src_row 0 rfl rfl
  · exact fun u hu => by
      rcases List.mem_cons.1 hu with rfl | hu
      · rfl
      · rw [List.mem_singleton.1 hu]; rfl
  · show (es.length + 1) * 16 ≤ _; omega
  · show es.length + 1 ≤ maxLen; unfold maxLen; omega
  · exact fun _ => (rfl : _ = _ :: _ :: _)
  intro B6 k6 hkk6
  rw [show es.flatMap prC ++ [((fu : Int), (tw : Int))].flatMap prC = (es ++ [((fu : Int), (tw : Int))]).flatMap prC by rw [List.flatMap_append], show es.length + 1 = (es ++ [((fu : Int), (tw : Int))]).length by simp]
  obtain ⟨l1, hl1⟩ : ∃ l1, l1 = (es ++ [((fu : Int), (tw : Int))]).length := ⟨_, rfl⟩
  have hl1' : l1 = es.length + 1 := by rw [hl1]; simp
  rw [← hl1]
  have hc2 := partsX_t N B6 k6 (es ++ [((fu : Int), (tw : Int))]) (row b60 ([((fu : Int), (tw : Int))].flatMap prC) 52 :: own 52 2 (.slice B6 l1 k6) l1 ((es ++ [((fu : Int), (tw : Int))]).flatMap prC) :: Γ1) (by rw [← hl1]; exact has_at (up_src _ _ _ _) 1 rfl fun _ h => own_src h) (by simp; omega)
  rw [← hl1] at hc2
  refine m_run ?_
  (apply TL.callV; exact rfl; exact callB_of (by kernel_rfl); exact rfl; exact fun _ h => h)
  exact hc2
  rintro _ Γ2x ⟨QM, qm, M, rowsM, rfl, hmM, hs2x, _, hPM⟩
  replace hPM := hPM hp2
  rw [Int.toNat_natCast] at hPM
  rw [hp2]
  obtain ⟨Γ2, hpm, hs2⟩ := sub_mid (A := [own 54 1 (.slice QM M.length qm) M.length (M.map Rw.v), alls (Rw.h 3) rowsM, row b60 ([((fu : Int), (tw : Int))].flatMap prC) 52]) hs2x
  have hRM : Rows QM M Γ2 := Rows.sub ⟨has_at (Γ := [own 54 1 (.slice QM M.length qm) M.length (M.map Rw.v), alls (Rw.h 3) rowsM, row b60 ([((fu : Int), (tw : Int))].flatMap prC) 52] ++ Γ1) (up_src _ _ _ _) 0 rfl fun _ h => own_src h, fun r hr => by
    obtain ⟨q, hq⟩ := List.getElem?_of_mem (hmM r hr)
    exact has_allsW (Γ := [own 54 1 (.slice QM M.length qm) M.length (M.map Rw.v), alls (Rw.h 3) rowsM, row b60 ([((fu : Int), (tw : Int))].flatMap prC) 52] ++ Γ1) (k := 1) (up_src _ _ _ _) rfl hq fun _ h => own_src h⟩ hs2
  have hs12 : Γ1.Sublist Γ2 := (List.Sublist.cons _ (.cons _ (.cons _ (.refl _)))).trans hs2
  clear hs2 hs2x hmM
  refine TL.perm hpm ?_
  clear hpm
  refine m_run ?_
  (apply TL.pv; exact rfl; (apply PV.buildArr; exact tb rfl; exact rfl; exact tb rfl; exact rfl; exact rfl; exact (rfl : _ = prC ((fu : Int), (tw : Int)))))
  (apply TL.buildSlice (l := [((fu : Int), (tw : Int))].flatMap prC); exact rfl; exact tb rfl; exact rfl; exact tb rfl; exact rfl; exact rfl; exact rfl; exact rfl; exact rfl)
  intro b74
  refine m_run ?_
  (apply TL.append 1 (n := l1) (m := 1) (cs := (es ++ [((fu : Int), (tw : Int))]).flatMap prC) (news := [((fu : Int), (tw : Int))].flatMap prC); exact rfl; exact rfl; exact tb rfl; exact rfl; exact tb rfl; exact rfl; exact rfl; exact rfl)
  · exact fun _ h => h
  · exact rfl
  · exact has_src_row 0 rfl rfl
  · exact fun u hu => by
      rcases List.mem_cons.1 hu with rfl | hu
      · rfl
      · rw [List.mem_singleton.1 hu]; rfl
  · show (l1 + 1) * 16 ≤ _; omega
  · show l1 + 1 ≤ maxLen; unfold maxLen; omega
  · exact fun _ => (rfl : _ = _ :: _ :: _)
  intro B7 k7 hk7
  have hc3 := partsG_t N B7 k7 (es ++ [((fu : Int), (tw : Int))] ++ [((fu : Int), (tw : Int))]) (row b74 ([((fu : Int), (tw : Int))].flatMap prC) 52 :: own 52 2 (.slice B7 (l1 + 1) k7) (l1 + 1) ((es ++ [((fu : Int), (tw : Int))]).flatMap prC ++ [((fu : Int), (tw : Int))].flatMap prC) :: Γ2) (by rw [show (es ++ [((fu : Int), (tw : Int))] ++ [((fu : Int), (tw : Int))]).length = l1 + 1 by rw [List.length_append, hl1]; rfl, show (es ++ [((fu : Int), (tw : Int))] ++ [((fu : Int), (tw : Int))]).flatMap prC = (es ++ [((fu : Int), (tw : Int))]).flatMap prC ++ [((fu : Int), (tw : Int))].flatMap prC by rw [List.flatMap_append]]; exact has_at (up_src _ _ _ _) 1 rfl fun _ h => own_src h) (by simp; omega)
  rw [show (es ++ [((fu : Int), (tw : Int))] ++ [((fu : Int), (tw : Int))]).length = l1 + 1 by rw [List.length_append, hl1]; rfl] at hc3
  refine m_run ?_
  (apply TL.callV; exact rfl; exact callB_of (by kernel_rfl); exact rfl; exact fun _ h => h)
  exact hc3
  rintro _ Γ3 ⟨QT, qt, T, rfl, hRT, hs3, _, hPT⟩
  replace hPT := hPT hp3
  rw [Int.toNat_natCast] at hPT
  rw [hp3]
  have hs23 : Γ2.Sublist Γ3 := (List.Sublist.cons _ (.cons _ (.refl _))).trans hs3
  have hRL3 := hRL.sub (hs12.trans hs23)
  have hRM3 := hRM.sub hs23
  have hS3 := (hs1.trans hs12).trans hs23
  have hsx3 := has_sublist (up_src _ _ _ _) hS3 hs
  have hE1 : Gph.El (edsN (es ++ [((fu : Int), (tw : Int))])) = fun x y => Gph.El (edsN es) x y ∨ (x = fu ∧ y = tw) := by
    funext x y
    apply propext
    show (x, y) ∈ List.map edN (es ++ [((fu : Int), (tw : Int))]) ↔ (x, y) ∈ List.map edN es ∨ _
    rw [List.map_append, List.mem_append, List.map_singleton, List.mem_singleton, show edN ((fu : Int), (tw : Int)) = (fu, tw) from rfl, Prod.mk.injEq]
  have hE2 : Gph.El (edsN (es ++ [((fu : Int), (tw : Int))] ++ [((fu : Int), (tw : Int))])) = fun x y => Gph.El (edsN es) x y ∨ (x = fu ∧ y = tw) := by
    rw [← hE1]
    funext x y
    apply propext
    show (x, y) ∈ List.map edN (es ++ [((fu : Int), (tw : Int))] ++ [((fu : Int), (tw : Int))]) ↔ (x, y) ∈ List.map edN (es ++ [((fu : Int), (tw : Int))])
    rw [List.map_append (l₁ := (es ++ [((fu : Int), (tw : Int))])), List.mem_append]
    exact ⟨fun h => h.elim id fun h => by
      rw [List.map_append, List.mem_append]; exact .inr h, .inl⟩
  rw [hE1] at hPM
  rw [hE2] at hPT
  have hMT : M.map Rw.w = T.map Rw.w := hPM.unique hPT
  have hTl : T.length = M.length := by have := congrArg List.length hMT; simpa using this.symm
  have hup : ∀ v w, Gph.Rc (Gph.El (edsN es)) v w → Gph.Rc (fun x y => Gph.El (edsN es) x y ∨ (x = fu ∧ y = tw)) v w := fun v w h => Gph.rc_mono (fun _ _ h => .inl h) h
  have hMl : M.length ≤ L.length := by have := Gph.more_len hPL hPM hup; simpa using this
  obtain ⟨hLl, hLr⟩ := parts_rows hPL
  obtain ⟨hMl2, hMr⟩ := parts_rows hPM
  obtain ⟨hTl2, hTr⟩ := parts_rows hPT
  clear hc3 hs3 hRL hRM hs1 hs12 hs23 hE1 hE2
  refine m_run ?_
  apply TK.iter (fun j ρ' Γ' => ∃ (i : Nat) (Γ4 : List HP), i + j = N ∧ Γ3.Sublist Γ4 ∧ lk ρ' 0 = .int .i64 (N : Int) ∧ lk ρ' 1 = .slice A es.length c ∧ lk ρ' 9 = .int .i64 (fu : Int) ∧ lk ρ' 10 = .int .i64 (tw : Int) ∧ lk ρ' 11 = .slice QL L.length ql ∧ lk ρ' 14 = .slice QM M.length qm ∧ lk ρ' 16 = .slice QT T.length qt ∧ lk ρ' 18 = .int .i64 (i : Int) ∧ Γ' = Γ4) N
  · exact ⟨0, Γ3, Nat.zero_add _, .refl _, rfl, rfl, rfl, rfl, rfl, rfl, rfl, rfl, rfl⟩
  rintro j IH ρ' Γ4 ⟨i, _, hij, hs4, e0, e1, e9, e10, e11, e14, e16, e18, rfl⟩
  refine TK.know8 e0 e1 e9 e10 e11 e14 e16 e18 ?_
  by_cases hi : i < N
  · refine m_run ?_
    apply TK.iter (fun j2 ρ' Γ' => ∃ (k : Nat) (Γ5 : List HP), k + j2 = N ∧ Γ3.Sublist Γ5 ∧ lk ρ' 0 = .int .i64 (N : Int) ∧ lk ρ' 1 = .slice A es.length c ∧ lk ρ' 9 = .int .i64 (fu : Int) ∧ lk ρ' 10 = .int .i64 (tw : Int) ∧ lk ρ' 11 = .slice QL L.length ql ∧ lk ρ' 14 = .slice QM M.length qm ∧ lk ρ' 16 = .slice QT T.length qt ∧ lk ρ' 18 = .int .i64 (i : Int) ∧ lk ρ' 19 = .int .i64 (k : Int) ∧ Γ' = Γ5) N
    · exact ⟨0, _, Nat.zero_add _, hs4, rfl, rfl, rfl, rfl, rfl, rfl, rfl, rfl, rfl, rfl⟩
    clear e0 e1 e9 e10 e11 e14 e16 e18 hs4
    rintro j2 IH2 ρ' _ ⟨k, Γ5, hkj, hs5, e0, e1, e9, e10, e11, e14, e16, e18, e19, rfl⟩
    refine TK.know9 e0 e1 e9 e10 e11 e14 e16 e18 e19 ?_
    by_cases hk : k < N
    · have hL5 := hRL3.sub hs5
      have hM5 := hRM3.sub hs5
      have hT5 := hRT.sub hs5
      have hLM : Gph.pix (L.map Rw.w) i = Gph.pix (L.map Rw.w) k → Gph.pix (M.map Rw.w) i = Gph.pix (M.map Rw.w) k := fun h => by
        obtain ⟨h1, h2⟩ := (hPL.pix_same hi hk).1 h
        exact (hPM.pix_same hi hk).2 ⟨hup _ _ h1, hup _ _ h2⟩
      refine m_run ?_
      (apply TL.callV; exact rfl; exact callB_of (by kernel_rfl); exact rfl; exact fun _ h => h)
      exact part_t QL ql L (i : Int) _ hL5 (by omega) (fun r hr => by have := (hLr r hr).1; omega)
      rintro _ Γ5 ⟨⟨k1, rfl, hk1⟩, rfl⟩
      have hk2 := part_pix hPL hi hk1
      subst hk2
      clear hk1
      refine m_run ?_
      (apply TL.callV; exact rfl; exact callB_of (by kernel_rfl); exact rfl; exact fun _ h => h)
      exact part_t QL ql L (k : Int) _ hL5 (by omega) (fun r hr => by have := (hLr r hr).1; omega)
      rintro _ Γ5 ⟨⟨k1, rfl, hk1⟩, rfl⟩
      have hk2 := part_pix hPL hk hk1
      subst hk2
      clear hk1
      refine m_run ?_
      (apply TL.callV; exact rfl; exact callB_of (by kernel_rfl); exact rfl; exact fun _ h => h)
      exact part_t QM qm M (i : Int) _ hM5 (by omega) (fun r hr => by have := (hMr r hr).1; omega)
      rintro _ Γ5 ⟨⟨k1, rfl, hk1⟩, rfl⟩
      have hk2 := part_pix hPM hi hk1
      subst hk2
      clear hk1
      refine m_run ?_
      (apply TL.callV; exact rfl; exact callB_of (by kernel_rfl); exact rfl; exact fun _ h => h)
      exact part_t QM qm M (k : Int) _ hM5 (by omega) (fun r hr => by have := (hMr r hr).1; omega)
      rintro _ Γ5 ⟨⟨k1, rfl, hk1⟩, rfl⟩
      have hk2 := part_pix hPM hk hk1
      subst hk2
      clear hk1
      obtain ⟨a1, ha1⟩ : ∃ a, a = Gph.pix (L.map Rw.w) i := ⟨_, rfl⟩
      obtain ⟨a2, ha2⟩ : ∃ a, a = Gph.pix (L.map Rw.w) k := ⟨_, rfl⟩
      obtain ⟨b1, hb1⟩ : ∃ a, a = Gph.pix (M.map Rw.w) i := ⟨_, rfl⟩
      obtain ⟨b2, hb2⟩ : ∃ a, a = Gph.pix (M.map Rw.w) k := ⟨_, rfl⟩
      simp only [← ha1, ← ha2, ← hb1, ← hb2] at hLM ⊢
      by_cases h1 : a1 = a2
      · have h2 := hLM h1
        subst h1
        subst h2
        refine m_run ?_
        (apply TL.callV; exact rfl; exact callB_of (by kernel_rfl); exact rfl; exact fun _ h => h)
        exact part_t QT qt T (i : Int) _ hT5 (by omega) (fun r hr => by have := (hTr r hr).1; omega)
        rintro _ Γ5 ⟨⟨k1, rfl, hk1⟩, rfl⟩
        have hk2 := part_pix hPT hi hk1
        subst hk2
        clear hk1
        rw [← hMT, ← hb1]
        refine m_run ?_
        (apply TL.callV; exact rfl; exact callB_of (by kernel_rfl); exact rfl; exact fun _ h => h)
        exact part_t QT qt T (k : Int) _ hT5 (by omega) (fun r hr => by have := (hTr r hr).1; omega)
        rintro _ Γ5 ⟨⟨k1, rfl, hk1⟩, rfl⟩
        have hk2 := part_pix hPT hk hk1
        subst hk2
        clear hk1
        rw [← hMT, ← hb2]
        refine m_run ?_
        exact IH2 (j2 - 1) _ _ (by omega) ⟨k + 1, _, by omega, hs5, rfl, rfl, rfl, rfl, rfl, rfl, rfl, rfl, congrArg (Value.int .i64) (i64_succ k (by omega)), rfl⟩
      · by_cases h2 : b1 = b2
        · subst h2
          refine m_run ?_
          (apply TL.callV; exact rfl; exact callB_of (by kernel_rfl); exact rfl; exact fun _ h => h)
          exact part_t QT qt T (i : Int) _ hT5 (by omega) (fun r hr => by have := (hTr r hr).1; omega)
          rintro _ Γ5 ⟨⟨k1, rfl, hk1⟩, rfl⟩
          have hk2 := part_pix hPT hi hk1
          subst hk2
          clear hk1
          rw [← hMT, ← hb1]
          refine m_run ?_
          (apply TL.callV; exact rfl; exact callB_of (by kernel_rfl); exact rfl; exact fun _ h => h)
          exact part_t QT qt T (k : Int) _ hT5 (by omega) (fun r hr => by have := (hTr r hr).1; omega)
          rintro _ Γ5 ⟨⟨k1, rfl, hk1⟩, rfl⟩
          have hk2 := part_pix hPT hk hk1
          subst hk2
          clear hk1
          rw [← hMT, ← hb2]
          refine m_run ?_
          exact IH2 (j2 - 1) _ _ (by omega) ⟨k + 1, _, by omega, hs5, rfl, rfl, rfl, rfl, rfl, rfl, rfl, rfl, congrArg (Value.int .i64) (i64_succ k (by omega)), rfl⟩
        · refine m_run ?_
          (apply TL.callV; exact rfl; exact callB_of (by kernel_rfl); exact rfl; exact fun _ h => h)
          exact part_t QT qt T (i : Int) _ hT5 (by omega) (fun r hr => by have := (hTr r hr).1; omega)
          rintro _ Γ5 ⟨⟨k1, rfl, hk1⟩, rfl⟩
          have hk2 := part_pix hPT hi hk1
          subst hk2
          clear hk1
          rw [← hMT, ← hb1]
          refine m_run ?_
          (apply TL.callV; exact rfl; exact callB_of (by kernel_rfl); exact rfl; exact fun _ h => h)
          exact part_t QT qt T (k : Int) _ hT5 (by omega) (fun r hr => by have := (hTr r hr).1; omega)
          rintro _ Γ5 ⟨⟨k1, rfl, hk1⟩, rfl⟩
          have hk2 := part_pix hPT hk hk1
          subst hk2
          clear hk1
          rw [← hMT, ← hb2]
          refine m_run ?_
          exact IH2 (j2 - 1) _ _ (by omega) ⟨k + 1, _, by omega, hs5, rfl, rfl, rfl, rfl, rfl, rfl, rfl, rfl, congrArg (Value.int .i64) (i64_succ k (by omega)), rfl⟩
    obtain rfl : k = N := by omega
    refine m_run ?_
    exact IH (j - 1) _ _ (by omega) ⟨i + 1, _, by omega, hs5, rfl, rfl, rfl, rfl, rfl, rfl, rfl, congrArg (Value.int .i64) (i64_succ i (by omega)), rfl⟩
  clear IH
  have hM4 := hRM3.sub hs4
  have hsx4 := has_sublist (up_src _ _ _ _) hs4 hsx3
  have hS4 := hS3.trans hs4
  refine m_run ?_
  (apply TL.makeN (n := N) (c := N); exact rfl; exact rfl; exact rfl; exact tb rfl; exact rfl; exact tb rfl; exact rfl; exact rfl; exact Nat.le_refl _; exact (show 1 * N ≤ _ by omega); exact (show N ≤ maxLen by unfold maxLen; omega))
  intro wB
  rw [show List.replicate N (Value.bool false) = boolsC (List.replicate N false) from (List.map_replicate (f := Value.bool)).symm]
  refine m_run ?_
  (apply TL.storeOwn 0 tw; exact rfl; exact rfl; (exact m_val); exact rfl; exact tb rfl; exact rfl; exact (Nat.zero_add _).symm; exact htN)
  rw [← boolsC_set]
  clear e0 e1 e9 e10 e11 e14 e16 e18
  refine m_run ?_
  apply TK.iter (fun j ρ' Γ' => ∃ (r : Nat) (bs : List Bool), r + j = N ∧ SeenR es tw N bs ∧ (closedB es bs ∨ r + 1 ≤ cntB bs) ∧ lk ρ' 0 = .int .i64 (N : Int) ∧ lk ρ' 1 = .slice A es.length c ∧ lk ρ' 9 = .int .i64 (fu : Int) ∧ lk ρ' 10 = .int .i64 (tw : Int) ∧ lk ρ' 14 = .slice QM M.length qm ∧ lk ρ' 22 = .slice (some ⟨wB, 0, none⟩) N N ∧ lk ρ' 23 = .int .i64 (r : Int) ∧ Γ' = own 4 1 (.slice (some ⟨wB, 0, none⟩) N N) N (boolsC bs) :: Γ4) N
  · exact ⟨0, _, Nat.zero_add _, SeenR.zero htN, .inr (by rw [cntB_set (by rw [List.getElem?_replicate, if_pos htN])]; omega), rfl, rfl, rfl, rfl, rfl, rfl, rfl, rfl⟩
  rintro j IH ρ' _ ⟨r, bs, hrj, hSR, hcl, e0, e1, e9, e10, e14, e22, e23, rfl⟩
  refine TK.know7 e0 e1 e9 e10 e14 e22 e23 ?_
  by_cases hr : r < N
  · refine m_run ?_
    apply TK.iter (fun j2 ρ' Γ' => ∃ (i : Nat) (bs : List Bool), i + j2 = es.length ∧ SeenR es tw N bs ∧ RndR es r i bs ∧ lk ρ' 0 = .int .i64 (N : Int) ∧ lk ρ' 1 = .slice A es.length c ∧ lk ρ' 9 = .int .i64 (fu : Int) ∧ lk ρ' 10 = .int .i64 (tw : Int) ∧ lk ρ' 14 = .slice QM M.length qm ∧ lk ρ' 22 = .slice (some ⟨wB, 0, none⟩) N N ∧ lk ρ' 23 = .int .i64 (r : Int) ∧ lk ρ' 24 = .int .i64 (i : Int) ∧ Γ' = own 4 1 (.slice (some ⟨wB, 0, none⟩) N N) N (boolsC bs) :: Γ4) es.length
    · exact ⟨0, bs, Nat.zero_add _, hSR, .start hcl, rfl, rfl, rfl, rfl, rfl, rfl, rfl, rfl, rfl⟩
    clear e0 e1 e9 e10 e14 e22 e23 hSR hcl bs
    rintro j2 IH2 ρ' _ ⟨i, bs, hij2, hSR, hRd, e0, e1, e9, e10, e14, e22, e23, e24, rfl⟩
    refine TK.know8 e0 e1 e9 e10 e14 e22 e23 e24 ?_
    by_cases hie : i < es.length
    · obtain ⟨x, hx⟩ : ∃ x, es[i]? = some x := ⟨es[i], List.getElem?_eq_getElem hie⟩
      have hxm := List.mem_of_getElem? hx
      have hxb := hes x hxm
      obtain ⟨x1, x2⟩ := x
      simp only at hxb
      obtain ⟨a, rfl⟩ : ∃ a : Nat, x1 = (a : Int) := ⟨x1.toNat, by omega⟩
      obtain ⟨b, rfl⟩ : ∃ b : Nat, x2 = (b : Int) := ⟨x2.toNat, by omega⟩
      have haN : a < N := by omega
      have hbN : b < N := by omega
      have hsx5 : has (own 4 1 (.slice (some ⟨wB, 0, none⟩) N N) N (boolsC bs) :: Γ4) (srcAt 2 A es.length (es.flatMap prC)) := has_tls hsx4
      refine TK.mem fun m0 hm0 => ?_
      obtain ⟨g, u, rfl⟩ := edge_some hsx5 hm0 (by omega)
      clear hm0 m0
      obtain ⟨c1, c2⟩ := edge_cells hsx5 rfl hx
      dsimp only at c1 c2
      have hbo : has (own 4 1 (.slice (some ⟨wB, 0, none⟩) N N) N (boolsC bs) :: Γ4) (srcAt 1 (some ⟨wB, 0, none⟩) N (boolsC bs)) := has_at (up_src _ _ _ _) 0 rfl fun _ h => own_src h
      obtain ⟨v, hv⟩ : ∃ v, bs[a]? = some v := ⟨bs[a]'(by rw [hSR.len]; exact haN), List.getElem?_eq_getElem _⟩
      have hcv := has_bool hbo hv
      rw [Nat.zero_add] at hcv
      cases v with
      | true =>
        refine m_run ?_
        (apply TL.storeOwn 0 b; exact rfl; exact rfl; (exact m_val); exact rfl; exact tb rfl; exact rfl; exact (Nat.zero_add _).symm; exact hbN)
        rw [← boolsC_set]
        refine m_run ?_
        exact IH2 (j2 - 1) _ _ (by omega) ⟨i + 1, bs.set b true, by omega, hSR.set hxm hv hbN, hRd.mark hx hv (by rw [hSR.len]; exact hbN), rfl, rfl, rfl, rfl, rfl, rfl, rfl, congrArg (Value.int .i64) (i64_succ i (by omega)), rfl⟩
      | false =>
        refine m_run ?_
        exact IH2 (j2 - 1) _ _ (by omega) ⟨i + 1, bs, by omega, hSR, hRd.next hx (fun h => by
          rw [show bs[((a : Int), (b : Int)).1.toNat]? = some false from hv] at h; cases h), rfl, rfl, rfl, rfl, rfl, rfl, rfl, congrArg (Value.int .i64) (i64_succ i (by omega)), rfl⟩
    obtain rfl : i = es.length := by omega
    refine m_run ?_
    exact IH (j - 1) _ _ (by omega) ⟨r + 1, bs, by omega, hSR, hRd.fin, rfl, rfl, rfl, rfl, rfl, rfl, congrArg (Value.int .i64) (i64_succ r (by omega)), rfl⟩
  clear IH
  have hclo : closedB es bs := hcl.elim id fun h => by
    have := cntB_le bs
    rw [hSR.len] at this
    omega
  have hfin : Gph.pix (M.map Rw.w) fu = Gph.pix (M.map Rw.w) tw ↔ bs[fu]? = some true := by
    rw [hPM.pix_same hfN htN, hSR.whole hclo]
    refine ⟨fun h => ?_, fun h => ⟨hup _ _ h, .one (.inr ⟨rfl, rfl⟩)⟩⟩
    exact (Gph.rc_back h.1).elim id id
  have hM5 : Rows QM M (own 4 1 (.slice (some ⟨wB, 0, none⟩) N N) N (boolsC bs) :: Γ4) := hM4.tl
  have hbo : has (own 4 1 (.slice (some ⟨wB, 0, none⟩) N N) N (boolsC bs) :: Γ4) (srcAt 1 (some ⟨wB, 0, none⟩) N (boolsC bs)) := has_at (up_src _ _ _ _) 0 rfl fun _ h => own_src h
  have hS5 : Γ.Sublist (own 4 1 (.slice (some ⟨wB, 0, none⟩) N N) N (boolsC bs) :: Γ4) := .cons _ hS4
  obtain ⟨v, hv⟩ : ∃ v, bs[fu]? = some v := ⟨bs[fu]'(by rw [hSR.len]; exact hfN), List.getElem?_eq_getElem _⟩
  have hcv := has_bool hbo hv
  rw [Nat.zero_add] at hcv
  generalize own 4 1 (.slice (some ⟨wB, 0, none⟩) N N) N (boolsC bs) :: Γ4 = Γ5 at *
  refine m_run ?_
  refine TK.drawS mixed rfl ?_
  refine m_take (At.mk : At 0) ?_; refine m_take (At.mk : At 1) ?_; refine m_take (At.mk : At 3) ?_; refine m_take (At.mk : At 4) ?_; refine m_take (At.mk : At 7) ?_; refine m_take (At.mk : At 8) ?_; refine m_take (At.mk : At 9) ?_; refine m_take (At.mk : At 10) ?_
  (apply TA.one 2; kernel_rfl; exact rfl)
  (apply TL.callV; exact rfl; exact callB_of (by kernel_rfl); exact rfl; exact fun _ h => h)
  exact part_t QM qm M (fu : Int) _ hM5 (by omega) (fun r hr => by have := (hMr r hr).1; omega)
  rintro _ Γ5 ⟨⟨k1, rfl, hk1⟩, rfl⟩
  have hk2 := part_pix hPM hfN hk1
  subst hk2
  clear hk1
  refine TL.back (by (focus ((repeat (first | assumption | exact Ent.refl _ | apply Ent.tail)); done))) ?_
  (apply TA.one 5; kernel_rfl; exact rfl)
  (apply TL.callV; exact rfl; exact callB_of (by kernel_rfl); exact rfl; exact fun _ h => h)
  exact part_t QM qm M (tw : Int) _ hM5 (by omega) (fun r hr => by have := (hMr r hr).1; omega)
  rintro _ Γ5 ⟨⟨k1, rfl, hk1⟩, rfl⟩
  have hk2 := part_pix hPM htN hk1
  subst hk2
  clear hk1
  refine TL.back (by (focus ((repeat (first | assumption | exact Ent.refl _ | apply Ent.tail)); done))) ?_
  refine m_take (At.mk : At 6) ?_
  refine TA.know (t := 180) (v := .bool v) (congrArg Value.bool ?_) ?_
  · cases v with
    | true => exact decide_eq_true (congrArg Int.ofNat (hfin.2 hv))
    | false =>
      refine decide_eq_false fun h => ?_
      have := hfin.1 (Int.ofNat.inj h)
      rw [hv] at this
      cases this
  refine m_take (At.mk : At 11) ?_
  refine TA.know (t := 185) (v := .bool true) (congrArg Value.bool ?_) ?_
  · exact decide_eq_true rfl
  refine m_take (At.mk : At 12) ?_
  (apply TA.one 13; kernel_rfl; exact rfl)
  refine TL.guard_yes rfl rfl rfl rfl ?_
  (apply TL.callV; exact rfl; exact callB_of (by kernel_rfl); exact rfl; exact fun _ h => h)
  exact works9_t _
  rintro _ Γ6 ⟨rfl, hs6⟩
  refine TL.sub (Δ := Γ5) hs6 ?_
  refine TL.back (by (focus ((repeat (first | assumption | exact Ent.refl _ | apply Ent.tail)); done))) ?_
  refine m_take (At.mk : At 14) ?_; refine m_take (At.mk : At 15) ?_
  refine TA.done (by kernel_rfl) ?_
  refine m_run ?_
  (apply TK.retS1; exact rfl; exact rfl; (exact m_val))
  exact ⟨_, rfl, rfl, rfl⟩
  exact hS5
end Go.Proofs.Ytndmjpceocecdaa.E

/- Who is come to, as the document looks for it: walked. -/
namespace Go.Proofs.Ytndmjpceocecdaa.E
open Go Go.RowKit Go.Proofs
attribute [local irreducible] TK TL TQ TA TB Fn PV
set_option maxRecDepth 100000 in
set_option maxHeartbeats 4000000 in
theorem comes_t (N : Nat) (A : Option Addr) (c : Nat) (es : List (Int × Int)) (w : Nat) (Γ : List HP) (hs : has Γ (srcAt 2 A es.length (es.flatMap prC))) (hN : N ≤ 100000) (hw : w < N) (hel : es.length ≤ 100000) (hes : ∀ x ∈ es, 0 ≤ x.1 ∧ x.1 < (N : Int) ∧ 0 ≤ x.2 ∧ x.2 < (N : Int)) :
    FnV Try.prog 29 [.int .i64 (N : Int), .slice A es.length c, .int .i64 (w : Int)] Γ
      fun v Γ' => ∃ (wB : Nat) (bs : List Bool), v = .slice (some ⟨wB, 0, none⟩) N N ∧ bs.length = N ∧ (∀ u, bs[u]? = some true ↔ Gph.Rc (Gph.El (edsN es)) w u) ∧ Γ' = own 4 1 (.slice (some ⟨wB, 0, none⟩) N N) N (boolsC bs) :: Γ := by
  refine Fn.enter Try.func29 rfl rfl rfl fun E => ?_
  refine m_run ?_
  (apply TL.makeN (n := N) (c := N); exact rfl; exact rfl; exact rfl; exact tb rfl; exact rfl; exact tb rfl; exact rfl; exact rfl; exact Nat.le_refl _; exact (show 1 * N ≤ _ by omega); exact (show N ≤ maxLen by unfold maxLen; omega))
  intro wB
  rw [show List.replicate N (Value.bool false) = boolsC (List.replicate N false) from (List.map_replicate (f := Value.bool)).symm]
  refine m_run ?_
  (apply TL.storeOwn 0 w; exact rfl; exact rfl; (exact m_val); exact rfl; exact tb rfl; exact rfl; exact (Nat.zero_add _).symm; exact hw)
  rw [← boolsC_set]
  refine m_run ?_
  apply TK.iter (fun j ρ' Γ' => ∃ (more : Bool) (bs : List Bool), SeenR es w N bs ∧ (more = false → closedB es bs) ∧ (more = true → N + 1 ≤ j + cntB bs) ∧ lk ρ' 1 = .slice A es.length c ∧ lk ρ' 7 = .slice (some ⟨wB, 0, none⟩) N N ∧ lk ρ' 8 = .bool more ∧ Γ' = own 4 1 (.slice (some ⟨wB, 0, none⟩) N N) N (boolsC bs) :: Γ) N
  · exact ⟨true, _, SeenR.zero hw, (fun h => by cases h), (fun _ => by rw [cntB_set (by rw [List.getElem?_replicate, if_pos hw])]; omega), rfl, rfl, rfl, rfl⟩
  rintro j IH ρ' _ ⟨more, bs, hSR, hcl, hct, e1, e7, e8, rfl⟩
  refine TK.know3 e1 e7 e8 ?_
  have hle := cntB_le bs
  rw [hSR.len] at hle
  cases more with
  | false =>
    refine m_run ?_
    (apply TK.retS1; exact rfl; exact rfl; (exact m_val))
    exact ⟨_, rfl, wB, bs, rfl, hSR.len, fun u => hSR.whole (hcl rfl) u, rfl⟩
    exact List.Sublist.refl _
  | true =>
    have hct := hct rfl
    refine m_run ?_
    apply TK.iter (fun j2 ρ' Γ' => ∃ (i : Nat) (more : Bool) (bs2 : List Bool), i + j2 = es.length ∧ SeenR es w N bs2 ∧ cntB bs ≤ cntB bs2 ∧ (more = true → cntB bs + 1 ≤ cntB bs2) ∧ (more = false → ∀ x ∈ es.take i, bs2[x.1.toNat]? = some true → bs2[x.2.toNat]? = some true) ∧ lk ρ' 1 = .slice A es.length c ∧ lk ρ' 7 = .slice (some ⟨wB, 0, none⟩) N N ∧ lk ρ' 8 = .bool more ∧ lk ρ' 9 = .int .i64 (i : Int) ∧ Γ' = own 4 1 (.slice (some ⟨wB, 0, none⟩) N N) N (boolsC bs2) :: Γ) es.length
    · exact ⟨0, false, bs, Nat.zero_add _, hSR, Nat.le_refl _, (fun h => by cases h), (fun _ x hx => by cases hx), rfl, rfl, rfl, rfl, rfl⟩
    clear e1 e7 e8 hSR
    rintro j2 IH2 ρ' _ ⟨i, more, bs2, hij, hSR, hc1, hc2, hc3, e1, e7, e8, e9, rfl⟩
    refine TK.know4 e1 e7 e8 e9 ?_
    by_cases hi : i < es.length
    · obtain ⟨x, hx⟩ : ∃ x, es[i]? = some x := ⟨es[i], List.getElem?_eq_getElem hi⟩
      have hxm := List.mem_of_getElem? hx
      have hxb := hes x hxm
      obtain ⟨x1, x2⟩ := x
      simp only at hxb
      obtain ⟨a, rfl⟩ : ∃ a : Nat, x1 = (a : Int) := ⟨x1.toNat, by omega⟩
      obtain ⟨b, rfl⟩ : ∃ b : Nat, x2 = (b : Int) := ⟨x2.toNat, by omega⟩
      have haN : a < N := by omega
      have hbN : b < N := by omega
      have hsx5 : has (own 4 1 (.slice (some ⟨wB, 0, none⟩) N N) N (boolsC bs2) :: Γ) (srcAt 2 A es.length (es.flatMap prC)) := has_tls hs
      refine TK.mem fun m0 hm0 => ?_
      obtain ⟨g, u, rfl⟩ := edge_some hsx5 hm0 (by omega)
      clear hm0 m0
      obtain ⟨c1, c2⟩ := edge_cells hsx5 rfl hx
      dsimp only at c1 c2
      have hbo : has (own 4 1 (.slice (some ⟨wB, 0, none⟩) N N) N (boolsC bs2) :: Γ) (srcAt 1 (some ⟨wB, 0, none⟩) N (boolsC bs2)) := has_at (up_src _ _ _ _) 0 rfl fun _ h => own_src h
      obtain ⟨v, hv⟩ : ∃ v, bs2[a]? = some v := ⟨bs2[a]'(by rw [hSR.len]; exact haN), List.getElem?_eq_getElem _⟩
      obtain ⟨v2, hv2⟩ : ∃ v, bs2[b]? = some v := ⟨bs2[b]'(by rw [hSR.len]; exact hbN), List.getElem?_eq_getElem _⟩
      have hcv := has_bool hbo hv
      have hcv2 := has_bool hbo hv2
      rw [Nat.zero_add] at hcv hcv2
      have hnext : (v = true → v2 = true) → more = false → ∀ x ∈ es.take (i + 1), bs2[x.1.toNat]? = some true → bs2[x.2.toNat]? = some true := fun hv' hm y hy h0 => by
        rw [take_next hx] at hy
        rcases List.mem_append.1 hy with hy | hy
        · exact hc3 hm y hy h0
        · rw [List.mem_singleton.1 hy] at h0 ⊢
          have h0' : bs2[a]? = some true := h0
          rw [hv] at h0'
          injection h0' with h0'
          show bs2[b]? = some true
          rw [hv2, hv' h0']
      cases v with
      | false =>
        refine m_run ?_
        exact IH2 (j2 - 1) _ _ (by omega) ⟨i + 1, more, bs2, by omega, hSR, hc1, hc2, hnext (fun h => by cases h), rfl, rfl, rfl, congrArg (Value.int .i64) (i64_succ i (by omega)), rfl⟩
      | true =>
        cases v2 with
        | true =>
          refine m_run ?_
          exact IH2 (j2 - 1) _ _ (by omega) ⟨i + 1, more, bs2, by omega, hSR, hc1, hc2, hnext (fun _ => rfl), rfl, rfl, rfl, congrArg (Value.int .i64) (i64_succ i (by omega)), rfl⟩
        | false =>
          refine m_run ?_
          (apply TL.storeOwn 0 b; exact rfl; exact rfl; (exact m_val); exact rfl; exact tb rfl; exact rfl; exact (Nat.zero_add _).symm; exact hbN)
          rw [← boolsC_set]
          refine m_run ?_
          exact IH2 (j2 - 1) _ _ (by omega) ⟨i + 1, true, bs2.set b true, by omega, hSR.set hxm hv hbN, by rw [cntB_set hv2]; omega, (fun _ => by rw [cntB_set hv2]; omega), (fun h => by cases h), rfl, rfl, rfl, congrArg (Value.int .i64) (i64_succ i (by omega)), rfl⟩
    obtain rfl : i = es.length := by omega
    rw [List.take_length] at hc3
    refine m_run ?_
    exact IH (j - 1) _ _ (by omega) ⟨more, bs2, hSR, hc3, (fun h => by have := hc2 h; omega), rfl, rfl, rfl, rfl⟩
end Go.Proofs.Ytndmjpceocecdaa.E

/- The document's own graph reader: Part, next: walked. -/
namespace Go.Proofs.Ytndmjpceocecdaa.E
open Go Go.RowKit Go.Proofs
attribute [local irreducible] TK TL TQ TA TB Fn PV
set_option maxRecDepth 100000 in
set_option maxHeartbeats 4000000 in
theorem refPart_t (A : Option Addr) (c : Nat) (l : List Rw) (v : Int) (Γ : List HP) (hs : Rows A l Γ) (hn : l.length ≤ 1000000000) (hrn : ∀ r ∈ l, r.w.length ≤ 1000000000) :
    FnV Try.prog 27 [.slice A l.length c, .int .i64 v] Γ fun r Γ' => (∃ k, r = .int .i64 k ∧ PartIs (l.map Rw.w) v k) ∧ Γ' = Γ := by
  refine Fn.enter Try.func27 rfl rfl rfl fun E => ?_
  refine m_run ?_
  apply TK.iter (fun j ρ' Γ' => ∃ i : Nat, i + j = l.length ∧ (∀ p ∈ (l.map Rw.w).take i, ∀ x ∈ p, v ≠ (x : Int)) ∧ lk ρ' 0 = .slice A l.length c ∧ lk ρ' 1 = .int .i64 v ∧ lk ρ' 5 = .int .i64 (i : Int) ∧ Γ' = Γ) l.length
  · exact ⟨0, Nat.zero_add _, by simp, rfl, rfl, rfl, rfl⟩
  rintro j IH ρ' Γ ⟨i, hij, hno, e0, e1, e5, rfl⟩
  refine TK.know3 e0 e1 e5 ?_
  by_cases hi : i < l.length
  · obtain ⟨r, hr⟩ : ∃ r, l[i]? = some r := ⟨l[i], List.getElem?_eq_getElem hi⟩
    have hrm := List.mem_of_getElem? hr
    have hrl := hrn r hrm
    have hrw : (l.map Rw.w)[i]? = some r.w := by rw [List.getElem?_map, hr]; rfl
    have hrow := hs.row r hrm
    refine TK.mem fun m0 hm0 => ?_
    obtain ⟨g, u, rfl⟩ := hs.some hm0 (by omega)
    clear hm0 m0
    have hcr := hs.v rfl hr
    refine m_run ?_
    apply TK.iter (fun j2 ρ' Γ' => ∃ m : Nat, m + j2 = r.w.length ∧ (∀ x ∈ r.w.take m, v ≠ (x : Int)) ∧ lk ρ' 0 = .slice (some ⟨g, u, none⟩) l.length c ∧ lk ρ' 1 = .int .i64 v ∧ lk ρ' 5 = .int .i64 (i : Int) ∧ lk ρ' 6 = .int .i64 (m : Int) ∧ Γ' = Γ) r.w.length
    · exact ⟨0, Nat.zero_add _, by simp, rfl, rfl, rfl, rfl, rfl⟩
    clear e0 e1 e5
    rintro j2 IH2 ρ' Γ ⟨m, hmj, hno2, e0, e1, e5, e6, rfl⟩
    refine TK.know4 e0 e1 e5 e6 ?_
    unfold Rw.v at hcr
    by_cases hm : m < r.w.length
    · obtain ⟨x, hx⟩ : ∃ x, r.w[m]? = some x := ⟨r.w[m], List.getElem?_eq_getElem hm⟩
      refine TK.mem fun m0 hm0 => ?_
      obtain ⟨gr, ur, hrA⟩ := src_some (hrow m0 hm0) (by rw [ints_len]; omega)
      clear hm0 m0
      rw [hrA] at hcr hrow
      have hcx := has_ints hrow hx
      by_cases hv : (x : Int) = v
      · refine m_run ?_
        (apply TK.ret1; exact rfl; exact rfl; (exact m_val))
        exact ⟨_, rfl, ⟨_, rfl, .inl ⟨i, rfl, ⟨_, hrw, x, hv.symm, List.mem_of_getElem? hx⟩, hno⟩⟩, rfl⟩
      · refine m_run ?_
        refine IH2 (j2 - 1) _ _ (by omega) ⟨m + 1, by omega, fun y hy => ?_, rfl, rfl, rfl, congrArg (Value.int .i64) (i64_succ m (by omega)), rfl⟩
        rw [take_next hx] at hy
        rcases List.mem_append.1 hy with h | h
        · exact hno2 y h
        · rw [List.mem_singleton.1 h]; exact fun e => hv e.symm
    obtain rfl : m = r.w.length := by omega
    rw [List.take_length] at hno2
    refine m_run ?_
    refine IH (j - 1) _ _ (by omega) ⟨i + 1, by omega, fun p hp => ?_, rfl, rfl, congrArg (Value.int .i64) (i64_succ i (by omega)), rfl⟩
    rw [take_next hrw] at hp
    rcases List.mem_append.1 hp with h | h
    · exact hno p h
    · rw [List.mem_singleton.1 h]; exact hno2
  obtain rfl : i = l.length := by omega
  rw [List.take_of_length_le (by simp)] at hno
  refine m_run ?_
  (apply TK.ret1; exact rfl; exact rfl; (exact m_val))
  exact ⟨_, rfl, ⟨_, rfl, .inr ⟨rfl, hno⟩⟩, rfl⟩
/-- Who comes to whom, node by node: read only. -/
structure Cms (C : Option Addr) (N : Nat) (l : List (Nat × List Bool)) (Γ : List HP) : Prop where
  src : has Γ (srcAt 1 C l.length (l.map fun x => .slice (some ⟨x.1, 0, none⟩) N N))
  row : ∀ x ∈ l, has Γ (srcAt 1 (some ⟨x.1, 0, none⟩) N (boolsC x.2))
theorem Cms.sub {C : Option Addr} {N : Nat} {l : List (Nat × List Bool)} {Γ Δ : List HP} (h : Cms C N l Γ) (hs : Γ.Sublist Δ) : Cms C N l Δ := ⟨has_sublist (up_src _ _ _ _) hs h.src, fun r hr => has_sublist (up_src _ _ _ _) hs (h.row r hr)⟩
theorem Cms.v {C : Option Addr} {N : Nat} {l : List (Nat × List Bool)} {Γ : List HP} {b o i : Nat} {x : Nat × List Bool} (h : Cms C N l Γ) (hA : C = some ⟨b, o, none⟩) (hr : l[i]? = some x) : has Γ (fun m => cellAt m b (o + i) (.slice (some ⟨x.1, 0, none⟩) N N)) := by
  subst hA
  exact has_v h.src (by rw [List.getElem?_map, hr]; rfl)
theorem Cms.some {C : Option Addr} {N : Nat} {l : List (Nat × List Bool)} {Γ : List HP} {m : Mem} (h : Cms C N l Γ) (hm : all Γ m) (hl : 0 < l.length) : ∃ b o, C = Option.some ⟨b, o, none⟩ := src_some (h.src m hm) (by rw [List.length_map]; exact hl)
theorem Cms.at {C : Option Addr} {N : Nat} {l : List (Nat × List Bool)} {Γ : List HP} {i u : Nat} {x : Nat × List Bool} {y : Bool} (h : Cms C N l Γ) (hr : l[i]? = Option.some x) (hu : x.2[u]? = Option.some y) : has Γ (fun m => cellAt m x.1 u (.bool y)) := by
  have := has_bool (h.row x (List.mem_of_getElem? hr)) hu
  rwa [Nat.zero_add] at this
/-- What is come to, in the rows. -/
def CmIs (E : Nat → Nat → Prop) (N : Nat) (l : List (Nat × List Bool)) : Prop := ∀ v x, l[v]? = some x → x.2.length = N ∧ ∀ u, x.2[u]? = some true ↔ Gph.Rc E v u
def goodV (E : Nat → Nat → Prop) (N : Nat) (told : List Bool) (v : Nat) : Prop := told[v]? = some false ∧ ∀ u, u < N → told[u]? = some true ∨ (Gph.Rc E v u → Gph.Rc E u v)
set_option maxRecDepth 100000 in
set_option maxHeartbeats 8000000 in
theorem next_t (E' : Nat → Nat → Prop) (N : Nat) (C T : Option Addr) (cc tc : Nat) (l : List (Nat × List Bool)) (told : List Bool) (Γ : List HP) (hC : Cms C N l Γ) (hl : l.length = N) (hE : CmIs E' N l) (hT : has Γ (srcAt 1 T N (boolsC told))) (htl : told.length = N) (hN : N ≤ 100000) :
    FnV Try.prog 53 [.slice C N cc, .slice T N tc] Γ fun r Γ' => (∃ k : Int, r = .int .i64 k ∧ ((∃ v : Nat, k = (v : Int) ∧ v < N ∧ goodV E' N told v ∧ ∀ x, x < v → ¬ goodV E' N told x) ∨ (k = -1 ∧ ∀ x, x < N → ¬ goodV E' N told x))) ∧ Γ' = Γ := by
  refine Fn.enter Try.func53 rfl rfl rfl fun E => ?_
  refine m_run ?_
  apply TK.iter (fun j ρ' Γ' => ∃ v : Nat, v + j = N ∧ (∀ x, x < v → ¬ goodV E' N told x) ∧ lk ρ' 0 = .slice C N cc ∧ lk ρ' 1 = .slice T N tc ∧ lk ρ' 5 = .int .i64 (v : Int) ∧ Γ' = Γ) N
  · exact ⟨0, Nat.zero_add _, (fun x hx => by omega), rfl, rfl, rfl, rfl⟩
  rintro j IH ρ' Γ ⟨v, hvj, hno, e0, e1, e5, rfl⟩
  refine TK.know3 e0 e1 e5 ?_
  by_cases hv : v < N
  · obtain ⟨x, hx⟩ : ∃ x, l[v]? = some x := ⟨l[v]'(by omega), List.getElem?_eq_getElem _⟩
    obtain ⟨t, ht⟩ : ∃ t, told[v]? = some t := ⟨told[v]'(by omega), List.getElem?_eq_getElem _⟩
    obtain ⟨hxl, hxr⟩ := hE v x hx
    refine TK.mem fun m0 hm0 => ?_
    obtain ⟨gt, ut, rfl⟩ := src_some (hT m0 hm0) (by rw [bools_len]; omega)
    obtain ⟨gc, uc, rfl⟩ := hC.some hm0 (by omega)
    clear hm0 m0
    have hct := has_bool hT ht
    have hcx := hC.v rfl hx
    cases t with
    | true =>
      refine m_run ?_
      refine IH (j - 1) _ _ (by omega) ⟨v + 1, by omega, fun y hy => ?_, rfl, rfl, congrArg (Value.int .i64) (i64_succ v (by omega)), rfl⟩
      by_cases h : y = v
      · subst h
        intro h
        have := h.1
        rw [ht] at this
        cases this
      · exact hno y (by omega)
    | false =>
      refine m_run ?_
      apply TK.iter (fun j2 ρ' Γ' => ∃ (u : Nat) (is : Bool), u + j2 = N ∧ (is = true ↔ ∀ y, y < u → told[y]? = some true ∨ (Gph.Rc E' v y → Gph.Rc E' y v)) ∧ lk ρ' 0 = .slice (some ⟨gc, uc, none⟩) N cc ∧ lk ρ' 1 = .slice (some ⟨gt, ut, none⟩) N tc ∧ lk ρ' 5 = .int .i64 (v : Int) ∧ lk ρ' 6 = .bool is ∧ lk ρ' 7 = .int .i64 (u : Int) ∧ Γ' = Γ) N
      · exact ⟨0, true, Nat.zero_add _, ⟨fun _ y hy => by omega, fun _ => rfl⟩, rfl, rfl, rfl, rfl, rfl, rfl⟩
      clear e0 e1 e5
      rintro j2 IH2 ρ' Γ ⟨u, is, huj, his, e0, e1, e5, e6, e7, rfl⟩
      refine TK.know5 e0 e1 e5 e6 e7 ?_
      by_cases hu : u < N
      · obtain ⟨z, hz⟩ : ∃ x, l[u]? = some x := ⟨l[u]'(by omega), List.getElem?_eq_getElem _⟩
        obtain ⟨hzl, hzr⟩ := hE u z hz
        obtain ⟨t, ht2⟩ : ∃ t, told[u]? = some t := ⟨told[u]'(by omega), List.getElem?_eq_getElem _⟩
        obtain ⟨a, ha⟩ : ∃ t, x.2[u]? = some t := ⟨x.2[u]'(by omega), List.getElem?_eq_getElem _⟩
        obtain ⟨b, hb⟩ : ∃ t, z.2[v]? = some t := ⟨z.2[v]'(by omega), List.getElem?_eq_getElem _⟩
        have g1 := has_bool hT ht2
        have g2 := hC.at hx ha
        have g3 := hC.v rfl hz
        have g4 := hC.at hz hb
        have hst : (is && (t || (!a || b))) = true ↔ ∀ y, y < u + 1 → told[y]? = some true ∨ (Gph.Rc E' v y → Gph.Rc E' y v) := by
          have h1 : (t || (!a || b)) = true ↔ (told[u]? = some true ∨ (Gph.Rc E' v u → Gph.Rc E' u v)) := by
            rw [← hxr u, ← hzr v, ht2, ha, hb]
            cases t <;> cases a <;> cases b <;> simp
          rw [Bool.and_eq_true, his, h1]
          refine ⟨fun h y hy => ?_, fun h => ⟨fun y hy => h y (by omega), h u (by omega)⟩⟩
          by_cases hyu : y = u
          · rw [hyu]; exact h.2
          · exact h.1 y (by omega)
        cases is with
        | false =>
          refine m_run ?_
          exact IH2 (j2 - 1) _ _ (by omega) ⟨u + 1, false, by omega, hst, rfl, rfl, rfl, rfl, congrArg (Value.int .i64) (i64_succ u (by omega)), rfl⟩
        | true =>
          cases t with
          | true =>
            refine m_run ?_
            exact IH2 (j2 - 1) _ _ (by omega) ⟨u + 1, true, by omega, hst, rfl, rfl, rfl, rfl, congrArg (Value.int .i64) (i64_succ u (by omega)), rfl⟩
          | false =>
            cases a with
            | false =>
              refine m_run ?_
              exact IH2 (j2 - 1) _ _ (by omega) ⟨u + 1, true, by omega, hst, rfl, rfl, rfl, rfl, congrArg (Value.int .i64) (i64_succ u (by omega)), rfl⟩
            | true =>
              cases b with
              | false =>
                refine m_run ?_
                exact IH2 (j2 - 1) _ _ (by omega) ⟨u + 1, false, by omega, hst, rfl, rfl, rfl, rfl, congrArg (Value.int .i64) (i64_succ u (by omega)), rfl⟩
              | true =>
                refine m_run ?_
                exact IH2 (j2 - 1) _ _ (by omega) ⟨u + 1, true, by omega, hst, rfl, rfl, rfl, rfl, congrArg (Value.int .i64) (i64_succ u (by omega)), rfl⟩
      obtain rfl : N = u := by omega
      cases is with
      | true =>
        refine m_run ?_
        (apply TK.ret1; exact rfl; exact rfl; (exact m_val))
        exact ⟨_, rfl, ⟨_, rfl, .inl ⟨v, rfl, hv, ⟨ht, his.1 rfl⟩, hno⟩⟩, rfl⟩
      | false =>
        refine m_run ?_
        refine IH (j - 1) _ _ (by omega) ⟨v + 1, by omega, fun y hy => ?_, rfl, rfl, congrArg (Value.int .i64) (i64_succ v (by omega)), rfl⟩
        by_cases h : y = v
        · subst h
          exact fun h => by cases his.2 h.2
        · exact hno y (by omega)
  obtain rfl : N = v := by omega
  refine m_run ?_
  (apply TK.ret1; exact rfl; exact rfl; (exact m_val))
  exact ⟨_, rfl, ⟨_, rfl, .inr ⟨rfl, hno⟩⟩, rfl⟩
end Go.Proofs.Ytndmjpceocecdaa.E

/- The document's own graph reader: Parts: walked. -/
namespace Go.Proofs.Ytndmjpceocecdaa.E
open Go Go.RowKit Go.Proofs
attribute [local irreducible] TK TL TQ TA TB Fn PV
def memL (p : List Nat) (k : Nat) : List Nat := (List.range k).filter fun u => decide (u ∈ p)
theorem memL_yes {p : List Nat} {k : Nat} (h : k ∈ p) : memL p (k + 1) = memL p k ++ [k] := by
  unfold memL
  rw [List.range_succ, List.filter_append]
  simp [h]
theorem memL_no {p : List Nat} {k : Nat} (h : k ∉ p) : memL p (k + 1) = memL p k := by
  unfold memL
  rw [List.range_succ, List.filter_append]
  simp [h]
theorem memL_all {p : List Nat} {n : Nat} (hs : p.Pairwise (· < ·)) (hn : ∀ x ∈ p, x < n) : memL p n = p := by
  refine Gph.sorted_ext ?_ hs fun u => ?_
  · exact List.Pairwise.filter _ List.pairwise_lt_range
  · unfold memL
    rw [List.mem_filter, List.mem_range, decide_eq_true_iff]
    exact ⟨fun h => h.2, fun h => ⟨hn u h, h⟩⟩
theorem memL_len (p : List Nat) (k : Nat) : (memL p k).length ≤ k := by
  unfold memL
  exact Nat.le_trans (List.length_filter_le _ _) (by simp)
set_option maxRecDepth 100000 in
set_option maxHeartbeats 8000000 in
theorem refParts_t (nI : Int) (A : Option Addr) (c : Nat) (es : List (Int × Int)) (P : List (List Nat)) (Γ : List HP) (hs : has Γ (srcAt 2 A es.length (es.flatMap prC))) (hel : es.length ≤ 1000000000) (hP : pErr nI es = 0 → Gph.IsParts (Gph.El (edsN es)) nI.toNat P) :
    FnV Try.prog 24 [.int .i64 nI, .slice A es.length c] Γ
      fun v Γ' => ∃ (Q : Option Addr) (qc : Nat) (L : List Rw), v = .tuple #[.slice Q L.length qc, .int .i64 (pErr nI es)] ∧ Rows Q L Γ' ∧ Γ.Sublist Γ' ∧ (pErr nI es ≠ 0 → L = []) ∧ (pErr nI es = 0 → L.map Rw.w = P) := by
  have herr : ∀ (Γ' : List HP), Γ.Sublist Γ' → ∀ e : Int, e = pErr nI es → e ≠ 0 → ∃ (Q : Option Addr) (qc : Nat) (L : List Rw), Value.tuple #[.slice none 0 0, .int .i64 e] = .tuple #[.slice Q L.length qc, .int .i64 (pErr nI es)] ∧ Rows Q L Γ' ∧ Γ.Sublist Γ' ∧ (pErr nI es ≠ 0 → L = []) ∧ (pErr nI es = 0 → L.map Rw.w = P) := fun Γ' hS e he h0 =>
    ⟨none, 0, [], by rw [he]; rfl, ⟨has_srcnil _ _, fun r hr => by cases hr⟩, hS, fun _ => rfl, fun h => absurd (he.trans h) h0⟩
  refine Fn.enter Try.func24 rfl rfl rfl fun E => ?_
  by_cases h1 : nI > 4096
  · refine m_run ?_
    (apply TK.ret2; exact rfl; exact rfl; (exact m_val); (exact m_val))
    exact ⟨_, rfl, herr _ (.refl _) 6 (by unfold pErr; rw [if_pos (.inl (by omega))]) (by decide)⟩
  by_cases h2 : es.length > 16384
  · refine m_run ?_
    (apply TK.ret2; exact rfl; exact rfl; (exact m_val); (exact m_val))
    exact ⟨_, rfl, herr _ (.refl _) 6 (by unfold pErr; rw [if_pos (.inr (by omega))]) (by decide)⟩
  by_cases h3 : nI < 0
  · refine m_run ?_
    (apply TK.ret2; exact rfl; exact rfl; (exact m_val); (exact m_val))
    exact ⟨_, rfl, herr _ (.refl _) 1 (by unfold pErr; rw [if_neg (by omega), if_pos h3]) (by decide)⟩
  obtain ⟨N, rfl⟩ : ∃ n : Nat, nI = (n : Int) := ⟨nI.toNat, by omega⟩
  have hN : N ≤ 4096 := by omega
  have hbadE : es.any (badE (N : Int)) = true → (1 : Int) = pErr (N : Int) es := fun h => by
    unfold pErr
    rw [if_neg (by omega), if_neg (by omega), if_pos h]
  refine m_run ?_
  apply TK.iter (fun j ρ' Γ' => ∃ i : Nat, i + j = es.length ∧ (∀ x ∈ es.take i, badE (N : Int) x = false) ∧ lk ρ' 0 = .int .i64 (N : Int) ∧ lk ρ' 1 = .slice A es.length c ∧ lk ρ' 6 = .int .i64 (i : Int) ∧ Γ' = Γ) es.length
  · exact ⟨0, Nat.zero_add _, (fun x hx => by cases hx), rfl, rfl, rfl, rfl⟩
  rintro j IH ρ' Γ ⟨i, hij, hno, e0, e1, e6, rfl⟩
  refine TK.know3 e0 e1 e6 ?_
  by_cases hi : i < es.length
  · obtain ⟨x, hx⟩ : ∃ x, es[i]? = some x := ⟨es[i], List.getElem?_eq_getElem hi⟩
    have hxm := List.mem_of_getElem? hx
    refine TK.mem fun m0 hm0 => ?_
    obtain ⟨g, u, rfl⟩ := edge_some hs hm0 (by omega)
    clear hm0 m0
    obtain ⟨c1, c2⟩ := edge_cells hs rfl hx
    have hbx : x.1 < 0 ∨ (N : Int) ≤ x.1 ∨ x.2 < 0 ∨ (N : Int) ≤ x.2 → es.any (badE (N : Int)) = true := fun h => List.any_eq_true.2 ⟨x, hxm, (badE_iff _ _).2 h⟩
    refine m_run ?_
    apply TK.iter (fun j2 ρ' Γ' => ∃ m : Nat, m + j2 = 2 ∧ (1 ≤ m → 0 ≤ x.1 ∧ x.1 < (N : Int)) ∧ (2 ≤ m → 0 ≤ x.2 ∧ x.2 < (N : Int)) ∧ lk ρ' 0 = .int .i64 (N : Int) ∧ lk ρ' 1 = .slice (some ⟨g, u, none⟩) es.length c ∧ lk ρ' 6 = .int .i64 (i : Int) ∧ lk ρ' 7 = .int .i64 (m : Int) ∧ Γ' = Γ) 2
    · exact ⟨0, rfl, (fun h => by omega), (fun h => by omega), rfl, rfl, rfl, rfl, rfl⟩
    clear e0 e1 e6
    rintro j2 IH2 ρ' Γ ⟨m, hmj, hx1, hx2, e0, e1, e6, e7, rfl⟩
    refine TK.know4 e0 e1 e6 e7 ?_
    by_cases hm0 : m = 0
    · subst hm0
      by_cases hb1 : x.1 < 0
      · refine m_run ?_
        (apply TK.ret2; exact rfl; exact rfl; (exact m_val); (exact m_val))
        exact ⟨_, rfl, herr _ (.refl _) 1 (hbadE (hbx (.inl hb1))) (by decide)⟩
      by_cases hb2 : (N : Int) ≤ x.1
      · refine m_run ?_
        (apply TK.ret2; exact rfl; exact rfl; (exact m_val); (exact m_val))
        exact ⟨_, rfl, herr _ (.refl _) 1 (hbadE (hbx (.inr (.inl hb2)))) (by decide)⟩
      refine m_run ?_
      exact IH2 (j2 - 1) _ _ (by omega) ⟨1, by omega, (fun _ => by omega), (fun h => by omega), rfl, rfl, rfl, rfl, rfl⟩
    by_cases hm1 : m = 1
    · subst hm1
      by_cases hb1 : x.2 < 0
      · refine m_run ?_
        (apply TK.ret2; exact rfl; exact rfl; (exact m_val); (exact m_val))
        exact ⟨_, rfl, herr _ (.refl _) 1 (hbadE (hbx (.inr (.inr (.inl hb1))))) (by decide)⟩
      by_cases hb2 : (N : Int) ≤ x.2
      · refine m_run ?_
        (apply TK.ret2; exact rfl; exact rfl; (exact m_val); (exact m_val))
        exact ⟨_, rfl, herr _ (.refl _) 1 (hbadE (hbx (.inr (.inr (.inr hb2))))) (by decide)⟩
      refine m_run ?_
      exact IH2 (j2 - 1) _ _ (by omega) ⟨2, by omega, (fun _ => hx1 (by omega)), (fun _ => by omega), rfl, rfl, rfl, rfl, rfl⟩
    obtain rfl : m = 2 := by omega
    refine m_run ?_
    refine IH (j - 1) _ _ (by omega) ⟨i + 1, by omega, fun y hy => ?_, rfl, rfl, congrArg (Value.int .i64) (i64_succ i (by omega)), rfl⟩
    rw [take_next hx] at hy
    rcases List.mem_append.1 hy with h | h
    · exact hno y h
    · rw [List.mem_singleton.1 h]
      have h4 := hx1 (by omega)
      have h5 := hx2 (by omega)
      exact Bool.eq_false_iff.2 fun h => by have := (badE_iff _ _).1 h; omega
  clear IH
  rw [show i = es.length by omega, List.take_length] at hno
  have hes : ∀ x ∈ es, 0 ≤ x.1 ∧ x.1 < (N : Int) ∧ 0 ≤ x.2 ∧ x.2 < (N : Int) := fun x hx => by
    have : ¬ (x.1 < 0 ∨ (N : Int) ≤ x.1 ∨ x.2 < 0 ∨ (N : Int) ≤ x.2) := fun h => Bool.eq_false_iff.1 (hno x hx) ((badE_iff (N : Int) x).2 h)
    omega
  have hp0 : pErr (N : Int) es = 0 := by
    unfold pErr
    rw [if_neg (by omega), if_neg (by omega), if_neg]
    intro h
    obtain ⟨x, hx, hb⟩ := List.any_eq_true.1 h
    rw [hno x hx] at hb
    cases hb
  have hPI := hP hp0
  rw [Int.toNat_natCast] at hPI
  have hPl : P.length ≤ N := by
    have := (parts_rows (L := P.map fun p => (⟨none, 0, p⟩ : Rw)) (n := N) (by rw [List.map_map]; simpa [Function.comp_def] using hPI)).1
    simpa using this
  rw [hp0]
  refine m_run ?_
  refine TK.free (H := own 55 1 (.slice none 0 0) 0 []) (fun m hm => own_nil _ _ hm) ?_
  apply TK.iter (fun j ρ' Γ' => ∃ (v : Nat) (C : Option Addr) (cc : Nat) (l : List (Nat × List Bool)) (Γ2 : List HP), v + j = N ∧ l.length = v ∧ CmIs (Gph.El (edsN es)) N l ∧ Γ.Sublist Γ2 ∧ (∀ x ∈ l, has Γ2 (srcAt 1 (some ⟨x.1, 0, none⟩) N (boolsC x.2))) ∧ lk ρ' 0 = .int .i64 (N : Int) ∧ lk ρ' 1 = .slice A es.length c ∧ lk ρ' 8 = .slice C v cc ∧ lk ρ' 9 = .int .i64 (v : Int) ∧ Γ' = own 55 1 (.slice C v cc) v (l.map fun x => .slice (some ⟨x.1, 0, none⟩) N N) :: Γ2) N
  · exact ⟨0, none, 0, [], Γ, Nat.zero_add _, rfl, (fun v x h => by cases h), .refl _, (fun x hx => by cases hx), rfl, rfl, rfl, rfl, rfl⟩
  clear e0 e1 e6
  rintro j IH ρ' _ ⟨v, C, cc, l, Γ2, hvj, hll, hCm, hs2, hrw, e0, e1, e8, e9, rfl⟩
  refine TK.know4 e0 e1 e8 e9 ?_
  by_cases hv : v < N
  · refine m_run ?_
    (apply TL.callV; exact rfl; exact callB_of (by kernel_rfl); exact rfl; exact fun _ h => h)
    exact comes_t N A c es v _ (has_tls (has_sublist (up_src _ _ _ _) hs2 hs)) (by omega) hv (by omega) hes
    rintro _ _ ⟨wB, bs, rfl, hbl, hbs, rfl⟩
    refine m_run ?_
    (apply TL.buildSlice (l := [.slice (some ⟨wB, 0, none⟩) N N]); exact rfl; exact tb rfl; exact rfl; exact tb rfl; exact rfl; exact rfl; exact rfl; exact rfl; exact rfl)
    intro b61
    refine m_run ?_
    (apply TL.append 2 (n := v) (m := 1) (cs := l.map fun x => .slice (some ⟨x.1, 0, none⟩) N N) (news := [.slice (some ⟨wB, 0, none⟩) N N]); exact rfl; exact rfl; exact tb rfl; exact rfl; exact tb rfl; exact rfl; exact rfl; exact rfl)
    · exact fun _ h => h
    · exact rfl
    · exact has_src_row 0 rfl rfl
    · exact fun u hu => by rw [List.mem_singleton.1 hu]; rfl
    · show (v + 1) * 24 ≤ _; omega
    · show v + 1 ≤ maxLen; unfold maxLen; omega
    · exact fun _ => rfl
    intro C2 cc2 hcc2
    rw [show (l.map fun x => Value.slice (some ⟨x.1, 0, none⟩) N N) ++ [.slice (some ⟨wB, 0, none⟩) N N] = (l ++ [(wB, bs)]).map fun x => .slice (some ⟨x.1, 0, none⟩) N N by simp]
    refine m_run ?_
    refine TK.perm (List.perm_middle (l₁ := [_, _])) ?_
    refine IH (j - 1) _ _ (by omega) ⟨v + 1, C2, cc2, l ++ [(wB, bs)], _, by omega, by simp [hll], fun u x hx => ?_, .cons _ (.cons _ hs2), fun x hx => ?_, rfl, rfl, rfl, congrArg (Value.int .i64) (i64_succ v (by omega)), rfl⟩
    · by_cases hu : u < l.length
      · rw [List.getElem?_append_left hu] at hx
        exact hCm u x hx
      · have := (List.getElem?_eq_some_iff.1 hx).1
        rw [List.length_append, List.length_singleton] at this
        obtain rfl : u = v := by omega
        rw [List.getElem?_append_right (by omega), hll, Nat.sub_self] at hx
        injection hx with hx
        subst hx
        exact ⟨hbl, hbs⟩
    · rcases List.mem_append.1 hx with h | h
      · exact has_tls (has_tls (hrw x h))
      · rw [List.mem_singleton.1 h]
        exact has_tls (has_at (up_src _ _ _ _) 0 rfl fun _ h => own_src h)
  clear IH
  obtain rfl : N = v := by omega
  have hCC : Cms C N l (own 55 1 (.slice C N cc) N (l.map fun x => .slice (some ⟨x.1, 0, none⟩) N N) :: Γ2) := ⟨by rw [hll]; exact has_at (up_src _ _ _ _) 0 rfl fun _ h => own_src h, fun x hx => has_tls (hrw x hx)⟩
  have hS2 : Γ.Sublist (own 55 1 (.slice C N cc) N (l.map fun x => .slice (some ⟨x.1, 0, none⟩) N N) :: Γ2) := .cons _ hs2
  generalize own 55 1 (.slice C N cc) N (l.map fun x => .slice (some ⟨x.1, 0, none⟩) N N) :: Γ2 = Γ3 at *
  clear hrw hs2 hij hvj hi hv hno
  refine m_run ?_
  (apply TL.makeN (n := N) (c := N); exact rfl; exact rfl; exact rfl; exact tb rfl; exact rfl; exact tb rfl; exact rfl; exact rfl; exact Nat.le_refl _; exact (show 1 * N ≤ _ by omega); exact (show N ≤ maxLen by unfold maxLen; omega))
  intro tB
  rw [show List.replicate N (Value.bool false) = boolsC (List.replicate N false) from (List.map_replicate (f := Value.bool)).symm]
  refine m_run ?_
  refine TK.free (H := own 54 1 (.slice none 0 0) 0 []) (fun m hm => own_nil _ _ hm) ?_
  refine TK.perm (.swap _ _ _) ?_
  apply TK.iter (fun j ρ' Γ' => ∃ (i : Nat) (told : List Bool) (Q : Option Addr) (qc : Nat) (rows : List Rw) (Γ4 : List HP), i + j = P.length ∧ told.length = N ∧ (∀ u, u < N → told[u]? = some (decide (u ∈ (P.take i).flatten))) ∧ rows.length = i ∧ rows.map Rw.w = P.take i ∧ Γ3.Sublist Γ4 ∧ (∀ r ∈ rows, has Γ4 (srcAt 1 r.A r.w.length (ints r.w))) ∧ lk ρ' 0 = .int .i64 (N : Int) ∧ lk ρ' 8 = .slice C N cc ∧ lk ρ' 10 = .slice (some ⟨tB, 0, none⟩) N N ∧ lk ρ' 11 = .slice Q i qc ∧ Γ' = own 4 1 (.slice (some ⟨tB, 0, none⟩) N N) N (boolsC told) :: own 54 1 (.slice Q i qc) i (rows.map Rw.v) :: Γ4) P.length
  · exact ⟨0, _, none, 0, [], Γ3, Nat.zero_add _, List.length_replicate, (fun u hu => by rw [List.getElem?_replicate, if_pos hu]; simp), rfl, by simp, .refl _, (fun r hr => by cases hr), rfl, rfl, rfl, rfl, rfl⟩
  clear e0 e1 e8 e9
  rintro j IH ρ' _ ⟨i, told, Q, qc, rows, Γ4, hij, htl, htd, hrl, hrw, hs4, hro, e0, e8, e10, e11, rfl⟩
  refine TK.know4 e0 e8 e10 e11 ?_
  refine m_run ?_
  (apply TL.callV; exact rfl; exact callB_of (by kernel_rfl); exact rfl; exact fun _ h => h)
  exact next_t (Gph.El (edsN es)) N C (some ⟨tB, 0, none⟩) cc N l told _ (hCC.sub (.cons _ (.cons _ hs4))) hll hCm (has_at (up_src _ _ _ _) 0 rfl fun _ h => own_src h) htl (by omega)
  rintro _ _ ⟨⟨k, rfl, hk⟩, rfl⟩
  have hgood : ∀ p, P[i]? = some p → goodV (Gph.El (edsN es)) N told (p.headD 0) ∧ p.headD 0 < N := fun p hp => by
    obtain ⟨g1, g2, g3, g4, _⟩ := hPI.next hp
    refine ⟨⟨by rw [htd _ g2, decide_eq_false g3], fun u hu => ?_⟩, g2⟩
    by_cases h : Gph.Rc (Gph.El (edsN es)) (p.headD 0) u
    · rcases g4 u h with h5 | h5
      · exact .inl (by rw [htd u hu, decide_eq_true h5])
      · exact .inr fun _ => h5
    · exact .inr fun h' => absurd h' h
  rcases hk with ⟨v, rfl, hv, hgv, hmin⟩ | ⟨rfl, hnone⟩
  · by_cases hi : i < P.length
    · obtain ⟨p, hp⟩ : ∃ p, P[i]? = some p := ⟨P[i], List.getElem?_eq_getElem hi⟩
      obtain ⟨hsort, hpne, hscc⟩ := hPI.scc p (List.mem_of_getElem? hp)
      obtain ⟨hg1, hg2⟩ := hgood p hp
      have hvp : v = p.headD 0 := by
        obtain ⟨_, _, _, _, g5⟩ := hPI.next hp
        have h1 : p.headD 0 ≤ v := g5 v hv (fun h => by
          have := hgv.1
          rw [htd v hv, decide_eq_true h] at this
          cases this) fun w hw => by
            by_cases hwN : w < N
            · rcases hgv.2 w hwN with h | h
              · rw [htd w hwN] at h
                injection h with h
                exact .inl (of_decide_eq_true h)
              · exact .inr (h hw)
            · exact absurd (hw.closed (C := fun z => z < N) (fun a b _ e => by
                obtain ⟨y, hy, hye⟩ := List.mem_map.1 (show (a, b) ∈ List.map edN es from e)
                unfold edN at hye
                injection hye with _ h2
                have := hes y hy
                omega) hv) hwN
        have h2 : ¬ p.headD 0 < v := fun h => hmin _ h hg1
        omega
      have hvm : v ∈ p := by rw [hvp]; exact (hPI.next hp).1
      have hiff : ∀ u, u ∈ p ↔ Gph.Rc (Gph.El (edsN es)) v u ∧ Gph.Rc (Gph.El (edsN es)) u v := (hscc v hvm).2
      obtain ⟨x, hx⟩ : ∃ x, l[v]? = some x := ⟨l[v]'(by omega), List.getElem?_eq_getElem _⟩
      obtain ⟨hxl, hxr⟩ := hCm v x hx
      clear hgood hg1 hg2 hmin hgv
      refine m_run ?_
      refine TK.free (H := own 3 1 (.slice none 0 0) 0 (ints [])) (fun m hm => own_nil _ _ hm) ?_
      apply TK.iter (fun j2 ρ' Γ' => ∃ (k : Nat) (A3 : Option Addr) (c3 : Nat) (q : List Nat) (told : List Bool) (Γ5 : List HP), k + j2 = N ∧ q = memL p k ∧ told.length = N ∧ (∀ u, u < N → told[u]? = some (decide (u ∈ (P.take i).flatten ∨ (u ∈ p ∧ u < k)))) ∧ Γ4.Sublist Γ5 ∧ lk ρ' 0 = .int .i64 (N : Int) ∧ lk ρ' 8 = .slice C N cc ∧ lk ρ' 10 = .slice (some ⟨tB, 0, none⟩) N N ∧ lk ρ' 11 = .slice Q i qc ∧ lk ρ' 12 = .int .i64 (v : Int) ∧ lk ρ' 13 = .slice A3 q.length c3 ∧ lk ρ' 14 = .int .i64 (k : Int) ∧ Γ' = own 3 1 (.slice A3 q.length c3) q.length (ints q) :: own 4 1 (.slice (some ⟨tB, 0, none⟩) N N) N (boolsC told) :: own 54 1 (.slice Q i qc) i (rows.map Rw.v) :: Γ5) N
      · exact ⟨0, none, 0, [], told, Γ4, Nat.zero_add _, rfl, htl, (fun u hu => by rw [htd u hu]; simp), .refl _, rfl, rfl, rfl, rfl, rfl, rfl, rfl, rfl⟩
      clear e0 e8 e10 e11 htl htd told
      rintro j2 IH2 ρ' _ ⟨k, A3, c3, q, told, Γ5, hkj, hq, htl, htd, hs5, e0, e8, e10, e11, e12, e13, e14, rfl⟩
      refine TK.know7 e0 e8 e10 e11 e12 e13 e14 ?_
      have hql : q.length ≤ k := by rw [hq]; exact memL_len _ _
      by_cases hk : k < N
      · obtain ⟨z, hz⟩ : ∃ x, l[k]? = some x := ⟨l[k]'(by omega), List.getElem?_eq_getElem _⟩
        obtain ⟨hzl, hzr⟩ := hCm k z hz
        obtain ⟨a, ha⟩ : ∃ t, x.2[k]? = some t := ⟨x.2[k]'(by omega), List.getElem?_eq_getElem _⟩
        obtain ⟨b, hb⟩ : ∃ t, z.2[v]? = some t := ⟨z.2[v]'(by omega), List.getElem?_eq_getElem _⟩
        have hC5 : Cms C N l (own 3 1 (.slice A3 q.length c3) q.length (ints q) :: own 4 1 (.slice (some ⟨tB, 0, none⟩) N N) N (boolsC told) :: own 54 1 (.slice Q i qc) i (rows.map Rw.v) :: Γ5) := hCC.sub (.cons _ (.cons _ (.cons _ (hs4.trans hs5))))
        refine TK.mem fun m0 hm0 => ?_
        obtain ⟨gc, uc, rfl⟩ := hC5.some hm0 (by omega)
        clear hm0 m0
        have g1 := hC5.v rfl hx
        have g2 := hC5.at hx ha
        have g3 := hC5.v rfl hz
        have g4 := hC5.at hz hb
        have hab : (a && b) = true ↔ k ∈ p := by
          rw [hiff k, ← hxr k, ← hzr v, ha, hb]
          cases a <;> cases b <;> simp
        have hsame : k ∉ p → ∀ u, u < N → told[u]? = some (decide (u ∈ (P.take i).flatten ∨ (u ∈ p ∧ u < k + 1))) := fun h u hu => by
          rw [htd u hu]
          have : (u ∈ p ∧ u < k) ↔ (u ∈ p ∧ u < k + 1) := ⟨fun h => ⟨h.1, by omega⟩, fun h' => ⟨h'.1, by
            have : u ≠ k := fun e => h (e ▸ h'.1)
            omega⟩⟩
          simp only [this]
        cases a with
        | false =>
          have hkp : k ∉ p := fun h => by have := hab.2 h; simp at this
          refine m_run ?_
          exact IH2 (j2 - 1) _ _ (by omega) ⟨k + 1, A3, c3, q, told, Γ5, by omega, by rw [memL_no hkp]; exact hq, htl, hsame hkp, hs5, rfl, rfl, rfl, rfl, rfl, rfl, congrArg (Value.int .i64) (i64_succ k (by omega)), rfl⟩
        | true =>
          cases b with
          | false =>
            have hkp : k ∉ p := fun h => by have := hab.2 h; simp at this
            refine m_run ?_
            exact IH2 (j2 - 1) _ _ (by omega) ⟨k + 1, A3, c3, q, told, Γ5, by omega, by rw [memL_no hkp]; exact hq, htl, hsame hkp, hs5, rfl, rfl, rfl, rfl, rfl, rfl, congrArg (Value.int .i64) (i64_succ k (by omega)), rfl⟩
          | true =>
            have hkp : k ∈ p := hab.1 rfl
            refine m_run ?_
            (apply TL.buildSlice (l := ints [k]); exact rfl; exact tb rfl; exact rfl; exact tb rfl; exact rfl; exact rfl; exact rfl; exact rfl; exact rfl)
            intro b94
            refine m_run ?_
            (apply TL.append 1 (n := q.length) (m := 1) (cs := ints q) (news := ints [k]); exact rfl; exact rfl; exact tb rfl; exact rfl; exact tb rfl; exact rfl; exact rfl; exact rfl)
            · exact fun _ h => h
            · exact rfl
            · exact has_src_row 0 rfl rfl
            · exact ints_one [k]
            · show (q.length + 1) * 8 ≤ _; omega
            · show q.length + 1 ≤ maxLen; unfold maxLen; omega
            · exact fun _ => (rfl : _ = _ :: _ :: _)
            intro A4 c4 hc4
            refine m_run ?_
            (apply TL.storeOwn 2 k; exact rfl; exact rfl; (exact m_val); exact rfl; exact tb rfl; exact rfl; exact (Nat.zero_add _).symm; exact hk)
            rw [← boolsC_set, show ints q ++ ints [k] = ints (q ++ [k]) by simp, show q.length + 1 = (q ++ [k]).length by simp]
            refine m_run ?_
            refine TK.perm (List.perm_middle (l₁ := [_, _, _])).symm ?_
            refine IH2 (j2 - 1) _ _ (by omega) ⟨k + 1, A4, c4, q ++ [k], told.set k true, _, by omega, by rw [memL_yes hkp, hq], by rw [List.length_set]; exact htl, fun u hu => ?_, .cons _ hs5, rfl, rfl, rfl, rfl, rfl, rfl, congrArg (Value.int .i64) (i64_succ k (by omega)), rfl⟩
            rw [List.getElem?_set]
            split
            · rename_i e
              subst e
              rw [if_pos (by omega), decide_eq_true (.inr ⟨hkp, by omega⟩)]
            · rename_i e
              rw [htd u hu]
              have : (u ∈ p ∧ u < k) ↔ (u ∈ p ∧ u < k + 1) := ⟨fun h => ⟨h.1, by omega⟩, fun h' => ⟨h'.1, by omega⟩⟩
              simp only [this]
      clear IH2
      obtain rfl : N = k := by omega
      have hqp : q = p := by rw [hq]; exact memL_all hsort fun y hy => (hscc y hy).1
      refine m_run ?_
      (apply TL.buildSlice (l := [.slice A3 q.length c3]); exact rfl; exact tb rfl; exact rfl; exact tb rfl; exact rfl; exact rfl; exact rfl; exact rfl; exact rfl)
      intro b101
      refine m_run ?_
      (apply TL.append 3 (n := i) (m := 1) (cs := rows.map Rw.v) (news := [.slice A3 q.length c3]); exact rfl; exact rfl; exact tb rfl; exact rfl; exact tb rfl; exact rfl; exact rfl; exact rfl)
      · exact fun _ h => h
      · exact rfl
      · exact has_src_row 0 rfl rfl
      · exact fun u hu => by rw [List.mem_singleton.1 hu]; rfl
      · have := hPl
        show (i + 1) * 24 ≤ _; omega
      · have := hPl
        show i + 1 ≤ maxLen; unfold maxLen; omega
      · exact fun _ => rfl
      intro Q2 qc2 hqc2
      rw [show rows.map Rw.v ++ [.slice A3 q.length c3] = (rows ++ [(⟨A3, c3, q⟩ : Rw)]).map Rw.v by simp [Rw.v]]
      refine m_run ?_
      refine TK.perm ((List.perm_append_comm (l₁ := [_, _]) (l₂ := [_, _])).append_right _) ?_
      refine IH (j - 1) _ _ (by omega) ⟨i + 1, told, Q2, qc2, rows ++ [(⟨A3, c3, q⟩ : Rw)], _, by omega, htl, fun u hu => ?_, by simp [hrl], by rw [List.map_append, hrw, take_next hp, ← hqp]; rfl, .cons _ (.cons _ (hs4.trans hs5)), fun r hr => ?_, rfl, rfl, rfl, rfl, rfl⟩
      · rw [htd u hu, take_next hp]
        have : (u ∈ (P.take i).flatten ∨ (u ∈ p ∧ u < N)) ↔ u ∈ (P.take i ++ [p]).flatten := by
          rw [List.flatten_append, List.mem_append, List.flatten_singleton]
          exact ⟨fun h => h.elim .inl fun h => .inr h.1, fun h => h.elim .inl fun h => .inr ⟨h, hu⟩⟩
        simp only [this]
      · rcases List.mem_append.1 hr with h | h
        · exact has_tls (has_tls (has_sublist (up_src _ _ _ _) hs5 (hro r h)))
        · rw [List.mem_singleton.1 h]
          exact has_at (up_src _ _ _ _) 1 rfl fun _ h => own_src h
    · exfalso
      obtain ⟨p, hp, hvp⟩ := hPI.cover v hv
      have := hgv.1
      rw [htd v hv, List.take_of_length_le (by omega), decide_eq_true (List.mem_flatten.2 ⟨p, hp, hvp⟩)] at this
      cases this
  · have hi : i = P.length := by
      by_cases hi : i < P.length
      · obtain ⟨p, hp⟩ : ∃ p, P[i]? = some p := ⟨P[i], List.getElem?_eq_getElem hi⟩
        obtain ⟨hg1, hg2⟩ := hgood p hp
        exact absurd hg1 (hnone _ hg2)
      · omega
    rw [hi, List.take_length] at hrw
    refine m_run ?_
    (apply TK.ret2; exact rfl; exact rfl; (exact m_val); (exact m_val))
    refine ⟨_, rfl, Q, qc, rows, by rw [hrl], ⟨by rw [hrl]; exact has_at (up_src _ _ _ _) 1 rfl fun _ h => own_src h, fun r hr => has_tls (has_tls (hro r hr))⟩, .cons _ (.cons _ (hS2.trans hs4)), fun h => absurd rfl h, fun _ => hrw⟩
end Go.Proofs.Ytndmjpceocecdaa.E

/- Arrays of numbers compared with themselves. -/
namespace Go.Proofs.Ytndmjpceocecdaa.E
open Go Go.RowKit Go.Proofs
section
variable {P : Program} {Sw : World → Prop} {ρ : Env} {d : Nat} {ty : TypeId} {pos : String} {after : Array Edge} {t t' e n : Nat} {x y : Operand} {k : IntKind} {xs : List Int} {r r' : TR}
theorem run_equalIn_same (w : World) (d : Nat) (t e : TypeId) (n : Nat) (ht : P.underlying t = some (.array n e)) (he : P.underlying e = some (.int k)) (hsz : ∀ w, (sizeOf e).run P w = .ok 1 w)
    (xs : List Int) (hx : xs.length = n) :
    (Op.equalIn (d + 2) t (.agg (xs.map (Value.int k)).toArray) (.agg (xs.map (Value.int k)).toArray)).run P w = .ok true w := by
  rw [Op.equalIn]
  simp only [Sem.run_bind, run_underlying ht, Result.andThen_ok, hsz, Std.Legacy.Range.forIn_eq_forIn_range', Std.Legacy.Range.size, Nat.sub_zero, Nat.add_sub_cancel, Nat.div_one]
  have hl : ∀ i ∈ List.range' 0 n 1, i < n := fun i hi => by simpa using (List.mem_range'_1.1 hi).2
  generalize List.range' 0 n 1 = l at hl ⊢
  induction l with
  | nil => simp
  | cons i l ih =>
    have hi : i < n := hl i (by simp)
    have px : (part e (xs.map (Value.int k)).toArray (i * 1)).run P w = .ok (.int k (xs.getD i 0)) w := by
      simp [part, isAgg, run_underlying he, List.getD, List.getElem?_eq_getElem (show i < xs.length by omega)]
    have pe : (Op.equalIn (d + 1) e (.int k (xs.getD i 0)) (.int k (xs.getD i 0))).run P w = .ok true w := by
      rw [run_equalIn_int w d e k k _ _ he]
      simp
    simp only [List.forIn_cons, Sem.run_bind, px, pe, Result.andThen_ok, Bool.not_true, Bool.false_eq_true, if_false, Sem.run_pure]
    exact ih fun j hj => hl j (by simp [hj])
theorem run_neSame (w : World) (ht : TabOk P t r) (hq : r.und = .array n e) (ht' : TabOk P e r') (hu : r'.und = .int k) (hs : r'.size = 1) (hx : xs.length = n) :
    (binOp .neq t (.agg (xs.map (Value.int k)).toArray) (.agg (xs.map (Value.int k)).toArray)).run P w = .ok (.bool false) w := by
  have h := run_equalIn_same w 9998 t e n (by rw [← hq]; exact ht.1) (by rw [← hu]; exact ht'.1) (fun w => by rw [ht'.run_size, hs]) xs hx
  have h2 : (binOp .neq t (.agg (xs.map (Value.int k)).toArray) (.agg (xs.map (Value.int k)).toArray)).run P w = ((Op.equalIn 10000 t (.agg (xs.map (Value.int k)).toArray) (.agg (xs.map (Value.int k)).toArray)).run P w).andThen fun b w' => .ok (.bool (!b)) w' := by
    simp [binOp, Op.equal, Op.maxDepth]
  have h3 : (Op.equalIn 10000 t (.agg (xs.map (Value.int k)).toArray) (.agg (xs.map (Value.int k)).toArray)).run P w = .ok true w := h
  rw [h2, h3]
  rfl
theorem PV.neSame (ea : ev ρ x = .agg (xs.map (Value.int k)).toArray) (eb : ev ρ y = .agg (xs.map (Value.int k)).toArray) (ht : TabOk P t r) (hq : r.und = .array n e) (ht' : TabOk P e r') (hu : r'.und = .int k) (hs : r'.size = 1) (hm : P.eqGuardType P.depth t = false) (hx : xs.length = n) :
    PV P ρ Sw ⟨some d, .binOp .neq t x y t', ty, pos, after, none⟩ (.bool false) := fun w _ => by
  simp only [execOp, ea, eb, Sem.run_bind, run_eqGuard_agg w .neq t x y _ _ hm, Result.andThen_ok, run_neSame w ht hq ht' hu hs hx]
  rfl
end
end Go.Proofs.Ytndmjpceocecdaa.E

/- The graph that is played is read as the document reads it: walked. -/
namespace Go.Proofs.Ytndmjpceocecdaa.E
open Go Go.RowKit Go.Proofs
attribute [local irreducible] TK TL TQ TA TB Fn PV
set_option maxRecDepth 100000 in
set_option maxHeartbeats 8000000 in
theorem graphPlays_t (n : Int) (A : Option Addr) (c : Nat) (es : List (Int × Int)) (k : Int) (Γ : List HP) (hs : has Γ (srcAt 2 A es.length (es.flatMap prC))) :
    FnV Try.prog 6 [.int .i64 n, .slice A es.length c, .int .i64 k] Γ fun v Γ' => v = .bool true ∧ Γ' = Γ := by
  refine Fn.enter Try.func6 rfl rfl rfl fun E => ?_
  refine m_run ?_
  (apply TL.callV; exact rfl; exact callB_of (by kernel_rfl); exact rfl; exact fun _ h => h)
  exact few_t n A c es _
  rintro _ Γ ⟨rfl, rfl⟩
  cases hf : (decide (n ≤ 60) && decide (es.length ≤ 300)) with
  | true =>
    refine m_run ?_
    by_cases hl : es.length > 20000
    · refine m_run ?_
      (apply TL.callV; exact rfl; exact callB_of (by kernel_rfl); exact rfl; exact fun _ h => h)
      exact works9_t _
      rintro _ Γ1 ⟨rfl, hs1⟩
      refine m_run ?_
      (apply TK.retS1; exact rfl; exact rfl; (exact m_val))
      exact ⟨_, rfl, rfl, rfl⟩
      exact hs1
    refine m_run ?_
    (apply TL.buildSlice (l := []); exact rfl; exact tb rfl; exact rfl; exact tb rfl; exact rfl; exact rfl; exact rfl; exact rfl; exact rfl)
    intro b54
    refine m_run ?_
    (apply TL.append 0 (n := 0) (m := es.length) (cs := []) (news := es.flatMap prC); exact rfl; exact rfl; exact tb rfl; exact rfl; exact tb rfl; exact rfl; exact rfl; exact rfl)
    · exact fun _ h => own_row (n := 0) rfl (by decide) h
    · exact rfl
    · exact has_tls hs
    · exact fun u hu => by
        obtain ⟨y, _, hy⟩ := List.mem_flatMap.1 hu
        rcases List.mem_cons.1 hy with rfl | hy
        · rfl
        · rw [List.mem_singleton.1 hy]; rfl
    · show (0 + es.length) * 16 ≤ _; omega
    · show 0 + es.length ≤ maxLen; unfold maxLen; omega
    · exact fun _ => (rfl : _ = _ :: _)
    intro B5 k5 hk5
    simp only [Nat.zero_add, List.nil_append] at hk5 ⊢
    have hsB : has (own 52 2 (.slice B5 es.length k5) es.length (es.flatMap prC) :: Γ) (srcAt 2 B5 es.length (es.flatMap prC)) := has_at (up_src _ _ _ _) 0 rfl fun _ h => own_src h
    have hsx : has (own 52 2 (.slice B5 es.length k5) es.length (es.flatMap prC) :: Γ) (srcAt 2 A es.length (es.flatMap prC)) := has_tls hs
    have hS : Γ.Sublist (own 52 2 (.slice B5 es.length k5) es.length (es.flatMap prC) :: Γ) := .cons _ (.refl _)
    generalize own 52 2 (.slice B5 es.length k5) es.length (es.flatMap prC) :: Γ = Γ0 at *
    refine m_run ?_
    (apply TL.callV; exact rfl; exact callB_of (by kernel_rfl); exact rfl; exact fun _ h => h)
    exact partsG_t n B5 k5 es _ hsB (by omega)
    rintro _ Γ1 ⟨QL, ql, L, rfl, hRL, hs1, hL0, hPL⟩
    have hsB1 := has_sublist (up_src _ _ _ _) hs1 hsB
    have hsx1 := has_sublist (up_src _ _ _ _) hs1 hsx
    refine m_run ?_
    (apply TL.callV; exact rfl; exact callB_of (by kernel_rfl); exact rfl; exact fun _ h => h)
    exact refParts_t n A c es (L.map Rw.w) _ hsx1 (by omega) hPL
    rintro _ Γ2 ⟨QR, qr, R, rfl, hRR, hs2, hR0, hRP⟩
    have hRL2 := hRL.sub hs2
    have hsB2 := has_sublist (up_src _ _ _ _) hs2 hsB1
    have hsx2 := has_sublist (up_src _ _ _ _) hs2 hsx1
    have hS2 := (hS.trans hs1).trans hs2
    have hLR : L.map Rw.w = R.map Rw.w := by
      by_cases h : pErr n es = 0
      · exact (hRP h).symm
      · rw [hL0 h, hR0 h]
    have hLs : L.length ≤ 1000000000 ∧ ∀ r ∈ L, r.w.length ≤ 1000000000 := by
      by_cases h : pErr n es = 0
      · have hn4 : n ≤ 4096 := by
          by_cases h4 : 4096 < n
          · unfold pErr at h
            rw [if_pos (.inl h4)] at h
            omega
          · omega
        obtain ⟨h1, h2⟩ := parts_rows (hPL h)
        exact ⟨by omega, fun r hr => by have := (h2 r hr).1; omega⟩
      · rw [hL0 h]
        exact ⟨by simp, fun r hr => by cases hr⟩
    have hRl : R.length = L.length := by have := congrArg List.length hLR; simpa using this.symm
    have hRs : ∀ r ∈ R, r.w.length ≤ 1000000000 := fun r hr => by
      have h1 : r.w ∈ L.map Rw.w := by rw [hLR]; exact List.mem_map_of_mem hr
      obtain ⟨y, hy, hyw⟩ := List.mem_map.1 h1
      rw [← hyw]
      exact hLs.2 y hy
    obtain ⟨e, he⟩ : ∃ e, e = pErr n es := ⟨_, rfl⟩
    rw [← he]
    clear hsB hsx hs1 hs2 hRL hsB1 hsx1 hL0 hPL hR0 hRP
    refine m_run ?_
    (apply TL.callV; exact rfl; exact callB_of (by kernel_rfl); exact rfl; exact fun _ h => h)
    exact same_t QL QR ql qr L R _ hRL2 hRR hLs.1 (by rw [hRl]; exact hLs.1) hLs.2
    rintro _ Γ2 ⟨rfl, rfl⟩
    rw [decide_eq_true hLR]
    refine m_run ?_
    (apply TL.callV; exact rfl; exact callB_of (by kernel_rfl); exact rfl; exact fun _ h => h)
    exact part_t QR qr R k _ hRR (by rw [hRl]; exact hLs.1) hRs
    rintro _ Γ2 ⟨⟨k1, rfl, hk1⟩, rfl⟩
    refine m_run ?_
    (apply TL.callV; exact rfl; exact callB_of (by kernel_rfl); exact rfl; exact fun _ h => h)
    exact refPart_t QR qr R k _ hRR (by rw [hRl]; exact hLs.1) hRs
    rintro _ Γ2 ⟨⟨k2, rfl, hk2⟩, rfl⟩
    obtain rfl := hk1.uniq hk2
    refine m_run ?_
    apply TK.iter (fun j ρ' Γ' => ∃ i : Nat, i + j = es.length ∧ lk ρ' 1 = .slice A es.length c ∧ lk ρ' 7 = .slice B5 es.length k5 ∧ lk ρ' 12 = .int .i64 (i : Int) ∧ Γ' = Γ2) es.length
    · exact ⟨0, Nat.zero_add _, rfl, rfl, rfl, rfl⟩
    rintro j IH ρ' Γ2 ⟨i, hij, e1, e7, e12, rfl⟩
    refine TK.know3 e1 e7 e12 ?_
    by_cases hi : i < es.length
    · obtain ⟨x, hx⟩ : ∃ x, es[i]? = some x := ⟨es[i], List.getElem?_eq_getElem hi⟩
      refine TK.mem fun m0 hm0 => ?_
      obtain ⟨g, u, rfl⟩ := edge_some hsx2 hm0 (by omega)
      obtain ⟨g2, u2, rfl⟩ := edge_some hsB2 hm0 (by omega)
      clear hm0 m0
      have hc1 : has Γ2 (fun m => cellsAt m g (u + i * 2) ([x.1, x.2].map (Value.int .i64))) := has_el prC_len (by decide) hsx2 hx
      have hc2 : has Γ2 (fun m => cellsAt m g2 (u2 + i * 2) ([x.1, x.2].map (Value.int .i64))) := has_el prC_len (by decide) hsB2 hx
      refine m_run ?_
      refine TK.drawS mixed rfl ?_
      refine m_take (At.mk : At 0) ?_; refine m_take (At.mk : At 1) ?_; refine m_take (At.mk : At 2) ?_
      (apply TA.takeA (At.mk : At 3); exact rfl; exact rfl; kernel_rfl; ((focus ((repeat (first | assumption | exact Ent.refl _ | apply Ent.tail)); done))); (apply PV.loadAggH; exact rfl; exact tb rfl; exact rfl; exact hc2; exact rfl))
      refine m_take (At.mk : At 4) ?_; refine m_take (At.mk : At 5) ?_; refine m_take (At.mk : At 6) ?_
      (apply TA.takeA (At.mk : At 7); exact rfl; exact rfl; kernel_rfl; ((focus ((repeat (first | assumption | exact Ent.refl _ | apply Ent.tail)); done))); (apply PV.loadAggH; exact rfl; exact tb rfl; exact rfl; exact hc1; exact rfl))
      (apply TA.takeA (At.mk : At 8); exact rfl; exact rfl; kernel_rfl; ((focus ((repeat (first | assumption | exact Ent.refl _ | apply Ent.tail)); done))); (apply PV.neSame; exact rfl; exact rfl; exact tb rfl; exact rfl; exact tb rfl; exact rfl; exact rfl; kernel_rfl; exact rfl))
      refine TA.done (by kernel_rfl) ?_
      refine m_run ?_
      exact IH (j - 1) _ _ (by omega) ⟨i + 1, by omega, rfl, rfl, congrArg (Value.int .i64) (i64_succ i (by omega)), rfl⟩
    clear IH
    refine m_run ?_
    (apply TL.callV; exact rfl; exact callB_of (by kernel_rfl); exact rfl; exact fun _ h => h)
    exact works9_t _
    rintro _ Γ3 ⟨rfl, hs3⟩
    refine m_run ?_
    (apply TK.retS1; exact rfl; exact rfl; (exact m_val))
    exact ⟨_, rfl, rfl, rfl⟩
    exact hS2.trans hs3
  | false =>
  by_cases hw : n ≤ 4096
  · refine m_run ?_
    (apply TL.callV; exact rfl; exact callB_of (by kernel_rfl); exact rfl; exact fun _ h => h)
    exact works9_t _
    rintro _ Γ1 ⟨rfl, hs1⟩
    refine m_run ?_
    (apply TK.retS1; exact rfl; exact rfl; (exact m_val))
    exact ⟨_, rfl, rfl, rfl⟩
    exact hs1
  refine m_run ?_
  by_cases hl : es.length > 20000
  · refine m_run ?_
    (apply TL.callV; exact rfl; exact callB_of (by kernel_rfl); exact rfl; exact fun _ h => h)
    exact works9_t _
    rintro _ Γ1 ⟨rfl, hs1⟩
    refine m_run ?_
    (apply TK.retS1; exact rfl; exact rfl; (exact m_val))
    exact ⟨_, rfl, rfl, rfl⟩
    exact hs1
  refine m_run ?_
  (apply TL.buildSlice (l := []); exact rfl; exact tb rfl; exact rfl; exact tb rfl; exact rfl; exact rfl; exact rfl; exact rfl; exact rfl)
  intro b54
  refine m_run ?_
  (apply TL.append 0 (n := 0) (m := es.length) (cs := []) (news := es.flatMap prC); exact rfl; exact rfl; exact tb rfl; exact rfl; exact tb rfl; exact rfl; exact rfl; exact rfl)
  · exact fun _ h => own_row (n := 0) rfl (by decide) h
  · exact rfl
  · exact has_tls hs
  · exact fun u hu => by
      obtain ⟨y, _, hy⟩ := List.mem_flatMap.1 hu
      rcases List.mem_cons.1 hy with rfl | hy
      · rfl
      · rw [List.mem_singleton.1 hy]; rfl
  · show (0 + es.length) * 16 ≤ _; omega
  · show 0 + es.length ≤ maxLen; unfold maxLen; omega
  · exact fun _ => (rfl : _ = _ :: _)
  intro B5 k5 hk5
  simp only [Nat.zero_add, List.nil_append] at hk5 ⊢
  have hsB : has (own 52 2 (.slice B5 es.length k5) es.length (es.flatMap prC) :: Γ) (srcAt 2 B5 es.length (es.flatMap prC)) := has_at (up_src _ _ _ _) 0 rfl fun _ h => own_src h
  have hsx : has (own 52 2 (.slice B5 es.length k5) es.length (es.flatMap prC) :: Γ) (srcAt 2 A es.length (es.flatMap prC)) := has_tls hs
  have hS : Γ.Sublist (own 52 2 (.slice B5 es.length k5) es.length (es.flatMap prC) :: Γ) := .cons _ (.refl _)
  generalize own 52 2 (.slice B5 es.length k5) es.length (es.flatMap prC) :: Γ = Γ0 at *
  refine m_run ?_
  (apply TL.callV; exact rfl; exact callB_of (by kernel_rfl); exact rfl; exact fun _ h => h)
  exact partsG_t n B5 k5 es _ hsB (by omega)
  rintro _ Γ1 ⟨QL, ql, L, rfl, hRL, hs1, hL0, hPL⟩
  have hsB1 := has_sublist (up_src _ _ _ _) hs1 hsB
  have hsx1 := has_sublist (up_src _ _ _ _) hs1 hsx
  refine m_run ?_
  (apply TL.callV; exact rfl; exact callB_of (by kernel_rfl); exact rfl; exact fun _ h => h)
  exact refParts_t n A c es (L.map Rw.w) _ hsx1 (by omega) hPL
  rintro _ Γ2 ⟨QR, qr, R, rfl, hRR, hs2, hR0, hRP⟩
  have hRL2 := hRL.sub hs2
  have hsB2 := has_sublist (up_src _ _ _ _) hs2 hsB1
  have hsx2 := has_sublist (up_src _ _ _ _) hs2 hsx1
  have hS2 := (hS.trans hs1).trans hs2
  have hLR : L.map Rw.w = R.map Rw.w := by
    by_cases h : pErr n es = 0
    · exact (hRP h).symm
    · rw [hL0 h, hR0 h]
  have hLs : L.length ≤ 1000000000 ∧ ∀ r ∈ L, r.w.length ≤ 1000000000 := by
    by_cases h : pErr n es = 0
    · have hn4 : n ≤ 4096 := by
        by_cases h4 : 4096 < n
        · unfold pErr at h
          rw [if_pos (.inl h4)] at h
          omega
        · omega
      obtain ⟨h1, h2⟩ := parts_rows (hPL h)
      exact ⟨by omega, fun r hr => by have := (h2 r hr).1; omega⟩
    · rw [hL0 h]
      exact ⟨by simp, fun r hr => by cases hr⟩
  have hRl : R.length = L.length := by have := congrArg List.length hLR; simpa using this.symm
  have hRs : ∀ r ∈ R, r.w.length ≤ 1000000000 := fun r hr => by
    have h1 : r.w ∈ L.map Rw.w := by rw [hLR]; exact List.mem_map_of_mem hr
    obtain ⟨y, hy, hyw⟩ := List.mem_map.1 h1
    rw [← hyw]
    exact hLs.2 y hy
  obtain ⟨e, he⟩ : ∃ e, e = pErr n es := ⟨_, rfl⟩
  rw [← he]
  clear hsB hsx hs1 hs2 hRL hsB1 hsx1 hL0 hPL hR0 hRP
  refine m_run ?_
  (apply TL.callV; exact rfl; exact callB_of (by kernel_rfl); exact rfl; exact fun _ h => h)
  exact same_t QL QR ql qr L R _ hRL2 hRR hLs.1 (by rw [hRl]; exact hLs.1) hLs.2
  rintro _ Γ2 ⟨rfl, rfl⟩
  rw [decide_eq_true hLR]
  refine m_run ?_
  (apply TL.callV; exact rfl; exact callB_of (by kernel_rfl); exact rfl; exact fun _ h => h)
  exact part_t QR qr R k _ hRR (by rw [hRl]; exact hLs.1) hRs
  rintro _ Γ2 ⟨⟨k1, rfl, hk1⟩, rfl⟩
  refine m_run ?_
  (apply TL.callV; exact rfl; exact callB_of (by kernel_rfl); exact rfl; exact fun _ h => h)
  exact refPart_t QR qr R k _ hRR (by rw [hRl]; exact hLs.1) hRs
  rintro _ Γ2 ⟨⟨k2, rfl, hk2⟩, rfl⟩
  obtain rfl := hk1.uniq hk2
  refine m_run ?_
  apply TK.iter (fun j ρ' Γ' => ∃ i : Nat, i + j = es.length ∧ lk ρ' 1 = .slice A es.length c ∧ lk ρ' 7 = .slice B5 es.length k5 ∧ lk ρ' 12 = .int .i64 (i : Int) ∧ Γ' = Γ2) es.length
  · exact ⟨0, Nat.zero_add _, rfl, rfl, rfl, rfl⟩
  rintro j IH ρ' Γ2 ⟨i, hij, e1, e7, e12, rfl⟩
  refine TK.know3 e1 e7 e12 ?_
  by_cases hi : i < es.length
  · obtain ⟨x, hx⟩ : ∃ x, es[i]? = some x := ⟨es[i], List.getElem?_eq_getElem hi⟩
    refine TK.mem fun m0 hm0 => ?_
    obtain ⟨g, u, rfl⟩ := edge_some hsx2 hm0 (by omega)
    obtain ⟨g2, u2, rfl⟩ := edge_some hsB2 hm0 (by omega)
    clear hm0 m0
    have hc1 : has Γ2 (fun m => cellsAt m g (u + i * 2) ([x.1, x.2].map (Value.int .i64))) := has_el prC_len (by decide) hsx2 hx
    have hc2 : has Γ2 (fun m => cellsAt m g2 (u2 + i * 2) ([x.1, x.2].map (Value.int .i64))) := has_el prC_len (by decide) hsB2 hx
    refine m_run ?_
    refine TK.drawS mixed rfl ?_
    refine m_take (At.mk : At 0) ?_; refine m_take (At.mk : At 1) ?_; refine m_take (At.mk : At 2) ?_
    (apply TA.takeA (At.mk : At 3); exact rfl; exact rfl; kernel_rfl; ((focus ((repeat (first | assumption | exact Ent.refl _ | apply Ent.tail)); done))); (apply PV.loadAggH; exact rfl; exact tb rfl; exact rfl; exact hc2; exact rfl))
    refine m_take (At.mk : At 4) ?_; refine m_take (At.mk : At 5) ?_; refine m_take (At.mk : At 6) ?_
    (apply TA.takeA (At.mk : At 7); exact rfl; exact rfl; kernel_rfl; ((focus ((repeat (first | assumption | exact Ent.refl _ | apply Ent.tail)); done))); (apply PV.loadAggH; exact rfl; exact tb rfl; exact rfl; exact hc1; exact rfl))
    (apply TA.takeA (At.mk : At 8); exact rfl; exact rfl; kernel_rfl; ((focus ((repeat (first | assumption | exact Ent.refl _ | apply Ent.tail)); done))); (apply PV.neSame; exact rfl; exact rfl; exact tb rfl; exact rfl; exact tb rfl; exact rfl; exact rfl; kernel_rfl; exact rfl))
    refine TA.done (by kernel_rfl) ?_
    refine m_run ?_
    exact IH (j - 1) _ _ (by omega) ⟨i + 1, by omega, rfl, rfl, congrArg (Value.int .i64) (i64_succ i (by omega)), rfl⟩
  clear IH
  refine m_run ?_
  (apply TL.callV; exact rfl; exact callB_of (by kernel_rfl); exact rfl; exact fun _ h => h)
  exact works9_t _
  rintro _ Γ3 ⟨rfl, hs3⟩
  refine m_run ?_
  (apply TK.retS1; exact rfl; exact rfl; (exact m_val))
  exact ⟨_, rfl, rfl, rfl⟩
  exact hS2.trans hs3
end Go.Proofs.Ytndmjpceocecdaa.E
