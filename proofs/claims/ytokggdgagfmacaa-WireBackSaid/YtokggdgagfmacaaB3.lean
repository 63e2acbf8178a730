/- The document's Same, walked. -/
import Derived.Test.YtokggdgagfmacaaB2
namespace Go.Proofs.Ytokggdgagfmacaa.E
open Go Go.RowKit Go.Proofs
attribute [local irreducible] TK TL TQ TA Fn PV
set_option maxRecDepth 100000 in
set_option maxHeartbeats 2000000 in
theorem rsame_t (a b : Cl) (Γ : List HP) (ha : a.ok Γ) (hb : b.ok Γ) (hn : a.small) :
    FnV Try.prog 29 [.agg a.cells.toArray, .agg b.cells.toArray] Γ fun v Γ' => v = .bool (sameC a b) ∧ Γ' = Γ := by
  refine Fn.enter Try.func29 rfl rfl rfl fun E => ?_
  obtain ⟨⟨hp, hA, hc, hl⟩, A, c, l⟩ := a
  obtain ⟨⟨kp, kA, kc, kl⟩, B, d, m⟩ := b
  have hs : has Γ (srcAt 3 A l.length (ltsC l)) := ha.2.1
  have ht : has Γ (srcAt 3 B m.length (ltsC m)) := hb.2.1
  have ha0 : ∀ x ∈ l, x.a.ok Γ := ha.2.2.2
  have hb0 : ∀ x ∈ m, x.a.ok Γ := hb.2.2.2
  have hn1 : l.length ≤ 1000000 := hn.1
  have hn3 : ∀ x ∈ l, x.a.l.length ≤ 1000000 := hn.2.2
  refine m_run ?_
  (apply TL.box; exact rfl; exact rfl; (exact m_lst))
  intro b1
  refine m_run ?_
  (apply TL.box; exact rfl; exact rfl; (exact m_lst))
  intro b2
  refine TL.imp (Δ := row b2 [.int .u32 (kp : Int), .slice kA kl.length kc, .slice B m.length d] 45 :: row b1 [.int .u32 (hp : Int), .slice hA hl.length hc, .slice A l.length c] 45 :: Γ) (fun _ h => h) ?_
  refine m_run ?_
  (apply TL.callV; exact rfl; exact callB_of (by kernel_rfl); exact rfl; exact fun _ h => h)
  exact rsameAtom_t ⟨hp, hA, hc, hl⟩ ⟨kp, kA, kc, kl⟩ _ (Atm.ok_tl (Atm.ok_tl ha.1)) (Atm.ok_tl (Atm.ok_tl hb.1)) hn.2.1
  rintro _ _ ⟨rfl, rfl⟩
  cases hh : sameA ⟨hp, hA, hc, hl⟩ ⟨kp, kA, kc, kl⟩ with
  | false =>
    refine m_run ?_
    (apply TK.retS1; exact rfl; exact rfl; (exact m_val))
    · exact ⟨_, rfl, by simp [sameC, hh], rfl⟩
    · (repeat (first | exact List.Sublist.refl _ | apply List.Sublist.cons_cons | apply List.Sublist.cons))
  | true =>
    by_cases hlm : l.length = m.length
    · refine m_run ?_
      apply TK.iter (fun j ρ' Γ' => ∃ i : Nat, i + j = l.length ∧ sameLs (l.take i) (m.take i) = true ∧ lk ρ' 2 = .pointer (some ⟨b1, 0, none⟩) ∧ lk ρ' 3 = .pointer (some ⟨b2, 0, none⟩) ∧ lk ρ' 5 = .int .i64 (i : Int) ∧ Γ' = row b2 [.int .u32 (kp : Int), .slice kA kl.length kc, .slice B m.length d] 45 :: row b1 [.int .u32 (hp : Int), .slice hA hl.length hc, .slice A l.length c] 45 :: Γ) l.length
      · exact ⟨0, Nat.zero_add _, rfl, rfl, rfl, rfl, rfl⟩
      rintro j IH ρ' _ ⟨i, hij, htk, e2, e3, e5, rfl⟩
      refine TK.know3 e2 e3 e5 ?_
      by_cases hi : i < l.length
      · obtain ⟨x, hx⟩ : ∃ x, l[i]? = some x := ⟨l[i], List.getElem?_eq_getElem hi⟩
        obtain ⟨y, hy⟩ : ∃ y, m[i]? = some y := ⟨m[i], List.getElem?_eq_getElem (by omega)⟩
        have hst := sameLs_take i htk hx hy
        have hxm := List.mem_of_getElem? hx
        have hym := List.mem_of_getElem? hy
        refine TK.mem fun m0 hm0 => ?_
        obtain ⟨b, o, rfl⟩ := src_some (has_tls (has_tls hs) m0 hm0) (by rw [ltsC_len]; omega)
        obtain ⟨b', o', rfl⟩ := src_some (has_tls (has_tls ht) m0 hm0) (by rw [ltsC_len]; omega)
        clear hm0 m0
        obtain ⟨_, hx2, hx3⟩ := has_lit (has_tls (K := row b2 [.int .u32 (kp : Int), .slice kA kl.length kc, .slice (some ⟨b', o', none⟩) m.length d] 45) (has_tls (K := row b1 [.int .u32 (hp : Int), .slice hA hl.length hc, .slice (some ⟨b, o, none⟩) l.length c] 45) hs)) hx
        obtain ⟨_, hy2, hy3⟩ := has_lit (has_tls (K := row b2 [.int .u32 (kp : Int), .slice kA kl.length kc, .slice (some ⟨b', o', none⟩) m.length d] 45) (has_tls (K := row b1 [.int .u32 (hp : Int), .slice hA hl.length hc, .slice (some ⟨b, o, none⟩) l.length c] 45) ht)) hy
        refine m_run ?_
        refine TK.drawS mixed rfl ?_
        refine m_take (At.mk : At 0) ?_; refine m_take (At.mk : At 1) ?_; refine m_take (At.mk : At 2) ?_; refine m_take (At.mk : At 3) ?_; refine m_take (At.mk : At 4) ?_; refine m_take (At.mk : At 5) ?_; refine m_take (At.mk : At 6) ?_; refine m_take (At.mk : At 7) ?_; refine m_take (At.mk : At 8) ?_; refine m_take (At.mk : At 9) ?_; refine m_take (At.mk : At 10) ?_; refine m_take (At.mk : At 11) ?_; refine m_take (At.mk : At 12) ?_
        by_cases hno : x.no = y.no
        · refine TA.isF 40 rfl (by rw [hno]; simp) ?_
          refine m_take (At.mk : At 13) ?_; refine m_take (At.mk : At 14) ?_; refine m_take (At.mk : At 15) ?_; refine m_take (At.mk : At 16) ?_; refine m_take (At.mk : At 17) ?_; refine m_take (At.mk : At 18) ?_; refine m_take (At.mk : At 19) ?_; refine m_take (At.mk : At 20) ?_; refine m_take (At.mk : At 21) ?_; refine m_take (At.mk : At 22) ?_; refine m_take (At.mk : At 23) ?_; refine m_take (At.mk : At 24) ?_; refine m_take (At.mk : At 25) ?_
          (apply TA.one 26; kernel_rfl; exact rfl)
          refine m_rrun ?_
          (apply TL.callV; exact rfl; exact callB_of (by kernel_rfl); exact rfl; exact fun _ h => h)
          exact rsameAtom_t x.a y.a _ (Atm.ok_tl (Atm.ok_tl (ha0 x hxm))) (Atm.ok_tl (Atm.ok_tl (hb0 y hym))) (hn3 x hxm)
          rintro _ _ ⟨rfl, rfl⟩
          refine TL.back (by (focus ((repeat (first | assumption | exact Ent.refl _ | apply Ent.tail)); done))) ?_
          refine m_take (At.mk : At 27) ?_; refine m_take (At.mk : At 28) ?_
          refine TA.done (by kernel_rfl) ?_
          cases hv : sameA x.a y.a with
          | true =>
            rw [hv, hno] at hst
            have h1 := hst.1
            refine m_run ?_
            exact IH (j - 1) _ _ (by omega) ⟨i + 1, by omega, by rw [h1]; simp, rfl, rfl, congrArg (Value.int .i64) (i64_succ i (by omega)), rfl⟩
          | false =>
            have := hst.2 (by rw [hv]; simp)
            refine m_run ?_
            (apply TK.retS1; exact rfl; exact rfl; (exact m_val))
            · exact ⟨_, rfl, by simp [sameC, this], rfl⟩
            · (repeat (first | exact List.Sublist.refl _ | apply List.Sublist.cons_cons | apply List.Sublist.cons))
        · refine TA.isT 40 rfl (by cases hxn : x.no <;> cases hyn : y.no <;> simp_all) ?_
          refine m_take (At.mk : At 13) ?_; refine m_take (At.mk : At 14) ?_; refine m_take (At.mk : At 15) ?_; refine m_take (At.mk : At 16) ?_; refine m_take (At.mk : At 17) ?_; refine m_take (At.mk : At 18) ?_; refine m_take (At.mk : At 19) ?_; refine m_take (At.mk : At 20) ?_; refine m_take (At.mk : At 21) ?_; refine m_take (At.mk : At 22) ?_; refine m_take (At.mk : At 23) ?_; refine m_take (At.mk : At 24) ?_; refine m_take (At.mk : At 25) ?_; refine m_take (At.mk : At 26) ?_; refine m_take (At.mk : At 27) ?_; refine m_take (At.mk : At 28) ?_
          refine TA.done (by kernel_rfl) ?_
          have := hst.2 (by simp [hno])
          refine m_run ?_
          (apply TK.retS1; exact rfl; exact rfl; (exact m_val))
          · exact ⟨_, rfl, by simp [sameC, this], rfl⟩
          · (repeat (first | exact List.Sublist.refl _ | apply List.Sublist.cons_cons | apply List.Sublist.cons))
      obtain rfl : i = l.length := by omega
      rw [List.take_length, hlm, List.take_length] at htk
      refine m_run ?_
      (apply TK.retS1; exact rfl; exact rfl; (exact m_val))
      · exact ⟨_, rfl, by simp [sameC, hh, htk], rfl⟩
      · (repeat (first | exact List.Sublist.refl _ | apply List.Sublist.cons_cons | apply List.Sublist.cons))
    · have := sameLs_neq hlm
      refine m_run ?_
      (apply TK.retS1; exact rfl; exact rfl; (exact m_val))
      · exact ⟨_, rfl, by simp [sameC, this], rfl⟩
      · (repeat (first | exact List.Sublist.refl _ | apply List.Sublist.cons_cons | apply List.Sublist.cons))
end Go.Proofs.Ytokggdgagfmacaa.E
