/- The document's ring: Put, walked. -/
import Derived.Test.YtdookobgkcnncaaGm
namespace Go.Proofs.Ytdookobgkcnncaa.E
open Go Go.RowKit Go.Proofs
attribute [local irreducible] TK TL TQ TA TB Fn PV
theorem mid_set {α : Type} (L : List α) (a : Nat) (x y : α) (ha : a ≤ L.length) : (L.take a ++ x :: L.drop a).set a y = L.take a ++ y :: L.drop a := by
  have h : (L.take a).length = a := by simp; omega
  rw [List.set_append_right _ _ (by omega), h, Nat.sub_self]; rfl
theorem mid_down {α : Type} (L : List α) (a : Nat) (x : α) (h : L[a]? = some x) : L.take (a + 1) ++ x :: L.drop (a + 1) = L.take a ++ x :: L.drop a := by
  have hl := (List.getElem?_eq_some_iff.1 h)
  rw [List.take_add_one, h, List.drop_eq_getElem_cons hl.1, hl.2]
  simp
theorem entsC_set (L : Kys) (a : Nat) (y : Nat × List UInt8) (ha : a < L.length) : (entsC L).take (a * 2) ++ entC y ++ (entsC L).drop (a * 2 + 2) = entsC (L.set a y) := by
  rw [show a * 2 + 2 = (a + 1) * 2 by omega, ← flat_take (f := entC) (sz := 2) (fun _ => rfl), ← flat_drop (f := entC) (sz := 2) (fun _ => rfl), List.set_eq_take_append_cons_drop, if_pos ha]
  simp [entsC]
theorem mid_len {α : Type} (L : List α) (a : Nat) (x : α) (ha : a ≤ L.length) : (L.take a ++ x :: L.drop a).length = L.length + 1 := by simp; omega
abbrev docX (bd g c n : Nat) (X : Kys) (Γ : List HP) : List HP := row bd [.slice (some ⟨g, 0, none⟩) n c] 30 :: own 43 2 (.slice (some ⟨g, 0, none⟩) n c) n (entsC X) :: Γ
set_option maxRecDepth 100000 in
set_option maxHeartbeats 4000000 in
theorem putD_t (bd w : Nat) (A : Option Addr) (c : Nat) (L : Kys) (B : Option Addr) (d : Nat) (k : List UInt8) (Γ : List HP) (hk : has Γ (srcAt 1 B k.length (bytesV k))) (hn : L.length ≤ 1000000) :
    FnV Try.prog 12 [.pointer (some ⟨bd, 0, none⟩), .int .u32 (w : Int), .slice B k.length d] (docA bd A c L Γ)
      fun v Γ' => v = .int .i64 (putE L.length (lookE L w).isSome k.length) ∧ ∃ A' c' L', Γ' = docA bd A' c' L' Γ ∧ (putE L.length (lookE L w).isSome k.length = 0 → ∃ a, a ≤ L.length ∧ L' = L.take a ++ (w, k) :: L.drop a ∧ (∀ p ∈ L.drop a, w < p.1) ∧ (∀ p, 0 < a → L[a - 1]? = some p → p.1 ≤ w)) ∧ (putE L.length (lookE L w).isSome k.length ≠ 0 → L' = L) := by
  refine Fn.enter Try.func12 rfl rfl rfl fun E => ?_
  have hs := doc_src bd A c L Γ
  generalize hq : putE L.length (lookE L w).isSome k.length = q
  have hq' := hq
  unfold putE at hq'
  by_cases h1 : k.length < 1 ∨ 64 < k.length
  · rw [if_pos h1] at hq'
    by_cases h2 : k.length < 1
    · refine m_run ?_
      (apply TK.ret1; exact rfl; exact rfl; (exact m_val))
      exact ⟨_, rfl, by rw [← hq'], A, c, L, rfl, fun h => by omega, fun _ => rfl⟩
    · refine m_run ?_
      (apply TK.ret1; exact rfl; exact rfl; (exact m_val))
      exact ⟨_, rfl, by rw [← hq'], A, c, L, rfl, fun h => by omega, fun _ => rfl⟩
  rw [if_neg h1] at hq'
  refine m_run ?_
  (apply TL.callV; exact rfl; exact callB_of (by kernel_rfl); exact rfl; exact fun _ h => h)
  exact place_t bd w A c L _ (has_row 0 rfl rfl) hs hn
  rintro _ _ ⟨⟨z, rfl, hz⟩, rfl⟩
  rcases hz with ⟨rfl, hl⟩ | ⟨i, k', rfl, hp, hl, hd⟩
  rotate_left
  · rw [hl] at hq'
    simp only [Option.isSome_some, if_true] at hq'
    refine m_run ?_
    (apply TK.ret1; exact rfl; exact rfl; (exact m_val))
    exact ⟨_, rfl, by rw [← hq'], A, c, L, rfl, fun h => by omega, fun _ => rfl⟩
  rw [hl] at hq'
  simp only [Option.isSome_none, Bool.false_eq_true, if_false] at hq'
  by_cases h3 : 32 ≤ L.length
  · rw [if_pos h3] at hq'
    refine m_run ?_
    (apply TK.ret1; exact rfl; exact rfl; (exact m_val))
    exact ⟨_, rfl, by rw [← hq'], A, c, L, rfl, fun h => by omega, fun _ => rfl⟩
  rw [if_neg h3] at hq'
  refine m_run ?_
  (apply TL.pv; exact rfl; (apply PV.build tabs; exact rfl; exact rfl; exact rfl; exact rfl; exact rfl; exact (rfl : _ = entC (0, []))))
  (apply TL.buildSlice (l := entC (0, [])); exact rfl; exact tb rfl; exact rfl; exact tb rfl; exact rfl; exact rfl; exact rfl; exact rfl; exact rfl)
  intro b1
  refine m_run ?_
  (apply TL.append 2; exact rfl; exact rfl; exact tb rfl; exact rfl; exact tb rfl; exact rfl; exact rfl; exact rfl)
  · exact fun _ h => h
  · exact rfl
  · exact has_src_row 0 rfl rfl
  · exact entC_one [(0, [])]
  · show (L.length + 1) * 24 ≤ _; omega
  · show L.length + 1 ≤ maxLen; unfold maxLen; omega
  · exact fun _ => (rfl : _ = _ :: _ :: _ :: _)
  intro A2 c2 hc2
  refine m_rrun ?_
  refine TL.nil ?_
  refine TK.drop ?_
  refine TK.mem fun m0 hm0 => ?_
  obtain ⟨g, rfl⟩ : ∃ g, A2 = some ⟨g, 0, none⟩ := by
    obtain ⟨_, _, _, _, _, ⟨x, _, _, _, ⟨_, ⟨_, h, _⟩ | ⟨g, cap, cur, hv, _⟩⟩, _⟩⟩ := hm0
    · omega
    · injection hv with hv _ _
      exact ⟨g, hv⟩
  clear hm0 m0
  have hX0 : entsC L ++ entC (0, []) = entsC (L.take L.length ++ (0, []) :: L.drop L.length) := by simp [entsC]
  rw [hX0]
  (repeat (first | refine TK.seq ?_ | refine TK.skip ?_))
  refine TK.cut (fun ρ' Γ' => ∃ (a : Nat) (junk : Nat × List UInt8), a ≤ L.length ∧ (∀ p ∈ L.drop a, w < p.1) ∧ (∀ p, 0 < a → L[a - 1]? = some p → p.1 ≤ w) ∧ lk ρ' 0 = .pointer (some ⟨bd, 0, none⟩) ∧ lk ρ' 1 = .int .u32 (w : Int) ∧ lk ρ' 2 = .slice B k.length d ∧ lk ρ' 7 = .int .i64 (a : Int) ∧ Γ' = docX bd g c2 (L.length + 1) (L.take a ++ junk :: L.drop a) Γ) ?_ ?_
  · intro k' hk'
    refine TK.block ?_
    apply TK.iter (fun j ρ' Γ' => ∃ (junk : Nat × List UInt8), j ≤ L.length ∧ (∀ p ∈ L.drop j, w < p.1) ∧ lk ρ' 0 = .pointer (some ⟨bd, 0, none⟩) ∧ lk ρ' 1 = .int .u32 (w : Int) ∧ lk ρ' 2 = .slice B k.length d ∧ lk ρ' 7 = .int .i64 (j : Int) ∧ Γ' = docX bd g c2 (L.length + 1) (L.take j ++ junk :: L.drop j) Γ) L.length
    · exact ⟨(0, []), Nat.le_refl _, by simp, rfl, rfl, rfl, rfl, rfl⟩
    rintro a IH ρ' _ ⟨junk, ha, hgt, e0, e1, e2, e7, rfl⟩
    refine TK.know4 e0 e1 e2 e7 ?_
    by_cases h0 : a = 0
    · subst h0
      refine m_run ?_
      exact hk' _ _ ⟨0, junk, ha, hgt, fun p h => absurd h (Nat.lt_irrefl 0), rfl, rfl, rfl, rfl, rfl⟩
    obtain ⟨a, rfl⟩ : ∃ a', a = a' + 1 := ⟨a - 1, by omega⟩
    obtain ⟨p, hp⟩ : ∃ p, L[a]? = some p := ⟨L[a]'(by omega), List.getElem?_eq_getElem (by omega)⟩
    have hXp : (L.take (a + 1) ++ junk :: L.drop (a + 1))[a]? = some p := by
      rw [List.getElem?_append_left (by simp; omega), List.getElem?_take, if_pos (by omega), hp]
    have hs2 : has (docX bd g c2 (L.length + 1) (L.take (a + 1) ++ junk :: L.drop (a + 1)) Γ) (srcAt 2 (some ⟨g, 0, none⟩) (L.length + 1) (entsC (L.take (a + 1) ++ junk :: L.drop (a + 1)))) := has_at (up_src _ _ _ _) 1 rfl fun _ h => own_src h
    have hel := has_el (sz := 2) (f := entC) (fun _ => rfl) (by decide) hs2 hXp
    have hc0 := has_cell hel 0 rfl
    rw [Nat.zero_add] at hel hc0
    refine m_run ?_
    refine TL.know (t := 49) (v := .int .i64 (a : Int)) (congrArg (Value.int .i64) (by rw [i64_in (by omega) (by omega)]; omega)) ?_
    by_cases hw : w < p.1
    · refine m_run ?_
      refine TK.drawB mixed rfl 14 (docX bd g c2 (L.length + 1) (L.take (a + 1) ++ junk :: L.drop (a + 1)) Γ) Γ ?_
      refine m_bake (At.mk : At 0) ?_; refine m_bake (At.mk : At 1) ?_; refine m_bake (At.mk : At 2) ?_; refine m_bake (At.mk : At 3) ?_; refine m_bake (At.mk : At 4) ?_; refine m_bake (At.mk : At 5) ?_; refine m_bake (At.mk : At 6) ?_; refine m_bake (At.mk : At 7) ?_; refine m_bake (At.mk : At 8) ?_; refine m_bake (At.mk : At 9) ?_; refine m_bake (At.mk : At 10) ?_
      refine TB.know (t := 66) (v := .int .i64 (a : Int)) (congrArg (Value.int .i64) (by rw [i64_in (by omega) (by omega)]; omega)) ?_
      refine m_bake (At.mk : At 11) ?_; refine m_bake (At.mk : At 12) ?_; refine m_bake (At.mk : At 13) ?_
      (apply TB.last; kernel_rfl; exact rfl)
      (apply TL.storeOwnA 1 (a + 1); exact rfl; exact rfl; exact rfl; exact rfl; exact tb rfl; exact rfl; exact rfl; exact rfl; exact (by omega); exact entsC_set _ (a + 1) p (by rw [mid_len _ _ _ ha]; omega); exact rfl)
      refine TL.back (by (focus ((repeat (first | assumption | exact Ent.refl _ | apply Ent.tail)); done))) ?_
      refine TA.done (by kernel_rfl) ?_
      rw [mid_set L (a + 1) junk p ha, mid_down L a p hp]
      refine m_run ?_
      refine IH a _ _ (by omega) ⟨p, by omega, ?_, rfl, rfl, rfl, congrArg (Value.int .i64) (by rw [i64_in (by omega) (by omega)]; omega), rfl⟩
      intro q hq
      rw [List.drop_eq_getElem_cons (by omega), (List.getElem?_eq_some_iff.1 hp).2] at hq
      rcases List.mem_cons.1 hq with rfl | hq
      · exact hw
      · exact hgt q hq
    · refine m_run ?_
      refine hk' _ _ ⟨a + 1, junk, ha, hgt, fun q _ hq => ?_, rfl, rfl, rfl, rfl, rfl⟩
      rw [Nat.add_sub_cancel, hp] at hq
      injection hq with hq
      subst hq
      omega
  rintro ρ2 _ ⟨a, junk, ha, hgt, hle, e0, e1, e2, e7, rfl⟩
  refine TK.know4 e0 e1 e2 e7 ?_
  have hk2 : has (docX bd g c2 (L.length + 1) (L.take a ++ junk :: L.drop a) Γ) (srcAt 1 B k.length (bytesV k)) := has_tls (has_tls hk)
  refine m_run ?_
  refine TK.drawB mixed rfl 10 (docX bd g c2 (L.length + 1) (L.take a ++ junk :: L.drop a) Γ) Γ ?_
  refine m_bake (At.mk : At 0) ?_; refine m_bake (At.mk : At 1) ?_; refine m_bake (At.mk : At 2) ?_; refine m_bake (At.mk : At 3) ?_; refine m_bake (At.mk : At 4) ?_; refine m_bake (At.mk : At 5) ?_; refine m_bake (At.mk : At 6) ?_; refine m_bake (At.mk : At 7) ?_
  (apply TB.takeA (At.mk : At 8); exact rfl; exact rfl; kernel_rfl; exact rfl; ((focus ((repeat (first | assumption | exact Ent.refl _ | apply Ent.tail)); done))); (apply PV.build tabs; exact rfl; exact rfl; exact rfl; exact rfl; exact rfl; exact (rfl : _ = entC (w, k))))
  refine m_bake (At.mk : At 9) ?_
  (apply TB.last; kernel_rfl; exact rfl)
  (apply TL.storeOwnA 1 a; exact rfl; exact rfl; exact rfl; exact rfl; exact tb rfl; exact rfl; exact rfl; exact rfl; exact (by omega); exact entsC_set _ a (w, k) (by rw [mid_len _ _ _ ha]; omega); exact rfl)
  refine TL.back (by (focus ((repeat (first | assumption | exact Ent.refl _ | apply Ent.tail)); done))) ?_
  refine TA.done (by kernel_rfl) ?_
  rw [mid_set L a junk (w, k) ha, ← mid_len L a (w, k) ha]
  refine m_run ?_
  (apply TK.ret1; exact rfl; exact rfl; (exact m_val))
  exact ⟨_, rfl, by rw [← hq'], _, c2, _, rfl, fun _ => ⟨a, ha, rfl, hgt, hle⟩, fun h => absurd hq'.symm h⟩
end Go.Proofs.Ytdookobgkcnncaa.E
