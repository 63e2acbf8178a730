/- RingOnce: what a ring answers, plainly; the walk. -/
import Derived.Test.YtdookobgkcnncaaGh
namespace Go.Proofs.Ytdookobgkcnncaa.E
open Go Go.RowKit Go.Proofs
attribute [local irreducible] TK TL TQ TA Fn PV
structure GoodE (es : List (Nat × Kv)) : Prop where
  two : noTwo es
  len : es.length ≤ 32
  keys : ∀ p ∈ es, 1 ≤ p.2.2.length ∧ p.2.2.length ≤ 64
def keyOf (es : List (Nat × Kv)) (w : Nat) : List UInt8 := ((lookE es w).map (·.2)).getD []
theorem lookE_drop {β : Type} {w w' : Nat} {L : List (Nat × β)} (h : noTwo L) : lookE (dropE L w) w' = if w = w' then none else lookE L w' := by
  have hd := noTwo_drop (w := w) h
  split
  · rename_i he
    subst he
    rw [lookE_none, dropE_filter h]
    intro hm
    obtain ⟨p, hp, hpw⟩ := List.mem_map.1 hm
    have := (List.mem_filter.1 hp).2
    simp [hpw] at this
  · rename_i he
    cases hl : lookE L w' with
    | some v =>
      rw [lookE_mem hd, dropE_filter h]
      refine List.mem_filter.2 ⟨(lookE_mem h).1 hl, by simpa using he⟩
    | none =>
      rw [lookE_none]
      intro hm
      exact lookE_none.1 hl (((dropE_sub L).map _).subset hm)
theorem lookE_put {β : Type} {w w' : Nat} {v : β} {L : List (Nat × β)} (hw : lookE L w = none) : lookE (L ++ [(w, v)]) w' = if w = w' then some v else lookE L w' := by
  rw [← setE_none hw, lookE_set]
  by_cases h : w' = w
  · simp [h]
  · rw [if_neg h, if_neg (fun e => h e.symm)]
theorem good_nil : GoodE [] := ⟨List.nodup_nil, by simp, by simp⟩
theorem good_drop {es : List (Nat × Kv)} (h : GoodE es) (w : Nat) : GoodE (dropE es w) :=
  ⟨noTwo_drop h.two, Nat.le_trans (dropE_sub es).length_le h.len, fun p hp => h.keys p ((dropE_sub es).subset hp)⟩
theorem putE_zero {n : Nat} {is : Bool} {k : Nat} (h : putE n is k = 0) : 1 ≤ k ∧ k ≤ 64 ∧ is = false ∧ n < 32 := by
  unfold putE at h
  cases is with
  | false =>
    simp only [Bool.false_eq_true, if_false] at h
    split at h
    · exact absurd h (by decide)
    · split at h
      · exact absurd h (by decide)
      · exact ⟨by omega, by omega, rfl, by omega⟩
  | true =>
    simp only [if_true] at h
    split at h <;> exact absurd h (by decide)
theorem good_put {es es' : List (Nat × Kv)} {w : Nat} {k : List UInt8} (h : GoodE es) (h1 : putE es.length (lookE es w).isSome k.length = 0 → ∃ A' c', es' = es ++ [(w, ((A', c'), k))]) (h2 : putE es.length (lookE es w).isSome k.length ≠ 0 → es' = es) :
    GoodE es' ∧ ∀ who, keyOf es' who = if w = who ∧ putE es.length (lookE es w).isSome k.length = 0 then k else keyOf es who := by
  by_cases h0 : putE es.length (lookE es w).isSome k.length = 0
  · obtain ⟨A', c', rfl⟩ := h1 h0
    obtain ⟨g1, g2, g3, g4⟩ := putE_zero h0
    have hn : lookE es w = none := by
      cases hl : lookE es w with
      | none => rfl
      | some v => rw [hl] at g3; cases g3
    refine ⟨⟨noTwo_put h.two hn, by simp; omega, ?_⟩, fun who => ?_⟩
    · intro p hp
      rcases List.mem_append.1 hp with hp | hp
      · exact h.keys p hp
      · simp at hp; subst hp; exact ⟨g1, g2⟩
    · unfold keyOf
      rw [lookE_put hn]
      by_cases hw : w = who
      · simp [hw] at h0 ⊢; simp [h0]
      · simp [hw]
  · obtain rfl := h2 h0
    exact ⟨h, fun who => by rw [if_neg (fun e => h0 e.2)]⟩
theorem keyOf_drop {es : List (Nat × Kv)} (h : GoodE es) (w who : Nat) : keyOf (dropE es w) who = if w = who ∧ (if (lookE es w).isSome then (0 : Int) else 4) = 0 then [] else keyOf es who := by
  unfold keyOf
  rw [lookE_drop h.two]
  by_cases hw : w = who
  · subst hw
    cases hl : lookE es w <;> simp
  · simp [hw]
theorem keyOf_some {es : List (Nat × Kv)} (h : GoodE es) (who : Nat) : ((lookE es who).isSome != !decide (keyOf es who = [])) = false := by
  unfold keyOf
  cases hl : lookE es who with
  | none => simp
  | some v =>
    have h1 := (h.keys _ (lookE_in hl)).1
    have : v.2 ≠ [] := fun e => by simp only [e, List.length_nil] at h1; omega
    simp [this]
theorem keyOf_len {es : List (Nat × Kv)} (h : GoodE es) : ∀ p ∈ es, p.2.2.length ≤ 1000000 := fun p hp => Nat.le_trans (h.keys p hp).2 (by decide)
theorem idx3 (o i j : Nat) : o + i * 3 + j = o + i * 3 + j := rfl
set_option maxRecDepth 100000 in
set_option maxHeartbeats 4000000 in
theorem ringOnce_t (A : Option Addr) (c : Nat) (l : List Stp) (who : Nat) (Γ : List HP) (h : stpsOk A l Γ) : FnV Try.prog 4 [.slice A l.length c, .int .u32 (who : Int)] Γ fun v Γ' => v = .bool true ∧ Γ' = Γ := by
  refine Fn.enter Try.func4 rfl rfl rfl fun E => ?_
  refine m_run ?_
  (apply TL.callV; exact rfl; exact callB_of (by kernel_rfl); exact rfl; exact fun _ h => h)
  exact few_t A c l Γ h
  rintro _ Γ ⟨rfl, rfl⟩
  cases hf : fewB l with
  | false =>
    refine m_run ?_
    (apply TL.callV; exact rfl; exact callB_of (by kernel_rfl); exact rfl; exact fun _ h => h)
    exact works_t _
    rintro _ _ ⟨rfl, rfl⟩
    refine m_run ?_
    (apply TK.ret1; exact rfl; exact rfl; (exact m_val))
    exact ⟨_, rfl, rfl, rfl⟩
  | true =>
  obtain ⟨hln, hks⟩ := few_all hf
  refine m_run ?_
  (apply TL.callV; exact rfl; exact callB_of (by kernel_rfl); exact rfl; exact fun _ h => h)
  exact new_t Γ
  rintro _ _ ⟨br, mb, rfl, rfl⟩
  refine m_run ?_
  apply TK.iter (fun j ρ' Γ' => ∃ (i : Nat) (es : List (Nat × Kv)), l.length = i + j ∧ GoodE es ∧ lk ρ' 0 = .slice A l.length c ∧ lk ρ' 1 = .int .u32 (who : Int) ∧ lk ρ' 5 = .pointer (some ⟨br, 0, none⟩) ∧ lk ρ' 6 = .string (S (keyOf es who)) ∧ lk ρ' 7 = .int .i64 (i : Int) ∧ Γ' = ringA br mb es Γ) l.length
  · exact ⟨0, [], by omega, good_nil, rfl, rfl, rfl, rfl, rfl, rfl⟩
  rintro j IH ρ' _ ⟨i, es, hj, hg, e0, e1, e5, e6, e7, rfl⟩
  refine TK.know5 e0 e1 e5 e6 e7 ?_
  by_cases hi : i < l.length
  · refine TK.mem fun m0 hm0 => ?_
    have hr : stpsOk A l (ringA br mb es Γ) := stps_tl (stps_tl (stps_tl h))
    obtain ⟨b, o, rfl⟩ := src_some (hr.1 m0 hm0) (by rw [stps_len]; omega)
    clear hm0 m0
    obtain ⟨s, hs⟩ : ∃ s, l[i]? = some s := ⟨l[i], by simp [hi]⟩
    have hsm := List.mem_of_getElem? hs
    have hsk := hks s hsm
    have hel := has_el (sz := 3) (f := Stp.cells) (fun _ => rfl) (by decide) h.1 hs
    have hc0 := has_cell hel 0 rfl
    have hc1 := has_cell hel 1 rfl
    have hc2 := has_cell hel 2 rfl
    have hk0 := h.2 s hsm
    refine m_run ?_
    refine TK.cut (fun ρ' Γ' => ∃ (es' : List (Nat × Kv)) (e : Int), GoodE es' ∧ keyOf es' who = (if s.w = who ∧ e = 0 then (if s.d then [] else s.k) else keyOf es who) ∧ lk ρ' 0 = .slice (some ⟨b, o, none⟩) l.length c ∧ lk ρ' 1 = .int .u32 (who : Int) ∧ lk ρ' 5 = .pointer (some ⟨br, 0, none⟩) ∧ lk ρ' 6 = .string (S (keyOf es who)) ∧ lk ρ' 7 = .int .i64 (i : Int) ∧ lk ρ' 8 = .int .i64 e ∧ Γ' = ringA br mb es' Γ) ?_ ?_
    · intro k' hk'
      refine TK.cond (c := 26) (t := s.d) rfl (fun hd => ?_) (fun hd => ?_)
      · refine m_run ?_
        (apply TL.callV; exact rfl; exact callB_of (by kernel_rfl); exact rfl; exact fun _ h => h)
        exact drop_t br mb s.w es Γ (Nat.le_trans hg.len (by decide))
        rintro _ _ ⟨rfl, rfl⟩
        refine m_run ?_
        exact hk' _ _ ⟨_, _, good_drop hg s.w, by rw [keyOf_drop hg, hd]; rfl, rfl, rfl, rfl, rfl, rfl, rfl, rfl⟩
      · refine m_run ?_
        refine TK.drawE mixed rfl Γ ?_
        refine m_take (At.mk : At 0) ?_; refine m_take (At.mk : At 1) ?_; refine m_take (At.mk : At 2) ?_; refine m_take (At.mk : At 3) ?_; refine m_take (At.mk : At 4) ?_; refine m_take (At.mk : At 5) ?_; refine m_take (At.mk : At 6) ?_; refine m_take (At.mk : At 7) ?_; refine m_take (At.mk : At 8) ?_; refine m_take (At.mk : At 9) ?_; refine m_take (At.mk : At 10) ?_
        (apply TA.one 11; kernel_rfl; exact rfl)
        (apply TL.callV; exact rfl; exact callB_of (by kernel_rfl); exact rfl; exact fun _ h => h)
        exact put_t br mb s.w es s.A s.c s.k Γ hk0 (by omega) (Nat.le_trans hg.len (by decide))
        rintro _ _ ⟨rfl, es2, rfl, h1, h2⟩
        obtain ⟨g1, g2⟩ := good_put hg h1 h2
        refine TL.back (by (focus ((repeat (first | assumption | exact Ent.refl _ | apply Ent.tail)); done))) ?_
        refine m_take (At.mk : At 12) ?_
        refine TA.done (by kernel_rfl) ?_
        refine m_run ?_
        exact hk' _ _ ⟨_, _, g1, by rw [g2, hd]; rfl, rfl, rfl, rfl, rfl, rfl, rfl, rfl⟩
    rintro ρ2 _ ⟨es2, e, hg2, hk2, f0, f1, f5, f6, f7, f8, rfl⟩
    refine TK.know6 f0 f1 f5 f6 f7 f8 ?_
    (repeat (first | refine TK.seq ?_ | refine TK.skip ?_))
    refine TK.cut (fun ρ' Γ' => lk ρ' 56 = .bool (decide (s.w = who ∧ e = 0)) ∧ lk ρ' 0 = .slice (some ⟨b, o, none⟩) l.length c ∧ lk ρ' 1 = .int .u32 (who : Int) ∧ lk ρ' 5 = .pointer (some ⟨br, 0, none⟩) ∧ lk ρ' 6 = .string (S (keyOf es who)) ∧ lk ρ' 7 = .int .i64 (i : Int) ∧ Γ' = ringA br mb es2 Γ) ?_ ?_
    · intro k' hk'
      by_cases hw : s.w = who
      · by_cases he : e = 0
        · refine m_run ?_
          exact hk' _ _ ⟨congrArg Value.bool (by simp [hw, he]), rfl, rfl, rfl, rfl, rfl, rfl⟩
        · refine m_run ?_
          exact hk' _ _ ⟨congrArg Value.bool (by simp [hw, he]), rfl, rfl, rfl, rfl, rfl, rfl⟩
      · refine m_run ?_
        exact hk' _ _ ⟨congrArg Value.bool (by simp [hw]), rfl, rfl, rfl, rfl, rfl, rfl⟩
    rintro ρ5 _ ⟨q56, q0, q1, q5, q6, q7, rfl⟩
    refine TK.know6 q56 q0 q1 q5 q6 q7 ?_
    (repeat (first | refine TK.seq ?_ | refine TK.skip ?_))
    refine TK.cut (fun ρ' Γ' => lk ρ' 0 = .slice (some ⟨b, o, none⟩) l.length c ∧ lk ρ' 1 = .int .u32 (who : Int) ∧ lk ρ' 5 = .pointer (some ⟨br, 0, none⟩) ∧ lk ρ' 6 = .string (S (keyOf es2 who)) ∧ lk ρ' 7 = .int .i64 (i : Int) ∧ Γ' = ringA br mb es2 Γ) ?_ ?_
    · intro k' hk'
      refine TK.cond (c := 56) (t := decide (s.w = who ∧ e = 0)) rfl (fun hd => ?_) (fun hd => ?_)
      · rw [if_pos (of_decide_eq_true hd)] at hk2
        cases hdr : s.d with
        | true =>
          rw [hdr] at hc0 hk2
          refine m_run ?_
          exact hk' _ _ ⟨rfl, rfl, rfl, by rw [hk2]; rfl, rfl, rfl⟩
        | false =>
          rw [hdr] at hc0 hk2
          refine m_run ?_
          exact hk' _ _ ⟨rfl, rfl, rfl, by rw [hk2]; rfl, rfl, rfl⟩
      · rw [if_neg (of_decide_eq_false hd)] at hk2
        refine m_run ?_
        exact hk' _ _ ⟨rfl, rfl, rfl, by rw [hk2]; rfl, rfl, rfl⟩
    rintro ρ3 _ ⟨g0, g1, g5, g6, g7, rfl⟩
    refine TK.know5 g0 g1 g5 g6 g7 ?_
    have hsome := keyOf_some hg2 who
    have hlen2 := keyOf_len hg2
    refine m_run ?_
    (apply TL.callV; exact rfl; exact callB_of (by kernel_rfl); exact rfl; exact fun _ h => h)
    exact key_t br mb who es2 Γ hlen2
    rintro _ _ ⟨A2, c2, rfl, rfl⟩
    refine TL.perm (Δ := ringA br mb es2 (bsA 5 (kvV ((A2, c2), keyOf es2 who)) (keyOf es2 who) :: Γ)) behind3 ?_
    have hbs : has (ringA br mb es2 (bsA 5 (kvV ((A2, c2), keyOf es2 who)) (keyOf es2 who) :: Γ)) (srcAt 1 A2 (keyOf es2 who).length (bytesV (keyOf es2 who))) := has_bs 3 rfl
    refine m_run ?_
    (apply TL.callV; exact rfl; exact callB_of (by kernel_rfl); exact rfl; exact fun _ h => h)
    exact list_t br mb es2 _ (Nat.le_trans hg2.len (by decide))
    rintro _ _ ⟨A3, c3, L, rfl, hp, _, rfl⟩
    have hL : L.length = es2.length := by simpa using hp.length_eq
    have hL2 := hg2.len
    refine m_run ?_
    refine TK.sub (Δ := ringA br mb es2 Γ) (by (repeat (first | exact List.Sublist.refl _ | apply List.Sublist.cons_cons | apply List.Sublist.cons))) ?_
    exact IH (j - 1) _ _ (by omega) ⟨i + 1, es2, by omega, hg2, rfl, rfl, rfl, rfl, congrArg (Value.int .i64) (i64_succ i (by omega)), rfl⟩
  · refine m_run ?_
    (apply TL.callV; exact rfl; exact callB_of (by kernel_rfl); exact rfl; exact fun _ h => h)
    exact works_t _
    rintro _ _ ⟨rfl, rfl⟩
    refine m_run ?_
    (apply TK.retS1; exact rfl; exact rfl; (exact m_val))
    exact ⟨_, rfl, rfl, rfl⟩
    (repeat (first | exact List.Sublist.refl _ | apply List.Sublist.cons_cons | apply List.Sublist.cons))
end Go.Proofs.Ytdookobgkcnncaa.E
