/- RingPlays: the ring and the document's, side by side; the walk. -/
import Derived.Test.YtdookobgkcnncaaGj
import Derived.Test.YtdookobgkcnncaaGn
namespace Go.Proofs.Ytdookobgkcnncaa.E
open Go Go.RowKit Go.Proofs
attribute [local irreducible] TK TL TQ TA TB Fn PV
theorem xor_b8 (c : UInt8) (k : Nat) (hk : k < 256) : bitsOf .xor .u8 (c.toNat : Int) (k : Int) = ((b8 (c.toNat ^^^ k)).toNat : Int) := by
  rw [bits_xor rfl (UInt8.toNat_lt c) hk, b8_nat (Nat.xor_lt_two_pow (n := 8) (UInt8.toNat_lt c) hk)]
/-- The same keys, told in any order and rising. -/
structure Twin (es : List (Nat × Kv)) (L : Kys) : Prop where
  good : GoodE es
  perm : (es.map fun p => (p.1, p.2.2)).Perm L
  up : rises L
theorem keys_map (es : List (Nat × Kv)) : (es.map fun p => (p.1, p.2.2)).map (·.1) = es.map (·.1) := by rw [List.map_map]; rfl
theorem twin_look {es : List (Nat × Kv)} {L : Kys} (h : Twin es L) (w : Nat) : lookE L w = (lookE es w).map (·.2) := by
  have h1 : noTwo (es.map fun p => (p.1, p.2.2)) := by unfold noTwo; rw [keys_map]; exact h.good.two
  rw [← lookE_perm h.perm h1, lookE_map (fun v : Kv => v.2)]
theorem twin_len {es : List (Nat × Kv)} {L : Kys} (h : Twin es L) : es.length = L.length := by simpa using h.perm.length_eq
theorem twin_nil : Twin [] [] := ⟨good_nil, .refl _, List.Pairwise.nil⟩
theorem twin_drop {es : List (Nat × Kv)} {L : Kys} (h : Twin es L) (w : Nat) : Twin (dropE es w) (dropE L w) := by
  have h1 : noTwo (es.map fun p => (p.1, p.2.2)) := by unfold noTwo; rw [keys_map]; exact h.good.two
  refine ⟨good_drop h.good w, ?_, rises_drop h.up⟩
  rw [← dropE_map (fun v : Kv => v.2)]
  exact dropE_perm h.perm h1
theorem twin_put {es es' : List (Nat × Kv)} {L L' : Kys} {w : Nat} {k : List UInt8} {q : Int} (h : Twin es L) (hq : putE es.length (lookE es w).isSome k.length = q)
    (h1 : q = 0 → ∃ A' c', es' = es ++ [(w, ((A', c'), k))]) (h2 : q ≠ 0 → es' = es)
    (h3 : q = 0 → ∃ a, a ≤ L.length ∧ L' = L.take a ++ (w, k) :: L.drop a ∧ (∀ p ∈ L.drop a, w < p.1) ∧ (∀ p, 0 < a → L[a - 1]? = some p → p.1 ≤ w)) (h4 : q ≠ 0 → L' = L) : Twin es' L' := by
  have hg : GoodE es' := (good_put (es' := es') h.good (by rw [hq]; exact h1) (by rw [hq]; exact h2)).1
  by_cases h0 : q = 0
  · obtain ⟨A', c', rfl⟩ := h1 h0
    obtain ⟨a, g1, rfl, g2, g3⟩ := h3 h0
    have hn : lookE L w = none := by
      have := (putE_zero (hq.trans h0)).2.2.1
      rw [twin_look h]
      cases hl : lookE es w with
      | none => rfl
      | some v => rw [hl] at this; cases this
    refine ⟨hg, ?_, rises_put h.up hn g1 g2 g3⟩
    rw [List.map_append]
    exact perm_put a h.perm
  · obtain rfl := h2 h0
    obtain rfl := h4 h0
    exact h
theorem twin_list {es : List (Nat × Kv)} {L : Kys} {l : List Nat} (h : Twin es L) (h1 : l.Perm (es.map (·.1))) (h2 : l.Pairwise (· ≤ ·)) : l = L.map (·.1) :=
  sorted_same (h1.trans (by rw [← keys_map]; exact h.perm.map _)) h2 h.up
theorem swap32 {a b c d e : HP} {Γ : List HP} : (a :: b :: c :: d :: e :: Γ).Perm (d :: e :: a :: b :: c :: Γ) := (List.perm_append_comm (l₁ := [a, b, c]) (l₂ := [d, e])).append_right Γ
theorem swap23 {a b c d e : HP} {Γ : List HP} : (a :: b :: c :: d :: e :: Γ).Perm (c :: d :: e :: a :: b :: Γ) := (List.perm_append_comm (l₁ := [a, b]) (l₂ := [c, d, e])).append_right Γ
theorem swap42 {a b c d e f : HP} {Γ : List HP} : (a :: b :: c :: d :: e :: f :: Γ).Perm (e :: f :: a :: b :: c :: d :: Γ) := (List.perm_append_comm (l₁ := [a, b, c, d]) (l₂ := [e, f])).append_right Γ
theorem swap43 {a b c d e f g : HP} {Γ : List HP} : (a :: b :: c :: d :: e :: f :: g :: Γ).Perm (e :: f :: g :: a :: b :: c :: d :: Γ) := (List.perm_append_comm (l₁ := [a, b, c, d]) (l₂ := [e, f, g])).append_right Γ
theorem bytes_nums (k : List UInt8) : bytesV k = nums .u8 (k.map fun c => (c.toNat : Int)) := by simp [bytesV, nums, Function.comp_def]
theorem src_block {A : Option Addr} {n c e sz : Nat} {cs : List Value} {m : Mem} (h : own e sz (.slice A n c) n cs m) (h0 : 0 < n) : ∃ g, A = some ⟨g, 0, none⟩ := by
  obtain ⟨_, ⟨_, h, _⟩ | ⟨g, cap, cur, hv, _⟩⟩ := h
  · omega
  · injection hv with hv _ _
    exact ⟨g, hv⟩
set_option maxRecDepth 100000 in
set_option maxHeartbeats 8000000 in
theorem ringPlays_t (A : Option Addr) (c : Nat) (l : List Stp) (Γ : List HP) (h : stpsOk A l Γ) : FnV Try.prog 3 [.slice A l.length c] Γ fun v Γ' => v = .bool true ∧ Γ' = Γ := by
  refine Fn.enter Try.func3 rfl rfl rfl fun E => ?_
  refine m_run ?_
  (apply TL.callV; exact rfl; exact callB_of (by kernel_rfl); exact rfl; exact fun _ h => h)
  exact few_t A c l Γ h
  rintro _ Γ ⟨rfl, rfl⟩
  cases hf : fewB l with
  | false =>
    refine m_run ?_
    (apply TL.callV; exact rfl; exact callB_of (by kernel_rfl); exact rfl; exact fun _ h => h)
    exact works_t _
    rintro _ _ ⟨rfl, rfl⟩
    refine m_run ?_
    (apply TK.ret1; exact rfl; exact rfl; (exact m_val))
    exact ⟨_, rfl, rfl, rfl⟩
  | true =>
  obtain ⟨hln, hks⟩ := few_all hf
  refine TL.free (H := own 43 2 (.slice none 0 0) 0 []) (fun m hm => own_nil _ _ hm) ?_
  refine m_run ?_
  (apply TL.callV; exact rfl; exact callB_of (by kernel_rfl); exact rfl; exact fun _ h => h)
  exact new_t _
  rintro _ _ ⟨br, mb, rfl, rfl⟩
  refine m_run ?_
  (apply TL.build tabs; exact rfl; exact rfl; exact rfl; exact rfl; exact rfl; exact rfl; (exact m_lst))
  refine m_run ?_
  (apply TL.box; exact rfl; exact rfl; (exact m_lst))
  intro bd
  refine TL.perm (Δ := ringA br mb [] (docA bd none 0 [] Γ)) behind3 ?_
  refine m_run ?_
  apply TK.iter (fun j ρ' Γ' => ∃ (i : Nat) (es : List (Nat × Kv)) (L : Kys) (C : Option Addr) (k : Nat), l.length = i + j ∧ Twin es L ∧ lk ρ' 0 = .slice A l.length c ∧ lk ρ' 3 = .pointer (some ⟨br, 0, none⟩) ∧ lk ρ' 4 = .pointer (some ⟨bd, 0, none⟩) ∧ lk ρ' 5 = .int .i64 (i : Int) ∧ Γ' = ringA br mb es (docA bd C k L Γ)) l.length
  · exact ⟨0, [], [], none, 0, by omega, twin_nil, rfl, rfl, rfl, rfl, rfl⟩
  rintro j IH ρ' _ ⟨i, es, L, C, kc, hj, hT, e0, e3, e4, e5, rfl⟩
  refine TK.know4 e0 e3 e4 e5 ?_
  have hg := hT.good
  have hlen := twin_len hT
  have hlen32 := hg.len
  by_cases hi : i < l.length
  · refine TK.mem fun m0 hm0 => ?_
    have hr : stpsOk A l (ringA br mb es (docA bd C kc L Γ)) := stps_tl (stps_tl (stps_tl (stps_tl (stps_tl h))))
    obtain ⟨b, o, rfl⟩ := src_some (hr.1 m0 hm0) (by rw [stps_len]; omega)
    clear hm0 m0
    obtain ⟨s, hs⟩ : ∃ s, l[i]? = some s := ⟨l[i], by simp [hi]⟩
    have hsm := List.mem_of_getElem? hs
    have hsk := hks s hsm
    have hel := has_el (sz := 3) (f := Stp.cells) (fun _ => rfl) (by decide) h.1 hs
    have hc0 := has_cell hel 0 rfl
    have hc1 := has_cell hel 1 rfl
    have hc2 := has_cell hel 2 rfl
    have hk0 := h.2 s hsm
    refine m_run ?_
    refine TK.cut (fun ρ' Γ' => ∃ (es' : List (Nat × Kv)) (L' : Kys) (C' : Option Addr) (k' : Nat), Twin es' L' ∧ lk ρ' 0 = .slice (some ⟨b, o, none⟩) l.length c ∧ lk ρ' 3 = .pointer (some ⟨br, 0, none⟩) ∧ lk ρ' 4 = .pointer (some ⟨bd, 0, none⟩) ∧ lk ρ' 5 = .int .i64 (i : Int) ∧ Γ' = ringA br mb es' (docA bd C' k' L' Γ)) ?_ ?_
    · intro k' hk'
      refine TK.cond (c := 34) (t := s.d) rfl (fun hd => ?_) (fun hd => ?_)
      · refine m_run ?_
        refine TK.drawE mixed rfl Γ ?_
        refine m_take (At.mk : At 0) ?_; refine m_take (At.mk : At 1) ?_; refine m_take (At.mk : At 2) ?_; refine m_take (At.mk : At 3) ?_; refine m_take (At.mk : At 4) ?_; refine m_take (At.mk : At 5) ?_; refine m_take (At.mk : At 7) ?_; refine m_take (At.mk : At 8) ?_; refine m_take (At.mk : At 9) ?_; refine m_take (At.mk : At 10) ?_; refine m_take (At.mk : At 11) ?_; refine m_take (At.mk : At 12) ?_
        (apply TA.one 6; kernel_rfl; exact rfl)
        (apply TL.callV; exact rfl; exact callB_of (by kernel_rfl); exact rfl; exact fun _ h => h)
        exact drop_t br mb s.w es _ (Nat.le_trans hg.len (by decide))
        rintro _ _ ⟨rfl, rfl⟩
        refine TL.back (by (focus ((repeat (first | assumption | exact Ent.refl _ | apply Ent.tail)); done))) ?_
        (apply TA.one 13; kernel_rfl; exact rfl)
        refine TL.perm swap32 ?_
        have hdd := dropD_t bd s.w C kc L (row br [.map (some mb)] 48 :: mapA u32N kvV mb (dropE es s.w) :: alls keyE (dropE es s.w) :: Γ) (by omega)
        rw [twin_look hT, Option.isSome_map] at hdd
        (apply TL.callV; exact rfl; exact callB_of (by kernel_rfl); exact rfl; exact fun _ h => h)
        exact hdd
        rintro _ _ ⟨rfl, C', k2, rfl⟩
        refine TL.perm swap23 ?_
        generalize (if (lookE es s.w).isSome = true then (0 : Int) else 4) = e
        refine TL.back (by (focus ((repeat (first | assumption | exact Ent.refl _ | apply Ent.tail)); done))) ?_
        refine m_take (At.mk : At 14) ?_
        refine TA.done (by kernel_rfl) ?_
        refine m_run ?_
        exact hk' _ _ ⟨_, _, C', k2, twin_drop hT s.w, rfl, rfl, rfl, rfl, rfl⟩
      · refine m_run ?_
        (apply TL.buildSlice; exact rfl; exact tb rfl; exact rfl; exact tb rfl; exact rfl; exact rfl; exact rfl; exact rfl; (exact m_lst))
        intro b1
        refine m_run ?_
        (apply TL.appB 0; exact rfl; exact rfl; exact tb rfl; exact rfl; exact tb rfl; exact rfl; exact rfl; exact rfl; exact rfl; exact fun _ h => bs_row (l := []) rfl rfl (by decide) h; exact rfl; (exact m_hsrc))
        · simp; omega
        · exact fun _ => (rfl : _ = _ :: _)
        intro A1 c1 hc1'
        rw [List.nil_append] at hc1' ⊢
        refine TL.perm behind3 ?_
        refine m_run ?_
        (apply TL.callV; exact rfl; exact callB_of (by kernel_rfl); exact rfl; exact fun _ h => h)
        exact put_t br mb s.w es A1 c1 s.k _ (has_bs 0 rfl) (by omega) (Nat.le_trans hg.len (by decide))
        rintro _ _ ⟨rfl, es2, rfl, h1, h2⟩
        generalize hq : putE es.length (lookE es s.w).isSome s.k.length = q at h1 h2 ⊢
        have hpd := putD_t bd s.w C kc L s.A s.c s.k (row br [.map (some mb)] 48 :: mapA u32N kvV mb es2 :: alls keyE es2 :: Γ) (has_tls (has_tls (has_tls hk0))) (by omega)
        have hpe : putE L.length (lookE es s.w).isSome s.k.length = q := by rw [← hlen]; exact hq
        rw [twin_look hT, Option.isSome_map, hpe] at hpd
        refine m_run ?_
        apply TK.iter (fun m ρ' Γ' => ∃ (k : Nat) (l' : List UInt8), s.k.length = k + m ∧ l'.length = s.k.length ∧ lk ρ' 0 = .slice (some ⟨b, o, none⟩) l.length c ∧ lk ρ' 3 = .pointer (some ⟨br, 0, none⟩) ∧ lk ρ' 4 = .pointer (some ⟨bd, 0, none⟩) ∧ lk ρ' 5 = .int .i64 (i : Int) ∧ lk ρ' 6 = .slice A1 s.k.length c1 ∧ lk ρ' 7 = .int .i64 q ∧ lk ρ' 8 = .int .i64 (k : Int) ∧ Γ' = ringA br mb es2 (own 5 1 (.slice A1 s.k.length c1) s.k.length (bytesV l') :: docA bd C kc L Γ)) s.k.length
        · exact ⟨0, s.k, by omega, rfl, rfl, rfl, rfl, rfl, rfl, rfl, rfl, rfl⟩
        rintro m IHm ρ2 _ ⟨k, l', hkm, hl', f0, f3, f4, f5, f6, f7, f8, rfl⟩
        refine TK.know7 f0 f3 f4 f5 f6 f7 f8 ?_
        by_cases hkl : k < s.k.length
        · refine TK.fact (all_at 3 rfl fun m h => src_block h (by omega)) ?_
          rintro ⟨g, rfl⟩
          obtain ⟨ch, hch⟩ : ∃ ch, l'[k]? = some ch := ⟨l'[k]'(by omega), List.getElem?_eq_getElem (by omega)⟩
          have hb := has_byte (has_at (i := 3) (Γ := ringA br mb es2 (own 5 1 (.slice (some ⟨g, 0, none⟩) s.k.length c1) s.k.length (bytesV l') :: docA bd C kc L Γ)) (up_src _ _ _ _) rfl (fun m h => own_src h)) hch
          rw [Nat.zero_add] at hb
          have hx := xor_b8 ch 1 (by decide)
          refine m_run ?_
          (apply TL.storeOwn 3 k; exact rfl; exact rfl; (exact m_val); exact rfl; exact tb rfl; exact rfl; exact (Nat.zero_add _).symm; exact hkl)
          refine m_run ?_
          refine IHm (m - 1) _ _ (by omega) ⟨k + 1, l'.set k (b8 (ch.toNat ^^^ 1)), by omega, by rw [List.length_set]; exact hl', rfl, rfl, rfl, rfl, rfl, rfl, congrArg (Value.int .i64) (i64_succ k (by omega)), ?_⟩
          rw [bytesV_set, ← hx]
          rfl
        · refine m_run ?_
          refine TK.sub (Δ := ringA br mb es2 (docA bd C kc L Γ)) (by (repeat (first | exact List.Sublist.refl _ | apply List.Sublist.cons_cons | apply List.Sublist.cons))) ?_
          refine TK.drawE mixed rfl Γ ?_
          refine m_take (At.mk : At 0) ?_; refine m_take (At.mk : At 1) ?_; refine m_take (At.mk : At 2) ?_; refine m_take (At.mk : At 3) ?_; refine m_take (At.mk : At 4) ?_; refine m_take (At.mk : At 5) ?_; refine m_take (At.mk : At 6) ?_; refine m_take (At.mk : At 7) ?_; refine m_take (At.mk : At 8) ?_; refine m_take (At.mk : At 9) ?_; refine m_take (At.mk : At 10) ?_; refine m_take (At.mk : At 11) ?_
          (apply TA.one 12; kernel_rfl; exact rfl)
          refine TL.perm swap32 ?_
          (apply TL.callV; exact rfl; exact callB_of (by kernel_rfl); exact rfl; exact fun _ h => h)
          exact hpd
          rintro _ _ ⟨rfl, C', k2, L2, rfl, h3, h4⟩
          refine TL.perm swap23 ?_
          refine TL.back (by (focus ((repeat (first | assumption | exact Ent.refl _ | apply Ent.tail)); done))) ?_
          refine m_take (At.mk : At 13) ?_
          refine TA.done (by kernel_rfl) ?_
          refine m_run ?_
          exact hk' _ _ ⟨_, _, C', k2, twin_put hT hq h1 h2 h3 h4, rfl, rfl, rfl, rfl, rfl⟩
    rintro ρ2 _ ⟨es2, L2, C2, kc2, hT2, f0, f3, f4, f5, rfl⟩
    refine TK.know4 f0 f3 f4 f5 ?_
    have hlen2 := twin_len hT2
    have hL2 := hT2.good.len
    have hkd := fun Γ => keyD_t bd s.w C2 kc2 L2 Γ (by omega)
    have hkp := fun Γ => key_t br mb s.w es2 Γ (keyOf_len hT2.good)
    rw [twin_look hT2, Option.isSome_map] at hkd
    generalize ((lookE es2 s.w).map (·.2)).getD [] = kk at hkd hkp
    generalize (lookE es2 s.w).isSome = is at hkd hkp
    have hbb : (is != is) = false := by simp
    refine m_run ?_
    (apply TL.callV; exact rfl; exact callB_of (by kernel_rfl); exact rfl; exact fun _ h => h)
    exact hkp _
    rintro _ _ ⟨A1, c1, rfl, rfl⟩
    refine TL.perm swap42 ?_
    refine m_run ?_
    (apply TL.callV; exact rfl; exact callB_of (by kernel_rfl); exact rfl; exact fun _ h => h)
    exact hkd _
    rintro _ _ ⟨B1, d1, H, rfl, rfl, hH⟩
    refine TL.perm swap43 ?_
    refine m_run ?_
    have hq1 : has (H :: docA bd C2 kc2 L2 (bsA 5 (kvV ((A1, c1), kk)) kk :: Γ)) (srcAt 1 A1 kk.length (bytesV kk)) := has_bs 3 rfl
    have hq2 : has (H :: docA bd C2 kc2 L2 (bsA 5 (kvV ((A1, c1), kk)) kk :: Γ)) (srcAt 1 B1 kk.length (bytesV kk)) := has_at (up_src _ _ _ _) 0 rfl hH
    refine TK.drawE mixed rfl (H :: docA bd C2 kc2 L2 (bsA 5 (kvV ((A1, c1), kk)) kk :: Γ)) ?_
    refine m_take (At.mk : At 0) ?_; refine m_take (At.mk : At 1) ?_; refine m_take (At.mk : At 2) ?_; refine m_take (At.mk : At 3) ?_; refine m_take (At.mk : At 4) ?_; refine m_take (At.mk : At 5) ?_
    refine TA.isF 116 rfl (not_f (decide_eq_true rfl)) ?_
    refine m_take (At.mk : At 6) ?_; refine m_take (At.mk : At 7) ?_; refine m_take (At.mk : At 8) ?_; refine m_take (At.mk : At 9) ?_; refine m_take (At.mk : At 10) ?_
    refine TA.isF 121 rfl hbb ?_
    refine m_take (At.mk : At 11) ?_; refine m_take (At.mk : At 14) ?_; refine m_take (At.mk : At 15) ?_; refine m_take (At.mk : At 16) ?_; refine m_take (At.mk : At 17) ?_; refine m_take (At.mk : At 18) ?_
    (apply TA.one 12; kernel_rfl; exact rfl)
    refine m_rrun ?_
    (apply TL.callV; exact rfl; exact callB_of (by kernel_rfl); exact rfl; exact fun _ h => h)
    exact list_t br mb es2 _ (by omega)
    rintro _ _ ⟨A3, c3, D, rfl, hp, _, rfl⟩
    have hD : D.length = es2.length := by simpa using hp.length_eq
    refine TL.back (by (focus ((repeat (first | assumption | exact Ent.refl _ | apply Ent.tail)); done))) ?_
    refine m_take (At.mk : At 13) ?_; refine m_take (At.mk : At 19) ?_; refine m_take (At.mk : At 20) ?_
    refine TA.done (by kernel_rfl) ?_
    refine m_run ?_
    refine TK.sub (Δ := ringA br mb es2 (docA bd C2 kc2 L2 Γ)) (by (repeat (first | exact List.Sublist.refl _ | apply List.Sublist.cons_cons | apply List.Sublist.cons))) ?_
    exact IH (j - 1) _ _ (by omega) ⟨i + 1, es2, L2, C2, kc2, by omega, hT2, rfl, rfl, rfl, congrArg (Value.int .i64) (i64_succ i (by omega)), rfl⟩
  · refine m_run ?_
    (apply TL.callV; exact rfl; exact callB_of (by kernel_rfl); exact rfl; exact fun _ h => h)
    exact list_t br mb es _ (by omega)
    rintro _ _ ⟨A3, c3, D, rfl, hp, hso, rfl⟩
    obtain rfl := twin_list hT hp hso
    refine TL.perm (Δ := ringA br mb es (ownU A3 c3 (L.map (·.1)) :: docA bd C kc L Γ)) behind3 ?_
    rw [List.length_map]
    refine m_run ?_
    clear IH
    apply TK.iter (fun m ρ' Γ' => ∃ (k : Nat), L.length = k + m ∧ lk ρ' 3 = .pointer (some ⟨br, 0, none⟩) ∧ lk ρ' 4 = .pointer (some ⟨bd, 0, none⟩) ∧ lk ρ' 13 = .slice A3 L.length c3 ∧ lk ρ' 14 = .int .i64 (k : Int) ∧ Γ' = ringA br mb es (ownU A3 c3 (L.map (·.1)) :: docA bd C kc L Γ)) L.length
    · exact ⟨0, by omega, rfl, rfl, rfl, rfl, rfl⟩
    rintro m IH ρ2 _ ⟨k, hkm, f3, f4, f13, f14, rfl⟩
    refine TK.know4 f3 f4 f13 f14 ?_
    by_cases hkl : k < L.length
    · obtain ⟨p, hp2⟩ : ∃ p, L[k]? = some p := ⟨L[k], by simp [hkl]⟩
      obtain ⟨w, kk⟩ := p
      have hlk : (lookE es w).map (·.2) = some kk := by
        rw [← twin_look hT]
        exact (lookE_mem (noTwo_rises hT.up)).2 (List.mem_of_getElem? hp2)
      have hkp := fun Γ => key_t br mb w es Γ (keyOf_len hg)
      rw [hlk, show (lookE es w).isSome = true by rw [← Option.isSome_map (f := (·.2)), hlk]; rfl] at hkp
      refine TK.fact (all_at 3 rfl fun m h => src_block h (by simp; omega)) ?_
      rintro ⟨g, rfl⟩
      have hown : has (ringA br mb es (ownU (some ⟨g, 0, none⟩) c3 (L.map (·.1)) :: docA bd C kc L Γ)) (srcAt 1 (some ⟨g, 0, none⟩) (L.map (·.1)).length (u32s (L.map (·.1)))) := has_at (up_src _ _ _ _) 3 rfl fun _ h => own_src h
      have hw := has_u32 hown (i := k) (x := w) (by simp [hp2])
      rw [Nat.zero_add] at hw
      refine TK.fact (all_at 5 rfl fun m h => src_block h (by omega)) ?_
      rintro ⟨g2, rfl⟩
      have hdoc : has (ringA br mb es (ownU (some ⟨g, 0, none⟩) c3 (L.map (·.1)) :: docA bd (some ⟨g2, 0, none⟩) kc L Γ)) (srcAt 2 (some ⟨g2, 0, none⟩) L.length (entsC L)) := has_at (up_src _ _ _ _) 5 rfl fun _ h => own_src h
      have hel := has_el (sz := 2) (f := entC) (fun _ => rfl) (by decide) hdoc hp2
      rw [Nat.zero_add] at hel
      have hd0 := has_cell hel 0 rfl
      have hd1 := has_cell hel 1 rfl
      have hd0' : has (ringA br mb es (ownU (some ⟨g, 0, none⟩) c3 (L.map (·.1)) :: docA bd (some ⟨g2, 0, none⟩) kc L Γ)) (fun m => cellAt m g2 (k * 2) (.int .u32 (w : Int))) := hd0
      refine m_run ?_
      (apply TL.callV; exact rfl; exact callB_of (by kernel_rfl); exact rfl; exact fun _ h => h)
      exact hkp _
      rintro _ _ ⟨A1, c1, rfl, rfl⟩
      have hbs : has (bsA 5 (kvV ((A1, c1), kk)) kk :: ringA br mb es (ownU (some ⟨g, 0, none⟩) c3 (L.map (·.1)) :: docA bd (some ⟨g2, 0, none⟩) kc L Γ)) (srcAt 1 A1 kk.length (bytesV kk)) := has_bs 0 rfl
      refine m_run ?_
      refine m_quiet ?_
      refine m_run ?_
      refine TK.drop ?_
      exact IH (m - 1) _ _ (by omega) ⟨k + 1, by omega, rfl, rfl, rfl, congrArg (Value.int .i64) (i64_succ k (by omega)), rfl⟩
    · refine m_run ?_
      (apply TL.callV; exact rfl; exact callB_of (by kernel_rfl); exact rfl; exact fun _ h => h)
      exact works_t _
      rintro _ _ ⟨rfl, rfl⟩
      refine m_run ?_
      (apply TK.retS1; exact rfl; exact rfl; (exact m_val))
      exact ⟨_, rfl, rfl, rfl⟩
      (repeat (first | exact List.Sublist.refl _ | apply List.Sublist.cons_cons | apply List.Sublist.cons))
end Go.Proofs.Ytdookobgkcnncaa.E
