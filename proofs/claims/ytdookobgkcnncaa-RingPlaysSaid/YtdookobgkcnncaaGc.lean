/- The ring of the program: New, Put, Drop, Key, walked. -/
import Derived.Test.YtdookobgkcnncaaGa
import Derived.Test.YtdookobgkcnncaaGb
namespace Go.Proofs.Ytdookobgkcnncaa.E
open Go Go.RowKit Go.Proofs
attribute [local irreducible] TK TL TQ TA Fn PV
/-- A key as the map has it: where it lies, its capacity, its bytes. -/
abbrev Kv := (Option Addr × Nat) × List UInt8
def kvV (p : Kv) : Value := .slice p.1.1 p.2.length p.1.2
def u32N (n : Nat) : Value := .int .u32 (n : Int)
def keyE (p : Nat × Kv) : HP := bsA 5 (kvV p.2) p.2.2
abbrev ringA (br mb : Nat) (es : List (Nat × Kv)) (Γ : List HP) : List HP := row br [.map (some mb)] 48 :: mapA u32N kvV mb es :: alls keyE es :: Γ
theorem lookE_in {α β : Type} [DecidableEq α] {w : α} {v : β} : ∀ {L : List (α × β)}, lookE L w = some v → (w, v) ∈ L
  | p :: L, h => by
    simp only [lookE] at h
    split at h
    · rename_i hw
      injection h with h
      subst h; subst hw
      exact List.mem_cons_self ..
    · exact List.mem_cons_of_mem _ (lookE_in h)
theorem keyU : KeyOk Try.prog 31 u32N := keyNat (tb rfl : TabOk Try.prog 31 _).1
theorem ring_grow {H1 H2 : HP} {x : Nat × Kv} {es : List (Nat × Kv)} {Γ : List HP} {m : Mem} (hm : all (bsA 5 (kvV x.2) x.2.2 :: H1 :: H2 :: alls keyE es :: Γ) m) : all (H1 :: H2 :: alls keyE (es ++ [x]) :: Γ) m := by
  have h1 : all (H1 :: H2 :: alls keyE es :: keyE x :: Γ) m := all_perm (List.perm_middle (a := keyE x) (l₁ := [H1, H2, alls keyE es]) (l₂ := Γ)).symm hm
  exact sep_mono h1 (fun _ h => h) fun _ h => sep_mono h (fun _ h => h) fun _ h => sep_mono (sep_assoc' h) (fun _ h => alls_append.2 (sep_mono h (fun _ h => h) fun _ h => alls_one.2 h)) (fun _ h => h)
theorem Ent.consS {H K : HP} {Γ Δ : List HP} (hH : ∀ m, H m → ∃ m', Mem.sub m' m ∧ K m') (h : Ent Γ Δ) : Ent (H :: Γ) (K :: Δ) := by
  rintro m ⟨a, b, hd, rfl, ha, hb⟩
  obtain ⟨a', h1, h2⟩ := hH a ha
  obtain ⟨b', h3, h4⟩ := h b hb
  refine ⟨Mem.join a' b', ?_, a', b', ?_, rfl, h2, h4⟩
  · intro k o hk
    cases ha' : a' k with
    | some q =>
      have : q = o := by simpa [Mem.join, ha'] using hk
      subst this
      simp [Mem.join, h1 k q ha']
    | none =>
      have hb' : b' k = some o := by simpa [Mem.join, ha'] using hk
      have := h3 k o hb'
      rcases hd k with h | h
      · simp [Mem.join, h, this]
      · rw [h] at this; cases this
  · intro k
    rcases hd k with h | h
    · left
      cases ha' : a' k with
      | none => rfl
      | some q => have := h1 k q ha'; rw [h] at this; cases this
    · right
      cases hb' : b' k with
      | none => rfl
      | some q => have := h3 k q hb'; rw [h] at this; cases this
theorem ring_less (br mb : Nat) (es : List (Nat × Kv)) (w : Nat) (Γ : List HP) : ∀ m, all (row br [.map (some mb)] 48 :: mapA u32N kvV mb (dropE es w) :: alls keyE es :: Γ) m → ∃ m', Mem.sub m' m ∧ all (ringA br mb (dropE es w) Γ) m' :=
  Ent.cons (fun _ h => h) (.cons (fun _ h => h) (.consS (fun m h => by
    obtain ⟨m', h1, h2⟩ := all_sub ((dropE_sub es).map keyE) h
    exact ⟨m', h1, h2⟩) (.refl _)))
set_option maxRecDepth 100000 in
theorem clone_t (A : Option Addr) (c : Nat) (k : List UInt8) (Γ : List HP) (hs : has Γ (srcAt 1 A k.length (bytesV k))) (hk : k.length ≤ 1000000) :
    FnV Try.prog 17 [.slice A k.length c] Γ fun v Γ' => ∃ A' c', v = kvV ((A', c'), k) ∧ Γ' = bsA 5 (kvV ((A', c'), k)) k :: Γ := by
  refine Fn.enter Try.func17 rfl rfl rfl fun E => ?_
  cases A with
  | none =>
    refine TK.mem fun m hm => ?_
    have hk0 : k = [] := by
      rcases (hs m hm).2 with h | ⟨b, o, e, _⟩
      · simpa [bytesV] using h
      · cases e
    clear hm m
    subst hk0
    refine TK.free (H := bsA 5 (.slice none 0 0) []) (fun m hm => bs_nil _ hm) ?_
    refine m_run ?_
    (apply TK.ret1; exact rfl; exact rfl; (exact m_val))
    exact ⟨_, rfl, none, 0, rfl, rfl⟩
  | some a =>
    refine m_run ?_
    (apply TL.buildSlice; exact rfl; exact tb rfl; exact rfl; exact tb rfl; exact rfl; exact rfl; exact rfl; exact rfl; (exact m_lst))
    intro b
    refine m_run ?_
    (apply TL.appB 0; exact rfl; exact rfl; exact tb rfl; exact rfl; exact tb rfl; exact rfl; exact rfl; exact rfl; exact rfl; exact fun _ h => bs_row (l := []) rfl rfl (by decide) h; exact rfl; (exact m_hsrc))
    · simp; omega
    · exact fun _ => (rfl : _ = _ :: _)
    intro A' c' hc
    rw [List.nil_append] at hc ⊢
    refine m_run ?_
    (apply TK.ret1; exact rfl; exact rfl; (exact m_val))
    exact ⟨_, rfl, A', c', rfl, rfl⟩
set_option maxRecDepth 100000 in
theorem new_t (Γ : List HP) : FnV Try.prog 8 [] Γ fun v Γ' => ∃ br mb, v = .pointer (some ⟨br, 0, none⟩) ∧ Γ' = ringA br mb [] Γ := by
  refine Fn.enter Try.func8 rfl rfl rfl fun E => ?_
  refine TK.free (H := alls keyE []) (fun m hm => alls_nil hm) ?_
  refine m_run ?_
  (apply TL.makeMap u32N kvV; exact rfl)
  intro mb
  (apply TL.build tabs; exact rfl; exact rfl; exact rfl; exact rfl; exact rfl; exact rfl; (exact m_lst))
  refine m_run ?_
  (apply TL.box; exact rfl; exact rfl; (exact m_lst))
  intro br
  refine m_run ?_
  (apply TK.ret1; exact rfl; exact rfl; (exact m_val))
  exact ⟨_, rfl, br, mb, rfl, rfl⟩
theorem ring_map (br mb : Nat) (es : List (Nat × Kv)) (Γ : List HP) : has (ringA br mb es Γ) (mapAt u32N kvV mb es) := has_at (up_map _ _ _ _) 1 rfl fun m h => mapA_at h
set_option maxRecDepth 100000 in
set_option maxHeartbeats 1000000 in
theorem put_t (br mb w : Nat) (es : List (Nat × Kv)) (A : Option Addr) (c : Nat) (k : List UInt8) (Γ : List HP) (hs : has Γ (srcAt 1 A k.length (bytesV k))) (hk : k.length ≤ 1000000) (hes : es.length ≤ 1000000) :
    FnV Try.prog 11 [.pointer (some ⟨br, 0, none⟩), .int .u32 (w : Int), .slice A k.length c] (ringA br mb es Γ)
      fun v Γ' => v = .int .i64 (putE es.length (lookE es w).isSome k.length) ∧ ∃ es', Γ' = ringA br mb es' Γ ∧ (putE es.length (lookE es w).isSome k.length = 0 → ∃ A' c', es' = es ++ [(w, ((A', c'), k))]) ∧ (putE es.length (lookE es w).isSome k.length ≠ 0 → es' = es) := by
  refine Fn.enter Try.func11 rfl rfl rfl fun E => ?_
  have hm := ring_map br mb es Γ
  refine m_run ?_
  generalize hq : putE es.length (lookE es w).isSome k.length = q
  have hq' := hq
  unfold putE at hq'
  cases hl : lookE es w with
  | some v =>
    (apply TL.pv; exact rfl; (apply PV.look2S keyU; exact tb rfl; exact rfl; exact ⟨_, (tb rfl : TabOk Try.prog 31 _).1⟩; exact (tb rfl : TabOk Try.prog 32 _); exact rfl; exact (rfl : _ = u32N w); exact hm; exact hl))
    by_cases h1 : k.length < 1 ∨ 64 < k.length
    · rw [if_pos h1] at hq'
      by_cases h2 : k.length < 1
      · refine m_run ?_
        (apply TK.ret1; exact rfl; exact rfl; (exact m_val))
        exact ⟨_, rfl, by rw [← hq'], es, rfl, fun h => by omega, fun _ => rfl⟩
      · refine m_run ?_
        (apply TK.ret1; exact rfl; exact rfl; (exact m_val))
        exact ⟨_, rfl, by rw [← hq'], es, rfl, fun h => by omega, fun _ => rfl⟩
    · rw [if_neg h1, hl] at hq'
      simp only [Option.isSome_some, if_true] at hq'
      refine m_run ?_
      (apply TK.ret1; exact rfl; exact rfl; (exact m_val))
      exact ⟨_, rfl, by rw [← hq'], es, rfl, fun h => by omega, fun _ => rfl⟩
  | none =>
    (apply TL.pv; exact rfl; (apply PV.look2N keyU; exact tb rfl; exact rfl; exact ⟨_, (tb rfl : TabOk Try.prog 31 _).1⟩; exact (tb rfl : TabOk Try.prog 32 _); exact rfl; exact (rfl : _ = u32N w); exact hm; exact hl))
    by_cases h1 : k.length < 1 ∨ 64 < k.length
    · rw [if_pos h1] at hq'
      by_cases h2 : k.length < 1
      · refine m_run ?_
        (apply TK.ret1; exact rfl; exact rfl; (exact m_val))
        exact ⟨_, rfl, by rw [← hq'], es, rfl, fun h => by omega, fun _ => rfl⟩
      · refine m_run ?_
        (apply TK.ret1; exact rfl; exact rfl; (exact m_val))
        exact ⟨_, rfl, by rw [← hq'], es, rfl, fun h => by omega, fun _ => rfl⟩
    · rw [if_neg h1, hl] at hq'
      simp only [Option.isSome_none, Bool.false_eq_true, if_false] at hq'
      refine m_run ?_
      (apply TL.pv; exact rfl; (apply PV.lenMap; exact rfl; exact tb rfl; exact rfl; exact hm))
      by_cases h3 : 32 ≤ es.length
      · rw [if_pos h3] at hq'
        refine m_run ?_
        (apply TK.ret1; exact rfl; exact rfl; (exact m_val))
        exact ⟨_, rfl, by rw [← hq'], es, rfl, fun h => by omega, fun _ => rfl⟩
      · rw [if_neg h3] at hq'
        refine m_run ?_
        have hent : ∀ H K : HP, Ent (row br [.map (some mb)] 48 :: H :: K :: Γ) (row br [.map (some mb)] 48 :: Γ) := fun H K => .cons (fun _ h => h) (.tail (.tail (.refl _)))
        have hent1 := hent (mapA u32N kvV mb es) (alls keyE es)
        refine TK.drawE mixed rfl (row br [.map (some mb)] 48 :: Γ) ?_
        refine m_take (At.mk : At 0) ?_; refine m_take (At.mk : At 1) ?_; refine m_take (At.mk : At 2) ?_; refine m_take (At.mk : At 3) ?_; refine m_take (At.mk : At 4) ?_; refine m_take (At.mk : At 5) ?_
        (apply TA.one 6; kernel_rfl; exact rfl)
        (apply TL.callV; exact rfl; exact callB_of (by kernel_rfl); exact rfl; exact fun _ h => h)
        exact clone_t A c k _ (has_tls (has_tls (has_tls hs))) hk
        rintro _ _ ⟨A', c', rfl, rfl⟩
        refine TL.back (.tail hent1) ?_
        (apply TA.one 7; kernel_rfl; exact rfl)
        (apply TL.mapPut 2 (kv := u32N) (vv := kvV) (nv := ((A', c'), k)); exact rfl; exact keyU; exact tb rfl; exact rfl; exact ⟨_, (tb rfl : TabOk Try.prog 31 _).1⟩; exact rfl; exact (rfl : _ = u32N w); exact rfl; exact rfl)
        rw [setE_none hl]
        refine TL.back (.tail (hent _ _)) ?_
        refine TA.done (by kernel_rfl) ?_
        refine m_run ?_
        refine TK.imp (Δ := ringA br mb (es ++ [(w, ((A', c'), k))]) Γ) (fun m hm => ring_grow hm) ?_
        (apply TK.ret1; exact rfl; exact rfl; (exact m_val))
        exact ⟨_, rfl, by rw [← hq'], _, rfl, fun _ => ⟨A', c', rfl⟩, fun h => absurd hq'.symm h⟩
set_option maxRecDepth 100000 in
theorem drop_t (br mb w : Nat) (es : List (Nat × Kv)) (Γ : List HP) (hes : es.length ≤ 1000000) :
    FnV Try.prog 9 [.pointer (some ⟨br, 0, none⟩), .int .u32 (w : Int)] (ringA br mb es Γ)
      fun v Γ' => v = .int .i64 (if (lookE es w).isSome then 0 else 4) ∧ Γ' = ringA br mb (dropE es w) Γ := by
  refine Fn.enter Try.func9 rfl rfl rfl fun E => ?_
  have hm := ring_map br mb es Γ
  refine m_run ?_
  cases hl : lookE es w with
  | some v =>
    (apply TL.pv; exact rfl; (apply PV.look2S keyU; exact tb rfl; exact rfl; exact ⟨_, (tb rfl : TabOk Try.prog 31 _).1⟩; exact (tb rfl : TabOk Try.prog 32 _); exact rfl; exact (rfl : _ = u32N w); exact hm; exact hl))
    refine m_run ?_
    (apply TL.delMap 1 (kv := u32N) (vv := kvV); exact rfl; exact rfl; exact tb rfl; exact rfl; exact keyU; exact ⟨_, (tb rfl : TabOk Try.prog 31 _).1⟩; exact rfl; exact (rfl : _ = u32N w))
    refine TL.weak (Δ := ringA br mb (dropE es w) Γ) (ring_less br mb es w Γ) ?_
    refine m_run ?_
    (apply TK.ret1; exact rfl; exact rfl; (exact m_val))
    exact ⟨_, rfl, rfl, rfl⟩
  | none =>
    (apply TL.pv; exact rfl; (apply PV.look2N keyU; exact tb rfl; exact rfl; exact ⟨_, (tb rfl : TabOk Try.prog 31 _).1⟩; exact (tb rfl : TabOk Try.prog 32 _); exact rfl; exact (rfl : _ = u32N w); exact hm; exact hl))
    refine m_run ?_
    (apply TK.ret1; exact rfl; exact rfl; (exact m_val))
    exact ⟨_, rfl, rfl, by rw [dropE_none hl]⟩
set_option maxRecDepth 100000 in
theorem key_t (br mb w : Nat) (es : List (Nat × Kv)) (Γ : List HP) (hes : ∀ p ∈ es, p.2.2.length ≤ 1000000) :
    FnV Try.prog 13 [.pointer (some ⟨br, 0, none⟩), .int .u32 (w : Int)] (ringA br mb es Γ)
      fun v Γ' => ∃ A' c', v = .tuple #[kvV ((A', c'), ((lookE es w).map (·.2)).getD []), .bool (lookE es w).isSome] ∧ Γ' = bsA 5 (kvV ((A', c'), ((lookE es w).map (·.2)).getD [])) (((lookE es w).map (·.2)).getD []) :: ringA br mb es Γ := by
  refine Fn.enter Try.func13 rfl rfl rfl fun E => ?_
  have hm := ring_map br mb es Γ
  refine m_run ?_
  cases hl : lookE es w with
  | some v =>
    obtain ⟨⟨A, c⟩, k⟩ := v
    have hmem := lookE_in hl
    (apply TL.pv; exact rfl; (apply PV.look2S keyU; exact tb rfl; exact rfl; exact ⟨_, (tb rfl : TabOk Try.prog 31 _).1⟩; exact (tb rfl : TabOk Try.prog 32 _); exact rfl; exact (rfl : _ = u32N w); exact hm; exact hl))
    refine m_run ?_
    (apply TL.callV; exact rfl; exact callB_of (by kernel_rfl); exact rfl; exact fun _ h => h)
    exact clone_t A c k _ (has_alls 2 rfl (up_src _ _ _ _) hmem fun _ h => bs_src h) (hes _ hmem)
    rintro _ _ ⟨A', c', rfl, rfl⟩
    refine m_run ?_
    (apply TK.ret2; exact rfl; exact rfl; (exact m_val); (exact m_val))
    exact ⟨_, rfl, A', c', rfl, rfl⟩
  | none =>
    (apply TL.pv; exact rfl; (apply PV.look2N keyU; exact tb rfl; exact rfl; exact ⟨_, (tb rfl : TabOk Try.prog 31 _).1⟩; exact (tb rfl : TabOk Try.prog 32 _); exact rfl; exact (rfl : _ = u32N w); exact hm; exact hl))
    refine m_run ?_
    (apply TL.callV; exact rfl; exact callB_of (by kernel_rfl); exact rfl; exact fun _ h => h)
    exact clone_t none 0 [] _ (has_srcnil _ _) (by simp)
    rintro _ _ ⟨A', c', rfl, rfl⟩
    refine m_run ?_
    (apply TK.ret2; exact rfl; exact rfl; (exact m_val); (exact m_val))
    exact ⟨_, rfl, A', c', rfl, rfl⟩
end Go.Proofs.Ytdookobgkcnncaa.E
