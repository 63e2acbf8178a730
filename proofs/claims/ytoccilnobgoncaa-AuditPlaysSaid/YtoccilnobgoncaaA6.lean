/- AuditPlays, whatever records and number are handed in: the walk: it answers true. -/
import Derived.Test.YtoccilnobgoncaaA5
namespace Go.Proofs.Ytoccilnobgoncaa.E
open Go Go.RowKit Go.Proofs
attribute [local irreducible] TK TL TQ TA Fn PV
theorem reflast_t (l : Sl Rec) (n : Int) (Γ : List HP) (h : recsIn l Γ) (hlen : l.l.length ≤ 1000000) (hcap : l.l.length ≤ l.c) :
    FnV Try.prog 21 [l.v, .int .i64 n] Γ fun v Γ' => ∃ A c, v = Sl.v (⟨A, c, l.l.drop (l.l.length - lastN n l.l.length)⟩ : Sl Rec) ∧ recsIn ⟨A, c, l.l.drop (l.l.length - lastN n l.l.length)⟩ Γ ∧ Γ' = Γ := by
  obtain ⟨A, c, ls⟩ := l
  replace hlen : ls.length ≤ 1000000 := hlen
  replace hcap : ls.length ≤ c := hcap
  show FnV _ _ [.slice A ls.length c, .int .i64 n] _ _
  refine Fn.enter Try.func21 rfl rfl rfl fun E => ?_
  have e1 : (if (ls.length : Int) < (if 32 < n then (32 : Int) else n) then (ls.length : Int) else (if 32 < n then (32 : Int) else n)) < 1 ↔ lastN n ls.length = 0 := by
    unfold lastN
    split <;> split <;> split <;> omega
  have e2 : lastN n ls.length ≠ 0 → (if (ls.length : Int) < (if 32 < n then (32 : Int) else n) then (ls.length : Int) else (if 32 < n then (32 : Int) else n)) = ((lastN n ls.length : Nat) : Int) := by
    unfold lastN
    split <;> split <;> split <;> omega
  by_cases h0 : lastN n ls.length = 0
  · have e3 := e1.2 h0
    refine m_run ?_
    (apply TK.retS1; exact rfl; (exact m_val))
    · refine ⟨_, rfl, none, 0, ?_, ?_, rfl⟩
      · simp [Sl.v, h0]
      · show has Γ (srcAt 4 none (ls.drop (ls.length - lastN n ls.length)).length ((ls.drop (ls.length - lastN n ls.length)).flatMap recCells))
        rw [h0, Nat.sub_zero, List.drop_length]
        exact src_nil 4 none
    · (repeat (first | exact List.Sublist.refl _ | apply List.Sublist.cons_cons | apply List.Sublist.cons))
  · have e3 := mt e1.1 h0
    have e4 := e2 h0
    have hle : lastN n ls.length ≤ ls.length := by unfold lastN; split <;> omega
    refine TK.mem fun m hm => ?_
    obtain ⟨b, o, rfl⟩ := src_some (h m hm) (by rw [recCells_len]; show 0 < ls.length * 4; omega)
    refine m_run ?_
    refine TL.know (t := 15) (v := .int .i64 ((ls.length - lastN n ls.length : Nat) : Int)) ?_ ?_
    · refine congrArg (Value.int .i64) ((congrArg (fun z => IntKind.i64.wrap ((ls.length : Int) - z)) e4).trans ?_)
      rw [i64_in (by omega) (by omega)]; omega
    (apply TL.sliceLo; exact rfl; exact rfl; exact rfl; exact tb rfl; exact rfl; exact tb rfl)
    · omega
    · omega
    intro o' ho'
    have hk : (((ls.length - lastN n ls.length : Nat) : Int)).toNat = ls.length - lastN n ls.length := by omega
    rw [hk] at *
    refine m_run ?_
    (apply TK.retS1; exact rfl; (exact m_val))
    · refine ⟨_, rfl, some ⟨b, o', none⟩, c - (ls.length - lastN n ls.length), ?_, ?_, rfl⟩
      · simp [Sl.v]
      · show has Γ (srcAt 4 (some ⟨b, o', none⟩) (ls.drop (ls.length - lastN n ls.length)).length ((ls.drop (ls.length - lastN n ls.length)).flatMap recCells))
        rw [flat_drop (sz := 4) (fun _ => rfl), List.length_drop]
        exact fun m hm => src_drop (h m hm) (ho' (by omega))
    · (repeat (first | exact List.Sublist.refl _ | apply List.Sublist.cons_cons | apply List.Sublist.cons))
theorem perm3 {α : Type} (a b c d : α) (l : List α) : (a :: b :: c :: d :: l).Perm (c :: d :: a :: b :: l) := by
  have := (List.perm_append_comm (l₁ := [a, b]) (l₂ := [c, d])).append_right l
  simpa using this
theorem nums_set (q : IntKind) (xs : List Int) (i : Nat) (y : Int) : (nums q xs).set i (.int q y) = nums q (xs.set i y) := by simp [nums, List.map_set]
set_option maxRecDepth 100000 in
theorem plays_t (l : Sl Rec) (n : Int) (Γ : List HP) (h : recsIn l Γ) (hargs : ∀ x ∈ l.l, has Γ (argsAt x.q.args)) (hcap : l.l.length ≤ l.c) (hn : n ≤ 9223372036854775807) :
    FnV Try.prog 3 [l.v, .int .i64 n] Γ fun v Γ' => v = .bool true ∧ Γ' = Γ := by
  refine Fn.enter Try.func3 rfl rfl rfl fun E => ?_
  refine m_run ?_
  (apply TL.callV; exact rfl; exact callB_of (by kernel_rfl); exact rfl; exact fun _ h => h)
  exact few_t l _ h
  rintro _ _ ⟨c, rfl, hΓ, hfew⟩
  obtain rfl := hΓ.symm
  cases c with
  | false =>
    refine m_run ?_
    (apply TL.callV; exact rfl; exact callB_of (by kernel_rfl); exact rfl; exact fun _ h => h)
    exact works_t _
    rintro _ _ ⟨rfl, rfl⟩
    refine m_run ?_
    (apply TK.ret1; exact rfl; (exact m_val))
    exact ⟨_, rfl, rfl, rfl⟩
  | true =>
    obtain ⟨hlen, h30⟩ := hfew rfl
    refine m_run ?_
    (apply TL.callV; exact rfl; exact callB_of (by kernel_rfl); exact rfl; exact fun _ h => h)
    exact new_t _
    rintro _ _ ⟨b, rfl, rfl⟩
    refine m_run ?_
    obtain ⟨A, c, ls⟩ := l
    replace hlen : ls.length ≤ 200 := hlen
    replace hcap : ls.length ≤ c := hcap
    replace h30 : ∀ x ∈ ls, x.q.args.l.length ≤ 30 := h30
    replace hargs : ∀ x ∈ ls, has Γ (argsAt x.q.args) := hargs
    replace h : has Γ (srcAt 4 A ls.length (ls.flatMap recCells)) := h
    apply TK.iter (fun j ρ' Γ' => ∃ (i : Nat) (slots : List Rec), i + j = ls.length ∧ slots.length = 32 ∧ (∀ x ∈ slots, x.q.args.l.length ≤ 30) ∧ (∀ q, q < i → i ≤ q + 32 → ∃ y z, slots[q % 32]? = some y ∧ ls[q]? = some z ∧ y.abs = z.abs) ∧
      lk ρ' 0 = .slice A ls.length c ∧ lk ρ' 1 = .int .i64 n ∧ lk ρ' 5 = .pointer (some ⟨b, 0, none⟩) ∧ lk ρ' 6 = .int .i64 i ∧ Γ' = audAt b slots i Γ) ls.length
    · exact ⟨0, List.replicate 32 zrec, by omega, by simp, fun x hx => by rw [List.eq_of_mem_replicate hx]; simp [zrec], fun q hq => by omega, rfl, rfl, rfl, rfl, rfl⟩
    rintro j IH ρ' Γ' ⟨i, slots, hij, hs, hl, ht, e0, e1, e5, e6, rfl⟩
    refine TK.know4 e0 e1 e5 e6 ?_
    by_cases hi : i < ls.length
    · have hx : ls[i]? = some ls[i] := by simp [hi]
      have hxm : ls[i] ∈ ls := by simp
      have hx30 := h30 _ hxm
      have hxa := hargs _ hxm
      generalize ls[i] = x at hx hxm hx30 hxa
      have h2 : has (audAt b slots i Γ) (srcAt 4 A ls.length (ls.flatMap recCells)) := has_tls (has_tls h)
      refine TK.mem fun m hm => ?_
      obtain ⟨bl, ol, rfl⟩ := src_some (h2 m hm) (by rw [recCells_len]; show 0 < ls.length * 4; omega)
      have hg := recs_get h hx
      refine m_run ?_
      (apply TL.alloc; exact rfl; exact tb rfl; (exact m_lst))
      intro b7
      refine m_run ?_
      (apply TL.buildSlice; exact rfl; exact tb rfl; exact rfl; exact tb rfl; exact rfl; exact rfl; exact rfl; exact rfl; (exact m_lst))
      intro b8
      refine m_run ?_
      (apply TL.appendE 0; exact rfl; exact rfl; exact tb rfl; exact rfl; exact tb rfl; exact rfl; exact rfl; exact rfl)
      exact fun m hm => own_row (n := 0) rfl (by decide) hm
      exact rfl
      exact has_tls (has_tls (has_tls (has_tls hxa)))
      exact nums_one _ _
      · exact Nat.le_trans (Nat.mul_le_mul_right _ (by omega : 0 + x.q.args.l.length ≤ 30)) (by decide)
      · unfold maxLen; omega
      · exact Nat.zero_add _
      · exact List.nil_append _
      exact fun _ => (rfl : _ = _ :: _)
      intro A2 c2 hc2
      refine m_run ?_
      refine TL.perm (perm3 _ _ _ _ _) ?_
      (apply TL.callV; exact rfl; exact callB_of (by kernel_rfl); exact rfl; exact fun _ h => h)
      exact put_t b slots i (withArgs x A2 c2) _ hs (by omega) (has_at (up_src _ _ _ _) 2 rfl fun m hm => own_src hm) (by show x.q.args.l.length ≤ _; omega)
      rintro _ _ ⟨rfl, A3, c3, rfl⟩
      have hm32 : i % 32 < 32 := Nat.mod_lt _ (by decide)
      have hs' : (slots.set (i % 32) (withArgs (withArgs x A2 c2) A3 c3)).length = 32 := by simpa using hs
      have hl' : ∀ z ∈ slots.set (i % 32) (withArgs (withArgs x A2 c2) A3 c3), z.q.args.l.length ≤ 30 := fun z hz => by
        rcases List.mem_or_eq_of_mem_set hz with hz | rfl
        · exact hl z hz
        · exact hx30
      have ht' : ∀ q, q < i + 1 → i + 1 ≤ q + 32 → ∃ y z, (slots.set (i % 32) (withArgs (withArgs x A2 c2) A3 c3))[q % 32]? = some y ∧ ls[q]? = some z ∧ y.abs = z.abs := fun q hq hq2 => by
        rcases Nat.lt_or_ge q i with h5 | h5
        · rw [List.getElem?_set_ne (by omega)]; exact ht q h5 (by omega)
        · obtain rfl : q = i := by omega
          exact ⟨_, x, List.getElem?_set_self (by omega), hx, rfl⟩
      generalize slots.set (i % 32) (withArgs (withArgs x A2 c2) A3 c3) = slots' at hs' hl' ht'
      refine m_run ?_
      apply TK.iter (fun j ρ' Γ' => ∃ (k : Nat) (xs : List Int), k + j = x.q.args.l.length ∧ xs.length = x.q.args.l.length ∧ lk ρ' 0 = .slice (some ⟨bl, ol, none⟩) ls.length c ∧ lk ρ' 1 = .int .i64 n ∧ lk ρ' 5 = .pointer (some ⟨b, 0, none⟩) ∧ lk ρ' 6 = .int .i64 i ∧ lk ρ' 7 = .pointer (some ⟨b7, 0, none⟩) ∧ lk ρ' 8 = .int .i64 k ∧
        Γ' = audAt b slots' (i + 1) (own 28 1 (.slice A2 x.q.args.l.length c2) x.q.args.l.length (nums .u32 xs) :: row b7 [.int .u64 x.t, .int .u32 x.q.p, .slice A2 x.q.args.l.length c2, .int .u8 x.w] 33 :: Γ)) x.q.args.l.length
      · exact ⟨0, x.q.args.l, by omega, rfl, rfl, rfl, rfl, rfl, rfl, rfl, rfl⟩
      · rintro j2 IH2 ρ2 Γ2 ⟨k, xs, hkj, hxs, e0, e1, e5, e6, e7, e8, rfl⟩
        refine TK.know6 e0 e1 e5 e6 e7 e8 ?_
        by_cases hk : k < x.q.args.l.length
        · refine TK.fact (all_at 2 rfl fun m h => own_some h (by omega)) ?_
          rintro ⟨g, rfl⟩
          have hv := has_num (has_at (i := 2) (Γ := audAt b slots' (i + 1) (own 28 1 (.slice (some ⟨g, 0, none⟩) x.q.args.l.length c2) x.q.args.l.length (nums .u32 xs) :: row b7 [.int .u64 x.t, .int .u32 x.q.p, .slice (some ⟨g, 0, none⟩) x.q.args.l.length c2, .int .u8 x.w] 33 :: Γ)) (up_src _ _ _ _) rfl (fun m h => own_src h)) (i := k) (by omega)
          rw [Nat.zero_add] at hv
          have h7 : has (audAt b slots' (i + 1) (own 28 1 (.slice (some ⟨g, 0, none⟩) x.q.args.l.length c2) x.q.args.l.length (nums .u32 xs) :: row b7 [.int .u64 x.t, .int .u32 x.q.p, .slice (some ⟨g, 0, none⟩) x.q.args.l.length c2, .int .u8 x.w] 33 :: Γ)) (fun m => cellAt m b7 2 (.slice (some ⟨g, 0, none⟩) x.q.args.l.length c2)) := has_row 3 rfl rfl
          refine m_run ?_
          (apply TL.storeOwn 2 k; exact rfl; exact rfl; (exact m_val); exact rfl; exact tb rfl; exact rfl; exact (Nat.zero_add _).symm)
          · exact hk
          refine m_run ?_
          refine IH2 (j2 - 1) _ _ (by omega) ⟨k + 1, xs.set k (bitsOf .xor .u32 (xs[k]'(by omega)) 1), by omega, by simp [hxs], rfl, rfl, rfl, rfl, rfl, congrArg (Value.int .i64) (i64_succ k (by omega)), ?_⟩
          exact congrArg (fun cs => audAt b slots' (i + 1) (own 28 1 (.slice (some ⟨g, 0, none⟩) x.q.args.l.length c2) x.q.args.l.length cs :: row b7 [.int .u64 x.t, .int .u32 x.q.p, .slice (some ⟨g, 0, none⟩) x.q.args.l.length c2, .int .u8 x.w] 33 :: Γ)) (nums_set .u32 xs k _)
        · have h7 : has (audAt b slots' (i + 1) (own 28 1 (.slice A2 x.q.args.l.length c2) x.q.args.l.length (nums .u32 xs) :: row b7 [.int .u64 x.t, .int .u32 x.q.p, .slice A2 x.q.args.l.length c2, .int .u8 x.w] 33 :: Γ)) (fun m => cellAt m b7 2 (.slice A2 x.q.args.l.length c2)) := has_row 3 rfl rfl
          refine m_run ?_
          refine TL.sub (Δ := audAt b slots' (i + 1) Γ) (by (repeat (first | exact List.Sublist.refl _ | apply List.Sublist.cons_cons | apply List.Sublist.cons))) ?_
          (apply TL.callV; exact rfl; exact callB_of (by kernel_rfl); exact rfl; exact fun _ h => h)
          exact last_t b slots' (i + 1) n Γ hs' (by omega) (fun z hz => Nat.le_trans (hl' z hz) (by omega)) hn
          rintro _ _ ⟨told, A4, c4, rfl, rfl, hlen4, htold⟩
          refine m_run ?_
          refine TL.know (t := 60) (v := .int .i64 ((i + 1 : Nat) : Int)) (congrArg (Value.int .i64) (i64_succ i (by omega))) ?_
          (apply TL.sliceHi; exact rfl; exact rfl; exact rfl; exact tb rfl; exact rfl; exact tb rfl; omega; omega)
          have htake : (ls.take (i + 1)).length = i + 1 := by rw [List.length_take]; omega
          have hr := reflast_t ⟨some ⟨bl, ol, none⟩, c, ls.take (i + 1)⟩ n (recsAt (.slice A4 told.length c4) told (audAt b slots' (i + 1) Γ)) (by
            show has _ (srcAt 4 (some ⟨bl, ol, none⟩) (ls.take (i + 1)).length ((ls.take (i + 1)).flatMap recCells))
            rw [htake, flat_take (sz := 4) (fun _ => rfl)]
            exact has_tls (has_tls (has_tls (has_tls (has_imp h fun m hm => src_take hm (by omega)))))) (by show (ls.take (i + 1)).length ≤ _; omega) (by show (ls.take (i + 1)).length ≤ c; omega)
          simp only [Sl.v, htake] at hr
          refine m_run ?_
          (apply TL.callV; exact rfl; exact callB_of (by kernel_rfl); exact rfl; exact fun _ h => h)
          exact hr
          rintro _ _ ⟨A5, c5, rfl, hin5, rfl⟩
          refine m_run ?_
          have hL : lastN n (i + 1) ≤ i + 1 ∧ lastN n (i + 1) ≤ 32 := by unfold lastN; split <;> omega
          have hab : told.map Rec.abs = ((ls.take (i + 1)).drop (i + 1 - lastN n (i + 1))).map Rec.abs := by
            apply List.ext_getElem?
            intro q
            rw [List.getElem?_map, List.getElem?_map, List.getElem?_drop, List.getElem?_take]
            rcases Nat.lt_or_ge q told.length with hq | hq
            · obtain ⟨y, A6, c6, hy, hy2⟩ := htold q told[q] (by simp [hq])
              obtain ⟨y', z, h5, h6, h7⟩ := ht' (i + 1 - lastN n (i + 1) + q) (by omega) (by omega)
              rw [hy] at h5
              injection h5 with h5
              subst h5
              rw [List.getElem?_eq_getElem hq, if_pos (by omega), h6, hy2]
              exact congrArg some h7
            · rw [List.getElem?_eq_none hq, if_neg (by omega)]
          (apply TL.callV; exact rfl; exact callB_of (by kernel_rfl); exact rfl; exact fun _ h => h)
          exact same_t ⟨A4, c4, told⟩ ⟨A5, c5, (ls.take (i + 1)).drop (i + 1 - lastN n (i + 1))⟩ _ recs_src hin5 (fun z hz => has_alls 1 rfl (up_src _ _ _ _) hz fun m h => ownR_src h) (fun z hz => has_tls (has_tls (has_tls (has_tls (hargs z (List.mem_of_mem_take (List.mem_of_mem_drop hz))))))) hab (fun z hz => by
            obtain ⟨q, hq⟩ := List.getElem?_of_mem hz
            obtain ⟨y, A6, c6, hy, rfl⟩ := htold q z hq
            exact Nat.le_trans (hl' y (List.mem_of_getElem? hy)) (by omega)) (by show told.length ≤ _; omega)
          rintro _ _ ⟨rfl, rfl⟩
          refine m_run ?_
          (apply TL.callV; exact rfl; exact callB_of (by kernel_rfl); exact rfl; exact fun _ h => h)
          exact count_t b ((i + 1 : Nat) : Int) _ (has_row 2 rfl (aud_count hs' (i + 1)))
          rintro _ _ ⟨rfl, rfl⟩
          refine m_run ?_
          refine TK.know (t := 73) (v := .bool false) (congrArg Value.bool (by rw [i64_in (by omega) (by omega), u64_in (by omega) (by omega)]; simp)) ?_
          refine m_run ?_
          apply TK.iter (fun j ρ' Γ' => ∃ k : Nat, k + j = told.length ∧ lk ρ' 0 = .slice (some ⟨bl, ol, none⟩) ls.length c ∧ lk ρ' 1 = .int .i64 n ∧ lk ρ' 5 = .pointer (some ⟨b, 0, none⟩) ∧ lk ρ' 6 = .int .i64 i ∧ lk ρ' 9 = .slice A4 told.length c4 ∧ lk ρ' 10 = .int .i64 k ∧
            Γ' = own 33 4 (.slice A4 told.length c4) told.length (told.flatMap recCells) :: alls ownR (told.drop k) :: audAt b slots' (i + 1) Γ) told.length
          · exact ⟨0, by omega, rfl, rfl, rfl, rfl, rfl, rfl, rfl⟩
          rintro j3 IH3 ρ3 Γ3 ⟨k3, hkj3, e0, e1, e5, e6, e9, e10, rfl⟩
          refine TK.know6 e0 e1 e5 e6 e9 e10 ?_
          by_cases hk3 : k3 < told.length
          · refine TK.fact (all_at 0 rfl fun m h => own_some h (by omega)) ?_
            rintro ⟨g4, rfl⟩
            have hz : told[k3]? = some told[k3] := by simp [hk3]
            rw [List.drop_eq_getElem_cons hk3]
            have hz30 : told[k3].q.args.l.length ≤ 30 := by
              obtain ⟨y, A6, c6, hy, hy2⟩ := htold k3 told[k3] hz
              rw [hy2]
              exact hl' y (List.mem_of_getElem? hy)
            generalize told[k3] = z at hz hz30
            obtain ⟨zt, ⟨zp, ⟨zA, zc, zs⟩⟩, zw⟩ := z
            replace hz30 : zs.length ≤ 30 := hz30
            refine m_run ?_
            refine TK.imp (Δ := own 33 4 (.slice (some ⟨g4, 0, none⟩) told.length c4) told.length (told.flatMap recCells) :: own 28 1 (.slice zA zs.length zc) zs.length (nums .u32 zs) :: alls ownR (told.drop (k3 + 1)) :: audAt b slots' (i + 1) Γ) (fun m hm => sep_mono hm (fun _ => id) fun _ h => sep_assoc h) ?_
            apply TK.iter (fun j ρ' Γ' => ∃ (q : Nat) (xs : List Int), q + j = zs.length ∧ xs.length = zs.length ∧ lk ρ' 0 = .slice (some ⟨bl, ol, none⟩) ls.length c ∧ lk ρ' 1 = .int .i64 n ∧ lk ρ' 5 = .pointer (some ⟨b, 0, none⟩) ∧ lk ρ' 6 = .int .i64 i ∧ lk ρ' 9 = .slice (some ⟨g4, 0, none⟩) told.length c4 ∧ lk ρ' 10 = .int .i64 k3 ∧ lk ρ' 11 = .int .i64 q ∧
              Γ' = own 33 4 (.slice (some ⟨g4, 0, none⟩) told.length c4) told.length (told.flatMap recCells) :: own 28 1 (.slice zA zs.length zc) zs.length (nums .u32 xs) :: alls ownR (told.drop (k3 + 1)) :: audAt b slots' (i + 1) Γ) zs.length
            · exact ⟨0, zs, by omega, rfl, rfl, rfl, rfl, rfl, rfl, rfl, rfl, rfl⟩
            rintro j4 IH4 ρ4 Γ4 ⟨q, xs, hqj, hxs, e0, e1, e5, e6, e9, e10, e11, rfl⟩
            refine TK.know7 e0 e1 e5 e6 e9 e10 e11 ?_
            have hs4 : has (own 33 4 (.slice (some ⟨g4, 0, none⟩) told.length c4) told.length (told.flatMap recCells) :: own 28 1 (.slice zA zs.length zc) zs.length (nums .u32 xs) :: alls ownR (told.drop (k3 + 1)) :: audAt b slots' (i + 1) Γ) (srcAt 4 (some ⟨g4, 0, none⟩) told.length (told.flatMap recCells)) := has_at (up_src _ _ _ _) 0 rfl fun m h => own_src h
            have hc4 : has _ (fun m => cellAt m g4 (k3 * 4 + 1 + 1) (.slice zA zs.length zc)) := has_cell (o' := k3 * 4 + 1 + 1) (recs_get hs4 hz) 2 rfl (by omega)
            by_cases hq : q < zs.length
            · refine TK.fact (all_at 1 rfl fun m h => own_some h (by omega)) ?_
              rintro ⟨gz, rfl⟩
              have hv := has_num (has_at (i := 1) (Γ := own 33 4 (.slice (some ⟨g4, 0, none⟩) told.length c4) told.length (told.flatMap recCells) :: own 28 1 (.slice (some ⟨gz, 0, none⟩) zs.length zc) zs.length (nums .u32 xs) :: alls ownR (told.drop (k3 + 1)) :: audAt b slots' (i + 1) Γ) (up_src _ _ _ _) rfl (fun m h => own_src h)) (i := q) (by omega)
              rw [Nat.zero_add] at hv
              refine m_run ?_
              (apply TL.storeOwn 1 q; exact rfl; exact rfl; (exact m_val); exact rfl; exact tb rfl; exact rfl; exact (Nat.zero_add _).symm)
              · exact hq
              refine m_run ?_
              refine IH4 (j4 - 1) _ _ (by omega) ⟨q + 1, xs.set q (bitsOf .xor .u32 (xs[q]'(by omega)) 2), by omega, by simp [hxs], rfl, rfl, rfl, rfl, rfl, rfl, congrArg (Value.int .i64) (i64_succ q (by omega)), ?_⟩
              exact congrArg (fun cs => own 33 4 (.slice (some ⟨g4, 0, none⟩) told.length c4) told.length (told.flatMap recCells) :: own 28 1 (.slice (some ⟨gz, 0, none⟩) zs.length zc) zs.length cs :: alls ownR (told.drop (k3 + 1)) :: audAt b slots' (i + 1) Γ) (nums_set .u32 xs q _)
            · refine m_run ?_
              refine TK.sub (Δ := own 33 4 (.slice (some ⟨g4, 0, none⟩) told.length c4) told.length (told.flatMap recCells) :: alls ownR (told.drop (k3 + 1)) :: audAt b slots' (i + 1) Γ) (by (repeat (first | exact List.Sublist.refl _ | apply List.Sublist.cons_cons | apply List.Sublist.cons))) ?_
              refine IH3 (j3 - 1) _ _ (by omega) ⟨k3 + 1, by omega, rfl, rfl, rfl, rfl, rfl, congrArg (Value.int .i64) (i64_succ k3 (by omega)), rfl⟩
          · refine m_run ?_
            refine TK.sub (Δ := audAt b slots' (i + 1) Γ) (by (repeat (first | exact List.Sublist.refl _ | apply List.Sublist.cons_cons | apply List.Sublist.cons))) ?_
            refine IH (j - 1) _ _ (by omega) ⟨i + 1, slots', by omega, hs', hl', ht', rfl, rfl, rfl, congrArg (Value.int .i64) (i64_succ i (by omega)), rfl⟩
    · obtain rfl : i = ls.length := by omega
      have hr := last_t b slots ls.length 1099511627776 Γ hs (by omega) (fun z hz => Nat.le_trans (hl z hz) (by omega)) (by omega)
      refine m_run ?_
      (apply TL.callV; exact rfl; exact callB_of (by kernel_rfl); exact rfl; exact fun _ h => h)
      exact hr
      rintro _ _ ⟨told, A4, c4, rfl, rfl, hlen4, htold⟩
      refine m_run ?_
      have hr2 := reflast_t ⟨A, c, ls⟩ 1099511627776 (recsAt (.slice A4 told.length c4) told (audAt b slots ls.length Γ)) (has_tls (has_tls (has_tls (has_tls h)))) (by show ls.length ≤ _; omega) hcap
      (apply TL.callV; exact rfl; exact callB_of (by kernel_rfl); exact rfl; exact fun _ h => h)
      exact hr2
      rintro _ _ ⟨A5, c5, rfl, hin5, rfl⟩
      refine m_run ?_
      have hL : lastN 1099511627776 ls.length ≤ ls.length ∧ lastN 1099511627776 ls.length ≤ 32 := by unfold lastN; split <;> omega
      have hab : told.map Rec.abs = (ls.drop (ls.length - lastN 1099511627776 ls.length)).map Rec.abs := by
        apply List.ext_getElem?
        intro q
        rw [List.getElem?_map, List.getElem?_map, List.getElem?_drop]
        rcases Nat.lt_or_ge q told.length with hq | hq
        · obtain ⟨y, A6, c6, hy, hy2⟩ := htold q told[q] (by simp [hq])
          obtain ⟨y', z, h5, h6, h7⟩ := ht (ls.length - lastN 1099511627776 ls.length + q) (by omega) (by omega)
          rw [hy] at h5
          injection h5 with h5
          subst h5
          rw [List.getElem?_eq_getElem hq, h6, hy2]
          exact congrArg some h7
        · rw [List.getElem?_eq_none hq, List.getElem?_eq_none (by omega)]
      (apply TL.callV; exact rfl; exact callB_of (by kernel_rfl); exact rfl; exact fun _ h => h)
      exact same_t ⟨A4, c4, told⟩ ⟨A5, c5, ls.drop (ls.length - lastN 1099511627776 ls.length)⟩ _ recs_src hin5 (fun z hz => has_alls 1 rfl (up_src _ _ _ _) hz fun m h => ownR_src h) (fun z hz => has_tls (has_tls (has_tls (has_tls (hargs z (List.mem_of_mem_drop hz)))))) hab (fun z hz => by
        obtain ⟨q, hq⟩ := List.getElem?_of_mem hz
        obtain ⟨y, A6, c6, hy, rfl⟩ := htold q z hq
        exact Nat.le_trans (hl y (List.mem_of_getElem? hy)) (by omega)) (by show told.length ≤ _; omega)
      rintro _ _ ⟨rfl, rfl⟩
      refine m_run ?_
      (apply TL.callV; exact rfl; exact callB_of (by kernel_rfl); exact rfl; exact fun _ h => h)
      exact works_t _
      rintro _ _ ⟨rfl, rfl⟩
      refine m_run ?_
      (apply TK.retS1; exact rfl; (exact m_val))
      · exact ⟨_, rfl, rfl, rfl⟩
      · (repeat (first | exact List.Sublist.refl _ | apply List.Sublist.cons_cons | apply List.Sublist.cons))
end Go.Proofs.Ytoccilnobgoncaa.E
