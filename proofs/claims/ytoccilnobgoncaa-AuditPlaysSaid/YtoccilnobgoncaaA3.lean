/- The example 'works' of the audit answers true. -/
import Derived.Test.YtoccilnobgoncaaA2
namespace Go.Proofs.Ytoccilnobgoncaa.E
open Go Go.RowKit Go.Proofs
attribute [local irreducible] TK TL TQ TA Fn PV
theorem own_some {e sz n c : Nat} {A : Option Addr} {cs : List Value} {m : Mem} (h : own e sz (.slice A n c) n cs m) (hn : 0 < n) : ∃ g, A = some ⟨g, 0, none⟩ := by
  obtain ⟨_, ⟨_, h0, _⟩ | ⟨g, cap, cur, hv, _⟩⟩ := h
  · omega
  · injection hv with hv _ _; exact ⟨g, hv⟩
theorem recs_get {Γ : List HP} {g o n : Nat} {ls : List Rec} (h : has Γ (srcAt 4 (some ⟨g, o, none⟩) n (ls.flatMap recCells))) {i : Nat} {x : Rec} (hx : ls[i]? = some x) : has Γ (fun m => cellsAt m g (o + i * 4) (recCells x)) := fun m hm j v hj => by
  obtain ⟨_, h1⟩ := h m hm
  have hf := flat_slot hx
  have h2 : (ls.flatMap recCells)[i * 4 + j]? = some v := by
    rw [← hf] at hj
    simp [List.getElem?_take] at hj
    exact hj.2
  rcases h1 with h1 | ⟨b, o', e, h1⟩
  · rw [h1] at h2; simp at h2
  · injection e with e
    injection e with e1 e2 _
    subst e1; subst e2
    have := h1 _ v h2
    rwa [← Nat.add_assoc] at this
theorem has_cell {Γ : List HP} {g o : Nat} {vs : List Value} (h : has Γ (fun m => cellsAt m g o vs)) (j : Nat) {v : Value} (hj : vs[j]? = some v) {o' : Nat} (ho : o + j = o') : has Γ (fun m => cellAt m g o' v) := fun m hm => ho ▸ h m hm j v hj
theorem recs_src {A : Option Addr} {c : Nat} {ls : List Rec} {Γ : List HP} : has (recsAt (.slice A ls.length c) ls Γ) (srcAt 4 A ls.length (ls.flatMap recCells)) := has_at (up_src _ _ _ _) 0 rfl fun _ h => own_src h
theorem src_nil {Γ : List HP} (sz : Nat) (A : Option Addr) : has Γ (srcAt sz A 0 []) := fun _ _ => ⟨by simp, .inl rfl⟩
set_option maxRecDepth 100000 in
theorem works_t (Γ : List HP) : FnV Try.prog 16 [] Γ fun v Γ' => v = .bool true ∧ Γ' = Γ := by
  refine Fn.enter Try.func16 rfl rfl rfl fun E => ?_
  refine m_run ?_
  (apply TL.callV; exact rfl; exact callB_of (by kernel_rfl); exact rfl; exact fun _ h => h)
  exact new_t _
  rintro _ _ ⟨b, rfl, rfl⟩
  refine m_run ?_
  apply TK.iter (fun j ρ' Γ' => ∃ (n : Nat) (slots : List Rec), n + j = 3 ∧ slots.length = 32 ∧ (∀ x ∈ slots, x.q.args.l.length ≤ 1000000) ∧ (∀ q, q < n → ∃ x, slots[q]? = some x ∧ x.t = ((q + 1 : Nat) : Int)) ∧ lk ρ' 1 = .pointer (some ⟨b, 0, none⟩) ∧ lk ρ' 2 = .int .u64 ((n + 1 : Nat) : Int) ∧ Γ' = audAt b slots n Γ) 3
  · exact ⟨0, List.replicate 32 zrec, rfl, by simp, fun x hx => by rw [List.eq_of_mem_replicate hx]; simp [zrec], fun q hq => by omega, rfl, rfl, rfl⟩
  rintro j IH ρ' Γ' ⟨n, slots, hnj, hs, hl, ht, e1, e2, rfl⟩
  refine TK.know2 e1 e2 ?_
  by_cases hn : n < 3
  · refine m_run ?_
    (apply TL.build tabs; exact rfl; exact rfl; exact rfl; exact rfl; exact rfl; exact rfl; (exact m_lst))
    refine m_run ?_
    (apply TL.callV; exact rfl; exact callB_of (by kernel_rfl); exact rfl; exact fun _ h => h)
    exact put_t b slots n ⟨((n + 1 : Nat) : Int), ⟨0, ⟨none, 0, []⟩⟩, 0⟩ Γ hs (by omega) (src_nil 1 none) (by simp)
    rintro _ _ ⟨rfl, A, c, rfl⟩
    refine m_run ?_
    refine IH (j - 1) _ _ (by omega) ⟨n + 1, slots.set (n % 32) (withArgs ⟨((n + 1 : Nat) : Int), ⟨0, ⟨none, 0, []⟩⟩, 0⟩ A c), by omega, by simpa using hs, ?_, ?_, rfl, congrArg (Value.int .u64) (u64_succ (n + 1) (by omega)), rfl⟩
    · intro x hx
      rcases List.mem_or_eq_of_mem_set hx with hx | rfl
      · exact hl x hx
      · simp [withArgs]
    · intro q hq
      rw [Nat.mod_eq_of_lt (by omega)]
      rcases Nat.lt_or_ge q n with h | h
      · rw [List.getElem?_set_ne (by omega)]; exact ht q h
      · obtain rfl : q = n := by omega
        exact ⟨_, List.getElem?_set_self (by omega), rfl⟩
  · obtain rfl : n = 3 := by omega
    refine m_run ?_
    (apply TL.callV; exact rfl; exact callB_of (by kernel_rfl); exact rfl; exact fun _ h => h)
    exact last_t b slots 3 2 Γ hs (by omega) hl (by omega)
    rintro _ _ ⟨ls, A, c, rfl, rfl, hlen, htold⟩
    have hlen2 : ls.length = 2 := hlen
    refine TL.mem fun m hm => ?_
    obtain ⟨_, _, _, _, hown, _⟩ := id hm
    obtain ⟨g, rfl⟩ := own_some hown (by omega)
    have hsrc := recs_src (A := some ⟨g, 0, none⟩) (c := c) (ls := ls) (Γ := audAt b slots 3 Γ)
    obtain ⟨y0, A0, c0, hy0, hx0⟩ := htold 0 ls[0] (by simp)
    obtain ⟨y1, A1, c1, hy1, hx1⟩ := htold 1 ls[1] (by simp)
    have h0 := has_cell (recs_get hsrc (i := 0) (x := ls[0]) (by simp)) 0 rfl rfl
    have h1 := has_cell (recs_get hsrc (i := 1) (x := ls[1]) (by simp)) 0 rfl rfl
    have ht0 : ls[0].t = 2 := by
      obtain ⟨x, h2, h3⟩ := ht 1 (by omega)
      have : slots[1]? = some y0 := hy0
      rw [h2] at this; injection this with this; subst this
      rw [hx0]; exact h3
    have ht1 : ls[1].t = 3 := by
      obtain ⟨x, h2, h3⟩ := ht 2 (by omega)
      have : slots[2]? = some y1 := hy1
      rw [h2] at this; injection this with this; subst this
      rw [hx1]; exact h3
    rw [ht0] at h0
    rw [ht1] at h1
    have hcnt : has (audAt b slots 3 Γ) (fun m => cellAt m b 128 (.int .u64 3)) := has_row 0 rfl (aud_count hs 3)
    refine m_run ?_
    (apply TL.callV; exact rfl; exact callB_of (by kernel_rfl); exact rfl; exact fun _ h => h)
    exact count_t b 3 _ (by exact m_has)
    rintro _ _ ⟨rfl, rfl⟩
    refine m_run ?_
    refine TL.sub (Δ := audAt b slots 3 Γ) (by (repeat (first | exact List.Sublist.refl _ | apply List.Sublist.cons_cons | apply List.Sublist.cons))) ?_
    (apply TL.callV; exact rfl; exact callB_of (by kernel_rfl); exact rfl; exact fun _ h => h)
    exact last_t b slots 3 0 Γ hs (by omega) hl (by omega)
    rintro _ _ ⟨ls', A', c', rfl, rfl, hlen', _⟩
    have hlen0 : ls'.length = 0 := hlen'
    refine m_run ?_
    (apply TK.retS1; exact rfl; (exact m_val))
    · refine ⟨_, rfl, ?_, rfl⟩
      simp [hlen0]
    · (repeat (first | exact List.Sublist.refl _ | apply List.Sublist.cons_cons | apply List.Sublist.cons))
end Go.Proofs.Ytoccilnobgoncaa.E
