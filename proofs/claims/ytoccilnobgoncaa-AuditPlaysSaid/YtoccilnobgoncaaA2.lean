/- The audit's own functions: New, Put, Last, as the program does. -/
import Derived.Test.YtoccilnobgoncaaA1
namespace Go.Proofs.Ytoccilnobgoncaa.E
open Go Go.RowKit Go.Proofs
attribute [local irreducible] TK TL TQ TA Fn PV
/-! ### records -/
structure Fct where
  p : Int
  args : Sl Int
structure Rec where
  t : Int
  q : Fct
  w : Int
abbrev recCells (r : Rec) : List Value := [.int .u64 r.t, .int .u32 r.q.p, r.q.args.v, .int .u8 r.w]
abbrev recV (r : Rec) : Value := .agg #[.int .u64 r.t, .int .u32 r.q.p, .slice r.q.args.A r.q.args.l.length r.q.args.c, .int .u8 r.w]
abbrev argsAt (s : Sl Int) : Mem → Prop := srcAt 1 s.A s.l.length (nums .u32 s.l)
abbrev ownR (r : Rec) : HP := own 28 1 r.q.args.v r.q.args.l.length (nums .u32 r.q.args.l)
theorem ownR_src {r : Rec} {m : Mem} (h : ownR r m) : argsAt r.q.args m := own_src h
def withArgs (r : Rec) (A : Option Addr) (c : Nat) : Rec := ⟨r.t, ⟨r.q.p, ⟨A, c, r.q.args.l⟩⟩, r.w⟩
theorem own_r (r : Rec) (Γ : List HP) (h : has Γ (argsAt r.q.args)) (hn : r.q.args.l.length ≤ 1000000) :
    FnV Try.prog 54 [recV r] Γ fun v Γ' => ∃ A' c', v = recV (withArgs r A' c') ∧ Γ' = ownR (withArgs r A' c') :: Γ := by
  refine Fn.mono (own_t r.t r.q.p r.w r.q.args.A r.q.args.l.length r.q.args.c (nums .u32 r.q.args.l) Γ h (nums_one _ _) hn) ?_
  rintro e Γ' ⟨v, rfl, A', c', hc, rfl, rfl⟩
  exact ⟨_, rfl, A', c', rfl, rfl⟩
/-! ### the audit -/
def audCells (slots : List Rec) (n : Nat) : List Value := slots.flatMap recCells ++ [.int .u64 n]
theorem recCells_len (slots : List Rec) : (slots.flatMap recCells).length = slots.length * 4 := by
  induction slots with
  | nil => rfl
  | cons x l ih => simp at ih ⊢; omega
theorem aud_len {slots : List Rec} (h : slots.length = 32) (n : Nat) : (audCells slots n).length = 129 := by simp only [audCells, List.length_append, recCells_len, h]; rfl
theorem aud_count {slots : List Rec} (h : slots.length = 32) (n : Nat) : (audCells slots n)[128]? = some (.int .u64 n) := by
  unfold audCells
  rw [List.getElem?_append_right (by rw [recCells_len, h]; omega), recCells_len, h]; rfl
theorem flat_set (f : Rec → List Value) (hf : ∀ r, (f r).length = 4) (r : Rec) : ∀ (slots : List Rec) (i : Nat), i < slots.length → (slots.flatMap f).take (i * 4) ++ f r ++ (slots.flatMap f).drop (i * 4 + 4) = (slots.set i r).flatMap f
  | [], i, h => by simp at h
  | x :: l, 0, _ => by simp [← hf x]
  | x :: l, i + 1, h => by
    have ih := flat_set f hf r l i (by simpa using h)
    have h4 : (i + 1) * 4 = (f x).length + i * 4 := by rw [hf]; omega
    have h5 : (i + 1) * 4 + 4 = (f x).length + (i * 4 + 4) := by rw [hf]; omega
    rw [List.flatMap_cons, h4, List.take_length_add_append, Nat.add_assoc, List.drop_length_add_append, List.set_cons_succ, List.flatMap_cons, ← ih]
    simp
theorem aud_set {slots : List Rec} (h : slots.length = 32) (n : Nat) {i : Nat} (hi : i < 32) (r : Rec) : (audCells slots n).take (i * 4) ++ recCells r ++ (audCells slots n).drop (i * 4 + 4) = audCells (slots.set i r) n := by
  unfold audCells
  rw [List.take_append_of_le_length (by rw [recCells_len]; omega), List.drop_append_of_le_length (by rw [recCells_len]; omega), ← List.append_assoc, flat_set recCells (fun _ => rfl) r slots i (by omega)]
theorem aud_inc {slots : List Rec} (h : slots.length = 32) (n : Nat) (k : Nat) : (audCells slots n).set 128 (.int .u64 k) = audCells slots k := by
  unfold audCells
  rw [List.set_append_right _ _ (by rw [recCells_len]; omega), recCells_len, h]; rfl
theorem flat_slot {slots : List Rec} {i : Nat} {r : Rec} (h : slots[i]? = some r) : ((slots.flatMap recCells).drop (i * 4)).take 4 = recCells r := by
  induction slots generalizing i with
  | nil => simp at h
  | cons x l ih =>
    cases i with
    | zero => simp at h; subst h; simp
    | succ i =>
      have h4 : (i + 1) * 4 = (recCells x).length + i * 4 := by simp; omega
      rw [List.flatMap_cons, h4, List.drop_length_add_append]
      exact ih (by simpa using h)
theorem has_slot {Γ : List HP} {b e n : Nat} {slots : List Rec} {i : Nat} {r : Rec} (hs : slots.length = 32) (h : slots[i]? = some r) : has (row b (audCells slots n) e :: Γ) (fun m => cellsAt m b (i * 4) (recCells r)) := by
  refine has_rows 0 rfl ?_
  have hi := (List.getElem?_eq_some_iff.1 h).1
  unfold audCells
  rw [List.drop_append_of_le_length (by rw [recCells_len]; omega), List.take_append_of_le_length (by rw [List.length_drop, recCells_len]; show 4 ≤ _; omega)]
  exact flat_slot h
abbrev audAt (b : Nat) (slots : List Rec) (n : Nat) (Γ : List HP) : List HP := row b (audCells slots n) 94 :: alls ownR slots :: Γ
def cntAt (b n : Nat) : HP := fun m => ∃ l, row b l 94 m ∧ l.length = 129 ∧ l[128]? = some (.int .u64 n)
theorem cnt_cell {b n : Nat} {m : Mem} (h : cntAt b n m) : cellAt m b 128 (.int .u64 n) := by
  obtain ⟨l, hl, _, h2⟩ := h
  exact has_row (Γ := [row b l 94]) 0 rfl h2 m (sep_emp hl)
def zrec : Rec := ⟨0, ⟨0, ⟨none, 0, []⟩⟩, 0⟩
set_option maxRecDepth 100000 in
theorem new_t (Γ : List HP) : FnV Try.prog 17 [] Γ fun v Γ' => ∃ b, v = .pointer (some ⟨b, 0, none⟩) ∧ Γ' = audAt b (List.replicate 32 zrec) 0 Γ := by
  refine Fn.enter Try.func17 rfl rfl rfl fun E => ?_
  refine TK.free (H := alls ownR (List.replicate 32 zrec)) (fun m hm => ?_) ?_
  · have : ∀ n m, emp m → alls ownR (List.replicate n zrec) m := by
      intro n
      induction n with
      | zero => exact fun m hm => hm
      | succ n ih => exact fun m hm => sep_comm (sep_mono (sep_emp (ih m hm)) (fun _ => id) fun _ h => own_nil _ _ h)
    exact this 32 m hm
  refine m_run ?_
  (apply TL.build tabs (l := audCells (List.replicate 32 zrec) 0); exact rfl; exact rfl; exact rfl; exact rfl; exact rfl; exact rfl; kernel_rfl)
  refine m_run ?_
  (apply TL.box (l := audCells (List.replicate 32 zrec) 0); exact rfl; exact rfl; exact rfl)
  intro b
  refine m_run ?_
  (apply TK.ret1; exact rfl; (exact m_val))
  exact ⟨_, rfl, b, rfl, rfl⟩
theorem put_t (b : Nat) (slots : List Rec) (k : Nat) (r : Rec) (Γ : List HP) (hs : slots.length = 32) (hk : k < 1000000) (h : has (audAt b slots k Γ) (argsAt r.q.args)) (hn : r.q.args.l.length ≤ 1000000) :
    FnV Try.prog 18 [.pointer (some ⟨b, 0, none⟩), recV r] (audAt b slots k Γ) fun v Γ' => v = .int .i64 0 ∧ ∃ A c, Γ' = audAt b (slots.set (k % 32) (withArgs r A c)) (k + 1) Γ := by
  refine Fn.enter Try.func18 rfl rfl rfl fun E => ?_
  refine m_run ?_
  (apply TL.box; exact rfl; exact rfl; (exact m_lst))
  intro b1
  have hc : has (audAt b slots k Γ) (fun m => cellAt m b 128 (.int .u64 k)) := has_row 0 rfl (aud_count hs k)
  refine m_run ?_
  refine TK.drawE mixed (row b1 (recCells r) 33 :: cntAt b k :: Γ) ?_
  have hent : Ent (row b1 (recCells r) 33 :: audAt b slots k Γ) (row b1 (recCells r) 33 :: cntAt b k :: Γ) := .cons (fun _ => id) (.cons (fun m hm => ⟨_, hm, aud_len hs k, aud_count hs k⟩) (.sub (List.sublist_cons_self _ _)))
  have hc2 : has (row b1 (recCells r) 33 :: cntAt b k :: Γ) (fun m => cellAt m b 128 (.int .u64 k)) := has_at (up_cell _ _ _) 1 rfl (fun m hm => cnt_cell hm)
  refine m_take (At.mk : At 0) ?_; refine m_take (At.mk : At 1) ?_; refine m_take (At.mk : At 2) ?_; refine m_take (At.mk : At 3) ?_; refine m_take (At.mk : At 4) ?_; refine m_take (At.mk : At 5) ?_; refine m_take (At.mk : At 6) ?_; refine m_take (At.mk : At 8) ?_; refine m_take (At.mk : At 9) ?_
  (apply TA.one 7; kernel_rfl; exact rfl)
  (apply TL.callV; exact rfl; exact callB_of (by kernel_rfl); exact rfl; exact fun _ h => h)
  exact own_r r _ (by exact m_hsrc) hn
  rintro _ _ ⟨A, c, rfl, rfl⟩
  refine TL.back (by (focus ((repeat (first | assumption | exact Ent.refl _ | apply Ent.tail)); done))) ?_
  refine m_take (At.mk : At 10) ?_
  (apply TA.one 11; kernel_rfl; exact rfl)
  have hm32 : k % 32 < 32 := Nat.mod_lt _ (by decide)
  have hs' : (slots.set (k % 32) (withArgs r A c)).length = 32 := by simpa using hs
  (apply TL.storeAggE (l := audCells slots k) (vs := recCells (withArgs r A c)) 2; exact rfl; exact rfl; exact rfl; exact rfl; exact tb rfl; exact rfl)
  · rw [aud_len hs]; simp; omega
  · exact aud_set hs k hm32 _
  · exact (rfl : _ = _ :: _ :: _ :: _)
  refine TL.back (.tail (.cons (fun _ => id) (.cons (fun m hm => ⟨_, hm, aud_len hs' k, aud_count hs' k⟩) (.sub (List.sublist_cons_self _ _))))) ?_
  refine TA.done (by kernel_rfl) ?_
  have hc3 : has (row b (audCells (slots.set (k % 32) (withArgs r A c)) k) 94 :: alls ownR slots :: Γ) (fun m => cellAt m b 128 (.int .u64 k)) := has_row 0 rfl (aud_count hs' k)
  refine m_run ?_
  (apply TL.storeE (l' := audCells (slots.set (k % 32) (withArgs r A c)) (k + 1)) 2; exact rfl; exact rfl; exact rfl; exact rfl; exact tb rfl; exact rfl)
  · rw [aud_len hs']; omega
  · exact (congrArg (fun v => (audCells (slots.set (k % 32) (withArgs r A c)) k).set 128 (Value.int .u64 v)) (u64_succ k (by omega))).trans (aud_inc hs' k (k + 1))
  · exact (rfl : _ = _ :: _ :: _ :: _)
  refine m_run ?_
  refine TK.weak (Δ := audAt b (slots.set (k % 32) (withArgs r A c)) (k + 1) Γ) (fun m hm => ?_) ?_
  · have h1 := all_perm (Δ := row b1 (recCells r) 33 :: row b (audCells (slots.set (k % 32) (withArgs r A c)) (k + 1)) 94 :: ownR (withArgs r A c) :: alls ownR slots :: Γ) ((List.Perm.swap _ _ _).trans (.cons _ (.swap _ _ _))) hm
    exact (Ent.tail (Ent.cons (fun _ => id) (fun m hm => alls_renew (by rw [hs]; exact hm32) hm))) m h1
  (apply TK.ret1; exact rfl; (exact m_val))
  exact ⟨_, rfl, rfl, A, c, rfl⟩
theorem put_nil (r : Rec) (Γ : List HP) : FnV Try.prog 18 [.pointer none, recV r] Γ fun v Γ' => v = .int .i64 2 ∧ Γ' = Γ := by
  refine Fn.enter Try.func18 rfl rfl rfl fun E => ?_
  refine m_run ?_
  (apply TL.box; exact rfl; exact rfl; (exact m_lst))
  intro b1
  refine m_run ?_
  (apply TK.retS1; exact rfl; (exact m_val))
  · exact ⟨_, rfl, rfl, rfl⟩
  · (repeat (first | exact List.Sublist.refl _ | apply List.Sublist.cons_cons | apply List.Sublist.cons))
def lastN (n : Int) (k : Nat) : Nat := if n < 1 then 0 else min (min n.toNat k) 32
theorem last_nil (n : Int) (Γ : List HP) : FnV Try.prog 19 [.pointer none, .int .i64 n] Γ fun v Γ' => v = .slice none 0 0 ∧ Γ' = Γ := by
  refine Fn.enter Try.func19 rfl rfl rfl fun E => ?_
  refine m_run ?_
  (apply TK.ret1; exact rfl; (exact m_val))
  exact ⟨_, rfl, rfl, rfl⟩
abbrev recsAt (v : Value) (ls : List Rec) (Γ : List HP) : List HP := own 33 4 v ls.length (ls.flatMap recCells) :: alls ownR ls :: Γ
def Told (slots ls : List Rec) (k0 : Nat) : Prop := ∀ (j : Nat) (x : Rec), ls[j]? = some x → ∃ y A c, slots[(k0 + j) % 32]? = some y ∧ x = withArgs y A c
theorem last_t (b : Nat) (slots : List Rec) (k : Nat) (n : Int) (Γ : List HP) (hs : slots.length = 32) (hk : k < 1000000) (hl : ∀ x ∈ slots, x.q.args.l.length ≤ 1000000) (hn : n ≤ 9223372036854775807) :
    FnV Try.prog 19 [.pointer (some ⟨b, 0, none⟩), .int .i64 n] (audAt b slots k Γ) fun v Γ' => ∃ ls A c, v = .slice A ls.length c ∧ Γ' = recsAt v ls (audAt b slots k Γ) ∧ ls.length = lastN n k ∧ Told slots ls (k - lastN n k) := by
  refine Fn.enter Try.func19 rfl rfl rfl fun E => ?_
  have hc : has (audAt b slots k Γ) (fun m => cellAt m b 128 (.int .u64 k)) := has_row 0 rfl (aud_count hs k)
  refine TK.free (H := alls ownR []) (fun m hm => hm) (TK.free (H := own 33 4 (.slice none 0 0) 0 []) (fun m hm => own_nil _ _ hm) ?_)
  by_cases h1 : n < 1
  · refine m_run ?_
    (apply TK.ret1; exact rfl; (exact m_val))
    refine ⟨_, rfl, [], none, 0, rfl, rfl, by simp [lastN, h1], fun j x hx => by simp at hx⟩
  · have hlast : lastN n k = min (min n.toNat k) 32 := by simp [lastN, h1]
    have hlk : lastN n k ≤ k := by omega
    have e5 : (if (32 : Int) < (if (k : Int) < IntKind.u64.wrap n then (k : Int) else IntKind.u64.wrap n) then (32 : Int) else (if (k : Int) < IntKind.u64.wrap n then (k : Int) else IntKind.u64.wrap n)) = ((lastN n k : Nat) : Int) := by
      rw [u64_in (by omega) (by omega), hlast]
      split <;> split <;> omega
    refine m_run ?_
    apply TK.iter (fun j ρ' Γ' => ∃ (i : Nat) (ls : List Rec) (A : Option Addr) (c : Nat), i + j = k ∧ i = k - lastN n k + ls.length ∧ Told slots ls (k - lastN n k) ∧ lk ρ' 0 = .pointer (some ⟨b, 0, none⟩) ∧ lk ρ' 4 = .slice A ls.length c ∧ lk ρ' 6 = .int .u64 i ∧ Γ' = recsAt (.slice A ls.length c) ls (audAt b slots k Γ)) (lastN n k)
    · refine ⟨k - lastN n k, [], none, 0, by omega, by simp, fun j x hx => by simp at hx, rfl, rfl, ?_, rfl⟩
      refine congrArg (Value.int .u64) ?_
      refine (congrArg (fun z => IntKind.u64.wrap ((k : Int) - z)) e5).trans ?_
      rw [u64_in (by omega) (by omega)]; omega
    rintro j IH ρ' Γ' ⟨i, ls, A, c, hij, hi, ht, e0, e4, e6, rfl⟩
    refine TK.know3 e0 e4 e6 ?_
    by_cases hik : i < k
    · have hm32 : i % 32 < 32 := Nat.mod_lt _ (by decide)
      have hy : slots[i % 32]? = some (slots[i % 32]'(by omega)) := by simp
      generalize slots[i % 32]'(by omega) = y at hy
      have hslot : has (audAt b slots k Γ) (fun m => cellsAt m b (i % 32 * 4) (recCells y)) := has_slot hs hy
      have hmem : y ∈ slots := List.mem_of_getElem? hy
      have hargs : has (audAt b slots k Γ) (argsAt y.q.args) := has_alls 1 rfl (up_src _ _ _ _) hmem fun m h => ownR_src h
      refine m_run ?_
      (apply TL.callV; exact rfl; exact callB_of (by kernel_rfl); exact rfl; exact fun _ h => h)
      exact own_r y _ (by exact m_hsrc) (hl y hmem)
      rintro _ _ ⟨A', c', rfl, rfl⟩
      refine m_run ?_
      (apply TL.buildSlice; exact rfl; exact tb rfl; exact rfl; exact tb rfl; exact rfl; exact rfl; exact rfl; exact rfl; (exact m_lst))
      intro b3
      refine m_run ?_
      (apply TL.append 2; exact rfl; exact rfl; exact tb rfl; exact rfl; exact tb rfl; exact rfl; exact rfl; exact rfl)
      exact fun m hm => hm
      exact rfl
      exact has_src_row 0 rfl rfl
      · simp [Value.oneCell']
      · exact Nat.le_trans (Nat.mul_le_mul_right _ (by omega : ls.length + 1 ≤ 32)) (by decide)
      · unfold maxLen; omega
      exact fun _ => (rfl : _ = _ :: _ :: _ :: _)
      intro A2 c2 hc2
      refine m_run ?_
      refine TK.weak (Δ := recsAt (.slice A2 (ls ++ [withArgs y A' c']).length c2) (ls ++ [withArgs y A' c']) (audAt b slots k Γ)) (fun m hm => ?_) ?_
      · obtain ⟨m1, h2, h3⟩ := (Ent.sub (List.sublist_cons_self _ _)) m hm
        refine ⟨m1, h2, ?_⟩
        have h4 := all_perm (List.Perm.swap _ _ _) h3
        simp only [recsAt, List.length_append, List.length_singleton, List.flatMap_append, List.flatMap_singleton]
        exact sep_mono h4 (fun _ => id) fun _ h => sep_mono (sep_assoc' h) (fun _ h => alls_append.2 (sep_comm (sep_mono h (fun _ h => alls_one.2 h) (fun _ => id)))) (fun _ => id)
      refine IH (j - 1) _ _ (by omega) ⟨i + 1, ls ++ [withArgs y A' c'], A2, c2, by omega, by simp; omega, ?_, rfl, (by simp only [List.length_append, List.length_singleton]; exact rfl), congrArg (Value.int .u64) (u64_succ i (by omega)), rfl⟩
      intro q x hx
      rcases Nat.lt_or_ge q ls.length with hq | hq
      · rw [List.getElem?_append_left hq] at hx; exact ht q x hx
      · rw [List.getElem?_append_right hq] at hx
        have hq' : q - ls.length = 0 := by
          have := (List.getElem?_eq_some_iff.1 hx).1
          simp at this; omega
        rw [hq'] at hx
        simp at hx
        refine ⟨y, A', c', ?_, hx.symm⟩
        rw [show k - lastN n k + q = i by omega]
        exact hy
    · refine m_run ?_
      (apply TK.ret1; exact rfl; (exact m_val))
      have hik' : i = k := by omega
      exact ⟨_, rfl, ls, A, c, rfl, rfl, by omega, ht⟩
end Go.Proofs.Ytoccilnobgoncaa.E
