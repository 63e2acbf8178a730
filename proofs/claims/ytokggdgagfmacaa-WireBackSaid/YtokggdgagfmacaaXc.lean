/- May, PutRule: walked. -/
import Derived.Test.YtokggdgagfmacaaXb
namespace Go.Proofs.Ytokggdgagfmacaa.E
open Go Go.RowKit Go.Proofs
section
/- wire.May and the document's: walked. -/
attribute [local irreducible] TK TL TQ TA TB Fn PV
def whoY (y : Sy) : Bool := if y.s then !(y.w.v && decide (16 ≤ y.w.n)) else decide (y.w = ⟨false, 0⟩)
def mayY (y : Sy) : Bool := whoY y && mayA y.a.l
def plainL (l : List Cd) : List Lt := l.map fun x => ⟨false, x.y.a⟩
def mayR (r : Rl) : Bool := mayC ⟨r.h.a, r.A, r.c, plainL r.l⟩ && (whoY r.h && !(r.l.any fun x => !whoY x.y))
def Rl.small (r : Rl) : Prop := r.l.length ≤ 1000000 ∧ r.h.a.l.length ≤ 1000000 ∧ ∀ x ∈ r.l, x.y.a.l.length ≤ 1000000
theorem plainL_len (l : List Cd) : (plainL l).length = l.length := List.length_map ..
theorem plainL_any (l : List Cd) : ((plainL l).any fun x => !mayA x.a.l) = l.any fun x => !mayA x.y.a.l := by simp [plainL, List.any_map, Function.comp_def]
theorem any_two (l : List Cd) : ((l.any fun x => !mayA x.y.a.l) || (l.any fun x => !whoY x.y)) = l.any fun x => !mayY x.y := by
  induction l with
  | nil => rfl
  | cons x l ih =>
    simp only [List.any_cons]
    rw [← ih]
    simp only [mayY]
    cases mayA x.y.a.l <;> cases whoY x.y <;> cases (l.any fun x => !mayA x.y.a.l) <;> cases (l.any fun x => !whoY x.y) <;> rfl
theorem mayR_eq (r : Rl) : mayR r = (!(r.l.any fun x => !mayY x.y) && (mayY r.h && decide (r.l.length ≤ 8))) := by
  rw [← any_two]
  unfold mayR mayC mayY
  rw [plainL_any, plainL_len]
  cases decide (r.l.length ≤ 8) <;> cases mayA r.h.a.l <;> cases whoY r.h <;> cases (r.l.any fun x => !mayA x.y.a.l) <;> cases (r.l.any fun x => !whoY x.y) <;> rfl
theorem mayR_inv {r : Rl} (h : mayR r = true) : r.l.length ≤ 8 ∧ r.h.a.l.length ≤ 6 ∧ ∀ x ∈ r.l, x.y.a.l.length ≤ 6 := by
  unfold mayR at h
  rw [Bool.and_eq_true] at h
  obtain ⟨h1, h2, h3⟩ := mayC_inv h.1
  refine ⟨by simpa [plainL] using h1, h2, fun x hx => h3 ⟨false, x.y.a⟩ (List.mem_map.2 ⟨x, hx, rfl⟩)⟩
theorem zt_eq (x : Tm) : (x.v == false && ((x.n : Int) == (0 : Int) && true)) = decide (x = ⟨false, 0⟩) := tm_eq x ⟨false, 0⟩
set_option maxRecDepth 100000 in
theorem plain_t (y : Sy) (Γ : List HP) : FnV Try.prog 81 [.agg y.cells.toArray] Γ fun v Γ' => v = .agg (Lt.cells ⟨false, y.a⟩).toArray ∧ Γ' = Γ := by
  refine Fn.enter Try.func81 rfl rfl rfl fun E => ?_
  refine m_run ?_
  (apply TL.box; exact rfl; exact rfl; (exact m_lst))
  intro b1
  refine TL.imp (Δ := row b1 y.cells 56 :: Γ) (fun _ h => h) ?_
  refine m_run ?_
  (apply TL.alloc; exact rfl; exact tb rfl; (exact m_lst))
  intro b2
  refine TL.imp (Δ := row b2 [.bool false, .int .u32 0, .slice none 0 0] 86 :: row b1 [.bool y.s, .bool y.w.v, .int .u32 (y.w.n : Int), .int .u32 (y.a.p : Int), .slice y.a.A y.a.l.length y.a.c] 56 :: Γ) (fun _ h => h) ?_
  refine m_run ?_
  (apply TL.pv; exact rfl; (apply PV.build tabs; exact rfl; exact rfl; exact rfl; exact rfl; exact rfl; exact (rfl : _ = Lt.cells ⟨false, y.a⟩)))
  refine m_run ?_
  (apply TK.retRow (i := 0); exact rfl; exact rfl; exact rfl; exact rfl; exact tb rfl; exact rfl; (exact m_lst); exact rfl)
  · exact ⟨_, rfl, rfl, rfl⟩
  · (repeat (first | exact List.Sublist.refl _ | apply List.Sublist.cons_cons | apply List.Sublist.cons))
set_option maxRecDepth 100000 in
theorem who_t (y : Sy) (Γ : List HP) : FnV Try.prog 82 [.agg y.cells.toArray] Γ fun v Γ' => v = .bool (whoY y) ∧ Γ' = Γ := by
  refine Fn.enter Try.func82 rfl rfl rfl fun E => ?_
  obtain ⟨s, ⟨wv, wn⟩, ⟨p, A0, c0, ts⟩⟩ := y
  refine m_run ?_
  (apply TL.box; exact rfl; exact rfl; (exact m_lst))
  intro b1
  refine TL.imp (Δ := row b1 [.bool s, .bool wv, .int .u32 (wn : Int), .int .u32 (p : Int), .slice A0 ts.length c0] 56 :: Γ) (fun _ h => h) ?_
  cases s with
  | false =>
    refine m_run ?_
    (apply TL.pv; exact rfl; (apply PV.build tabs; exact rfl; exact rfl; exact rfl; exact rfl; exact rfl; exact (rfl : _ = [Value.bool false, Value.int .u32 0])))
    (apply TL.pv; exact rfl; (apply PV.eqSt (xs := tmC ⟨wv, wn⟩) (ys := tmC ⟨false, 0⟩) tabs; exact rfl; exact rfl; exact rfl; exact rfl; kernel_rfl; kernel_rfl; exact congrArg some (tm_eq ⟨wv, wn⟩ ⟨false, 0⟩)))
    refine m_run ?_
    (apply TK.retS1; exact rfl; exact rfl; (exact m_val))
    · exact ⟨_, rfl, rfl, rfl⟩
    · (repeat (first | exact List.Sublist.refl _ | apply List.Sublist.cons_cons | apply List.Sublist.cons))
  | true =>
    cases wv with
    | false =>
      refine m_run ?_
      (apply TK.retS1; exact rfl; exact rfl; (exact m_val))
      · exact ⟨_, rfl, rfl, rfl⟩
      · (repeat (first | exact List.Sublist.refl _ | apply List.Sublist.cons_cons | apply List.Sublist.cons))
    | true =>
      refine m_run ?_
      (apply TK.retS1; exact rfl; exact rfl; (exact m_val))
      · refine ⟨_, rfl, congrArg Value.bool ?_, rfl⟩
        show decide ((wn : Int) < 16) = !decide (16 ≤ wn)
        by_cases h : 16 ≤ wn
        · rw [decide_eq_false (by omega), decide_eq_true h]; rfl
        · rw [decide_eq_true (by omega), decide_eq_false h]; rfl
      · (repeat (first | exact List.Sublist.refl _ | apply List.Sublist.cons_cons | apply List.Sublist.cons))
set_option maxRecDepth 100000 in
theorem maycond_t (x : Cd) (Γ : List HP) : FnV Try.prog 84 [.agg x.cells.toArray] Γ fun v Γ' => v = .bool (!whoY x.y) ∧ Γ' = Γ := by
  refine Fn.enter Try.func84 rfl rfl rfl fun E => ?_
  refine m_run ?_
  (apply TL.box; exact rfl; exact rfl; (exact m_lst))
  intro b1
  refine TL.imp (Δ := row b1 [.bool x.no, .bool x.y.s, .bool x.y.w.v, .int .u32 (x.y.w.n : Int), .int .u32 (x.y.a.p : Int), .slice x.y.a.A x.y.a.l.length x.y.a.c] 111 :: Γ) (fun _ h => h) ?_
  refine m_run ?_
  (apply TL.callV; exact rfl; exact callB_of (by kernel_rfl); exact rfl; exact fun _ h => h)
  exact who_t x.y _
  rintro _ _ ⟨rfl, rfl⟩
  refine m_run ?_
  (apply TK.retS1; exact rfl; exact rfl; (exact m_val))
  · exact ⟨_, rfl, rfl, rfl⟩
  · (repeat (first | exact List.Sublist.refl _ | apply List.Sublist.cons_cons | apply List.Sublist.cons))
set_option maxRecDepth 100000 in
set_option maxHeartbeats 1000000 in
theorem indexF_cd (F : FuncId) (p : Cd → Bool) (A : Option Addr) (c : Nat) (l : List Cd) (Γ : List HP) (hc : Callable Try.prog F) (hs : has Γ (srcAt 6 A l.length (l.flatMap Cd.cells))) (hn : l.length ≤ 1000000)
    (hF : ∀ x ∈ l, FnV Try.prog F [.agg (Cd.cells x).toArray] Γ fun v Γ' => v = .bool (p x) ∧ Γ' = Γ) :
    FnV Try.prog 116 [.slice A l.length c, .func (.func F) #[] #[]] Γ fun v Γ' => (∃ i : Int, v = .int .i64 i ∧ decide (0 ≤ i) = l.any p) ∧ Γ' = Γ := by
  refine Fn.enter Try.func116 rfl rfl rfl fun E => ?_
  refine m_run ?_
  apply TK.iter (fun j ρ' Γ' => ∃ i : Nat, i + j = l.length ∧ (l.take i).any p = false ∧ lk ρ' 0 = .slice A l.length c ∧ lk ρ' 1 = .func (.func F) #[] #[] ∧ lk ρ' 7 = .int .i64 (l.length : Int) ∧ lk ρ' 8 = .int .i64 (i : Int) ∧ Γ' = Γ) l.length
  · exact ⟨0, Nat.zero_add _, by simp, rfl, rfl, rfl, rfl, rfl⟩
  rintro j IH ρ' Γ ⟨i, hij, hno, e0, e1, e7, e8, rfl⟩
  refine TK.know4 e0 e1 e7 e8 ?_
  by_cases hi : i < l.length
  · obtain ⟨x, hx⟩ : ∃ x, l[i]? = some x := ⟨l[i], List.getElem?_eq_getElem hi⟩
    refine TK.mem fun m0 hm0 => ?_
    obtain ⟨b, o, rfl⟩ := src_some (hs m0 hm0) (by rw [cdsC_len]; omega)
    clear hm0 m0
    have hel := has_el (f := Cd.cells) (fun _ => rfl) (by decide) hs hx
    refine m_run ?_
    (apply TL.callFV (fs := []) (cs := []); exact rfl; exact rfl; exact hc; exact rfl; exact fun _ h => h)
    exact hF x (List.mem_of_getElem? hx)
    rintro _ _ ⟨rfl, rfl⟩
    cases hp : p x with
    | true =>
      refine m_run ?_
      (apply TK.ret1; exact rfl; exact rfl; (exact m_val))
      refine ⟨_, rfl, ⟨_, rfl, ?_⟩, rfl⟩
      rw [decide_eq_true (by omega)]
      exact (List.any_eq_true.2 ⟨x, List.mem_of_getElem? hx, hp⟩).symm
    | false =>
      refine m_run ?_
      refine IH (j - 1) _ _ (by omega) ⟨i + 1, by omega, ?_, rfl, rfl, rfl, congrArg (Value.int .i64) (i64_succ i (by omega)), rfl⟩
      rw [List.take_add_one, hx, List.any_append, hno]
      simp [hp]
  obtain rfl : i = l.length := by omega
  rw [List.take_length] at hno
  refine m_run ?_
  (apply TK.ret1; exact rfl; exact rfl; (exact m_val))
  exact ⟨_, rfl, ⟨_, rfl, hno.symm⟩, rfl⟩
theorem containsF_cd (F : FuncId) (p : Cd → Bool) (A : Option Addr) (c : Nat) (l : List Cd) (Γ : List HP) (hc : Callable Try.prog F) (hs : has Γ (srcAt 6 A l.length (l.flatMap Cd.cells))) (hn : l.length ≤ 1000000)
    (hF : ∀ x ∈ l, FnV Try.prog F [.agg (Cd.cells x).toArray] Γ fun v Γ' => v = .bool (p x) ∧ Γ' = Γ) :
    FnV Try.prog 83 [.slice A l.length c, .func (.func F) #[] #[]] Γ fun v Γ' => v = .bool (l.any p) ∧ Γ' = Γ := by
  refine Fn.enter Try.func83 rfl rfl rfl fun E => ?_
  refine m_run ?_
  (apply TL.callV; exact rfl; exact callB_of (by kernel_rfl); exact rfl; exact fun _ h => h)
  exact indexF_cd F p A c l Γ hc hs hn hF
  rintro _ _ ⟨⟨i, rfl, hi⟩, rfl⟩
  refine m_run ?_
  (apply TK.ret1; exact rfl; exact rfl; exact rfl)
  exact ⟨_, rfl, congrArg Value.bool hi, rfl⟩
set_option maxRecDepth 100000 in
set_option maxHeartbeats 2000000 in
theorem wmay_t (r : Rl) (Γ : List HP) (h : r.ok Γ) (hn : r.small) : FnV Try.prog 32 [.agg r.cells.toArray] Γ fun v Γ' => v = .bool (mayR r) ∧ Γ' = Γ := by
  refine Fn.enter Try.func32 rfl rfl rfl fun E => ?_
  obtain ⟨⟨s, ⟨wv, wn⟩, ⟨p, hA, hc, hl0⟩⟩, A0, c0, l⟩ := r
  have hs0 : has Γ (srcAt 6 A0 l.length (cdsC l)) := h.2.1
  have hes : ∀ x ∈ l, x.y.a.ok Γ := h.2.2.2
  have hn1 : l.length ≤ 1000000 := hn.1
  refine m_run ?_
  (apply TL.box; exact rfl; exact rfl; (exact m_lst))
  intro b1
  refine TL.imp (Δ := row b1 [.bool s, .bool wv, .int .u32 (wn : Int), .int .u32 (p : Int), .slice hA hl0.length hc, .slice A0 l.length c0] 59 :: Γ) (fun _ h => h) ?_
  refine m_run ?_
  (apply TL.pv; exact rfl; (apply PV.build tabs; exact rfl; exact rfl; exact rfl; exact rfl; exact rfl; exact (rfl : _ = [Value.int .u32 (p : Int), .slice hA hl0.length hc, .slice none 0 0])))
  (apply TL.alloc; exact rfl; exact tb rfl; exact (rfl : _ = [_, _, _]))
  intro b3
  refine m_run ?_
  refine TK.imp (Δ := row b3 [.int .u32 (p : Int), .slice hA hl0.length hc, .slice none 0 0] 45 :: row b1 [.bool s, .bool wv, .int .u32 (wn : Int), .int .u32 (p : Int), .slice hA hl0.length hc, .slice A0 l.length c0] 59 :: Γ) (fun _ h => h) ?_
  refine TK.free (H := own 86 3 (.slice none 0 0) 0 []) (fun m h => own_nil _ _ h) ?_
  apply TK.iter (fun j ρ' Γ' => ∃ (i : Nat) (B : Option Addr) (k : Nat), i + j = l.length ∧ i ≤ k ∧ lk ρ' 1 = .pointer (some ⟨b1, 0, none⟩) ∧ lk ρ' 3 = .pointer (some ⟨b3, 0, none⟩) ∧ lk ρ' 11 = .slice A0 l.length c0 ∧ lk ρ' 12 = .int .i64 (l.length : Int) ∧ lk ρ' 13 = .int .i64 (i : Int) ∧ Γ' = own 86 3 (.slice B i k) i (ltsC (plainL (l.take i))) :: row b3 [.int .u32 (p : Int), .slice hA hl0.length hc, .slice B i k] 45 :: row b1 [.bool s, .bool wv, .int .u32 (wn : Int), .int .u32 (p : Int), .slice hA hl0.length hc, .slice A0 l.length c0] 59 :: Γ) l.length
  · exact ⟨0, none, 0, Nat.zero_add _, Nat.le_refl _, rfl, rfl, rfl, rfl, rfl, rfl⟩
  rintro j IH ρ' _ ⟨i, B, k, hij, hk, e1, e3, e11, e12, e13, rfl⟩
  refine TK.know5 e1 e3 e11 e12 e13 ?_
  by_cases hi : i < l.length
  · obtain ⟨x, hx⟩ : ∃ x, l[i]? = some x := ⟨l[i], List.getElem?_eq_getElem hi⟩
    have hxm := List.mem_of_getElem? hx
    have hsn : ltsC (plainL (l.take i)) ++ Lt.cells ⟨false, x.y.a⟩ = ltsC (plainL (l.take (i + 1))) := by
      rw [List.take_add_one, hx]
      simp [plainL, ltsC]
    refine TK.mem fun m0 hm0 => ?_
    obtain ⟨b, o, rfl⟩ := src_some (has_tls (has_tls (has_tls hs0)) m0 hm0) (by rw [cdsC_len]; omega)
    clear hm0 m0
    have hel := has_el (f := Cd.cells) (fun _ => rfl) (by decide) hs0 hx
    refine m_run ?_
    (apply TL.alloc; exact rfl; exact tb rfl; (exact m_lst))
    intro b5
    refine m_run ?_
    refine TK.imp (Δ := row b5 [.bool x.no, .bool x.y.s, .bool x.y.w.v, .int .u32 (x.y.w.n : Int), .int .u32 (x.y.a.p : Int), .slice x.y.a.A x.y.a.l.length x.y.a.c] 111 :: _) (fun _ h => h) ?_
    refine TK.perm (List.Perm.swap _ _ _) ?_
    refine TK.drawB mixed rfl 8 (row b5 [.bool x.no, .bool x.y.s, .bool x.y.w.v, .int .u32 (x.y.w.n : Int), .int .u32 (x.y.a.p : Int), .slice x.y.a.A x.y.a.l.length x.y.a.c] 111 :: row b3 [.int .u32 (p : Int), .slice hA hl0.length hc, .slice B i k] 45 :: row b1 [.bool s, .bool wv, .int .u32 (wn : Int), .int .u32 (p : Int), .slice hA hl0.length hc, .slice (some ⟨b, o, none⟩) l.length c0] 59 :: Γ) Γ ?_
    refine m_bake (At.mk : At 0) ?_; refine m_bake (At.mk : At 1) ?_; refine m_bake (At.mk : At 2) ?_; refine m_bake (At.mk : At 3) ?_
    (apply TB.one 4; kernel_rfl; exact rfl; exact rfl)
    (apply TL.callV; exact rfl; exact callB_of (by kernel_rfl); exact rfl; exact fun _ h => h)
    exact plain_t x.y _
    rintro _ _ ⟨rfl, rfl⟩
    refine TL.backB (by (focus ((repeat (first | assumption | exact Ent.refl _ | apply Ent.tail)); done))) ?_
    (apply TB.one 5; kernel_rfl; exact rfl; exact rfl)
    (apply TL.buildSlice (l := Lt.cells ⟨false, x.y.a⟩); exact rfl; exact tb rfl; exact rfl; exact tb rfl; exact rfl; exact rfl; exact rfl; exact rfl; exact rfl)
    intro b23
    refine TL.backB (by (focus ((repeat (first | assumption | exact Ent.refl _ | apply Ent.tail)); done))) ?_
    (apply TB.one 6; kernel_rfl; exact rfl; exact rfl)
    (apply TL.append 1; exact rfl; exact rfl; exact tb rfl; exact rfl; exact tb rfl; exact rfl; exact rfl; exact rfl)
    · exact fun _ h => h
    · exact rfl
    · exact has_src_row 0 rfl rfl
    · exact one_of rfl
    · show (i + 1) * 40 ≤ _; omega
    · show i + 1 ≤ maxLen; unfold maxLen; omega
    · exact fun _ => (rfl : _ = _ :: _ :: _)
    intro B' k' hk'
    rw [hsn]
    refine TL.backB (by (focus ((repeat (first | assumption | exact Ent.refl _ | apply Ent.tail)); done))) ?_
    refine m_bake (At.mk : At 7) ?_
    (apply TB.last; kernel_rfl; exact rfl)
    refine m_rrun ?_
    refine TL.back (by (focus ((repeat (first | assumption | exact Ent.refl _ | apply Ent.tail)); done))) ?_
    refine TA.done (by kernel_rfl) ?_
    refine m_run ?_
    refine TK.sub (Δ := own 86 3 (.slice B' (i + 1) k') (i + 1) (ltsC (plainL (l.take (i + 1)))) :: row b3 [.int .u32 (p : Int), .slice hA hl0.length hc, .slice B' (i + 1) k'] 45 :: row b1 [.bool s, .bool wv, .int .u32 (wn : Int), .int .u32 (p : Int), .slice hA hl0.length hc, .slice (some ⟨b, o, none⟩) l.length c0] 59 :: Γ) (by (repeat (first | exact List.Sublist.refl _ | apply List.Sublist.cons_cons | apply List.Sublist.cons))) ?_
    exact IH (j - 1) _ _ (by omega) ⟨i + 1, B', k', by omega, hk', rfl, rfl, rfl, rfl, congrArg (Value.int .i64) (i64_succ i (by omega)), rfl⟩
  obtain rfl : i = l.length := by omega
  rw [List.take_length]
  have hpl := plainL_len l
  have hcells : Cl.cells ⟨⟨p, hA, hc, hl0⟩, B, k, plainL l⟩ = [.int .u32 (p : Int), .slice hA hl0.length hc, .slice B l.length k] := by unfold Cl.cells; simp only [hpl]
  refine TK.imp (Δ := own 86 3 (.slice B l.length k) l.length (ltsC (plainL l)) :: row b3 (Cl.cells ⟨⟨p, hA, hc, hl0⟩, B, k, plainL l⟩) 45 :: row b1 [.bool s, .bool wv, .int .u32 (wn : Int), .int .u32 (p : Int), .slice hA hl0.length hc, .slice A0 l.length c0] 59 :: Γ) (fun _ h => by rw [hcells]; exact h) ?_
  have hcl : Cl.ok ⟨⟨p, hA, hc, hl0⟩, B, k, plainL l⟩ (own 86 3 (.slice B l.length k) l.length (ltsC (plainL l)) :: row b3 (Cl.cells ⟨⟨p, hA, hc, hl0⟩, B, k, plainL l⟩) 45 :: row b1 [.bool s, .bool wv, .int .u32 (wn : Int), .int .u32 (p : Int), .slice hA hl0.length hc, .slice A0 l.length c0] 59 :: Γ) := by
    refine ⟨Atm.ok_tl (Atm.ok_tl (Atm.ok_tl h.1)), ?_, ?_, fun z hz => ?_⟩
    · show has _ (srcAt 3 B (plainL l).length (ltsC (plainL l)))
      rw [hpl]
      exact has_at (up_src _ _ _ _) 0 rfl fun _ h => own_src h
    · show (plainL l).length ≤ k
      omega
    · obtain ⟨x, hx, rfl⟩ := List.mem_map.1 hz
      exact Atm.ok_tl (Atm.ok_tl (Atm.ok_tl (hes x hx)))
  have hsm : Cl.small ⟨⟨p, hA, hc, hl0⟩, B, k, plainL l⟩ := ⟨by show (plainL l).length ≤ _; omega, hn.2.1, fun z hz => by
    obtain ⟨x, hx, rfl⟩ := List.mem_map.1 hz
    exact hn.2.2 x hx⟩
  refine m_run ?_
  (apply TL.callV; exact rfl; exact callB_of (by kernel_rfl); exact rfl; exact fun _ h => h)
  exact may_t ⟨⟨p, hA, hc, hl0⟩, B, k, plainL l⟩ _ hcl hsm
  rintro _ _ ⟨rfl, rfl⟩
  have hR : mayR ⟨⟨s, ⟨wv, wn⟩, ⟨p, hA, hc, hl0⟩⟩, A0, c0, l⟩ = (mayC ⟨⟨p, hA, hc, hl0⟩, B, k, plainL l⟩ && (whoY ⟨s, ⟨wv, wn⟩, ⟨p, hA, hc, hl0⟩⟩ && !(l.any fun x => !whoY x.y))) := rfl
  cases hm : mayC ⟨⟨p, hA, hc, hl0⟩, B, k, plainL l⟩ with
  | false =>
    rw [hm] at hR
    refine m_run ?_
    (apply TK.retS1; exact rfl; exact rfl; (exact m_val))
    · exact ⟨_, rfl, congrArg Value.bool hR.symm, rfl⟩
    · (repeat (first | exact List.Sublist.refl _ | apply List.Sublist.cons_cons | apply List.Sublist.cons))
  | true =>
    rw [hm] at hR
    refine m_run ?_
    (apply TL.callV; exact rfl; exact callB_of (by kernel_rfl); exact rfl; exact fun _ h => h)
    exact who_t ⟨s, ⟨wv, wn⟩, ⟨p, hA, hc, hl0⟩⟩ _
    rintro _ _ ⟨rfl, rfl⟩
    cases hw : whoY ⟨s, ⟨wv, wn⟩, ⟨p, hA, hc, hl0⟩⟩ with
    | false =>
      rw [hw] at hR
      refine m_run ?_
      (apply TK.retS1; exact rfl; exact rfl; (exact m_val))
      · exact ⟨_, rfl, congrArg Value.bool hR.symm, rfl⟩
      · (repeat (first | exact List.Sublist.refl _ | apply List.Sublist.cons_cons | apply List.Sublist.cons))
    | true =>
      rw [hw] at hR
      refine m_run ?_
      (apply TL.callV; exact rfl; exact callB_of (by kernel_rfl); exact rfl; exact fun _ h => h)
      exact containsF_cd 84 (fun x => !whoY x.y) A0 c0 l _ (callB_of (by kernel_rfl)) (has_tls (has_tls (has_tls hs0))) hn1 fun x _ => maycond_t x _
      rintro _ _ ⟨rfl, rfl⟩
      refine m_run ?_
      (apply TK.retS1; exact rfl; exact rfl; (exact m_val))
      · exact ⟨_, rfl, congrArg Value.bool hR.symm, rfl⟩
      · (repeat (first | exact List.Sublist.refl _ | apply List.Sublist.cons_cons | apply List.Sublist.cons))
set_option maxRecDepth 100000 in
theorem rmaysay_t (y : Sy) (Γ : List HP) (h : y.a.ok Γ) (hn : y.a.l.length ≤ 1000000) : FnV Try.prog 85 [.agg y.cells.toArray] Γ fun v Γ' => v = .bool (mayY y) ∧ Γ' = Γ := by
  refine Fn.enter Try.func85 rfl rfl rfl fun E => ?_
  obtain ⟨s, ⟨wv, wn⟩, ⟨p, A0, c0, ts⟩⟩ := y
  refine m_run ?_
  (apply TL.box; exact rfl; exact rfl; (exact m_lst))
  intro b1
  refine TL.imp (Δ := row b1 [.bool s, .bool wv, .int .u32 (wn : Int), .int .u32 (p : Int), .slice A0 ts.length c0] 56 :: Γ) (fun _ h => h) ?_
  cases s with
  | false =>
    refine m_run ?_
    by_cases hz : (⟨wv, wn⟩ : Tm) = ⟨false, 0⟩
    · injection hz with hz1 hz2
      subst hz1; subst hz2
      (apply TL.pv; exact rfl; (apply PV.build tabs; exact rfl; exact rfl; exact rfl; exact rfl; exact rfl; exact (rfl : _ = [Value.bool false, Value.int .u32 0])))
      refine m_run ?_
      (apply TL.pv; exact rfl; (apply PV.neSt (xs := tmC ⟨false, 0⟩) (ys := tmC ⟨false, 0⟩) tabs; exact rfl; exact rfl; exact rfl; exact rfl; kernel_rfl; kernel_rfl; exact congrArg some (tm_eq ⟨false, 0⟩ ⟨false, 0⟩)))
      refine TL.know (t := 10) (v := .bool false) rfl ?_
      refine m_run ?_
      (apply TL.callV; exact rfl; exact callB_of (by kernel_rfl); exact rfl; exact fun _ h => h)
      refine rmayAtom_t ⟨p, A0, c0, ts⟩ _ (Atm.ok_tl h) hn
      rintro _ _ ⟨rfl, rfl⟩
      refine m_run ?_
      (apply TK.retS1; exact rfl; exact rfl; (exact m_val))
      · exact ⟨_, rfl, congrArg Value.bool rfl, rfl⟩
      · (repeat (first | exact List.Sublist.refl _ | apply List.Sublist.cons_cons | apply List.Sublist.cons))
    · (apply TL.pv; exact rfl; (apply PV.build tabs; exact rfl; exact rfl; exact rfl; exact rfl; exact rfl; exact (rfl : _ = [Value.bool false, Value.int .u32 0])))
      refine m_run ?_
      (apply TL.pv; exact rfl; (apply PV.neSt (xs := tmC ⟨wv, wn⟩) (ys := tmC ⟨false, 0⟩) tabs; exact rfl; exact rfl; exact rfl; exact rfl; kernel_rfl; kernel_rfl; exact congrArg some (tm_eq ⟨wv, wn⟩ ⟨false, 0⟩)))
      refine TL.know (t := 10) (v := .bool true) (congrArg Value.bool (by rw [decide_eq_false hz]; rfl)) ?_
      refine m_run ?_
      (apply TK.retS1; exact rfl; exact rfl; (exact m_val))
      · exact ⟨_, rfl, congrArg Value.bool (by unfold mayY whoY; simp only [Bool.false_eq_true, if_false, decide_eq_false hz, Bool.false_and]), rfl⟩
      · (repeat (first | exact List.Sublist.refl _ | apply List.Sublist.cons_cons | apply List.Sublist.cons))
  | true =>
    cases wv with
    | false =>
      refine m_run ?_
      (apply TL.callV; exact rfl; exact callB_of (by kernel_rfl); exact rfl; exact fun _ h => h)
      refine rmayAtom_t ⟨p, A0, c0, ts⟩ _ (Atm.ok_tl h) hn
      rintro _ _ ⟨rfl, rfl⟩
      refine m_run ?_
      (apply TK.retS1; exact rfl; exact rfl; (exact m_val))
      · exact ⟨_, rfl, congrArg Value.bool rfl, rfl⟩
      · (repeat (first | exact List.Sublist.refl _ | apply List.Sublist.cons_cons | apply List.Sublist.cons))
    | true =>
      by_cases h16 : 16 ≤ wn
      · have e1 : whoY ⟨true, ⟨true, wn⟩, ⟨p, A0, c0, ts⟩⟩ = false := by show (!(true && decide (16 ≤ wn))) = false; rw [decide_eq_true h16]; rfl
        refine m_run ?_
        (apply TK.retS1; exact rfl; exact rfl; (exact m_val))
        · exact ⟨_, rfl, congrArg Value.bool (by unfold mayY; rw [e1]; rfl), rfl⟩
        · (repeat (first | exact List.Sublist.refl _ | apply List.Sublist.cons_cons | apply List.Sublist.cons))
      · have e1 : whoY ⟨true, ⟨true, wn⟩, ⟨p, A0, c0, ts⟩⟩ = true := by show (!(true && decide (16 ≤ wn))) = true; rw [decide_eq_false h16]; rfl
        refine m_run ?_
        (apply TL.callV; exact rfl; exact callB_of (by kernel_rfl); exact rfl; exact fun _ h => h)
        refine rmayAtom_t ⟨p, A0, c0, ts⟩ _ (Atm.ok_tl h) hn
        rintro _ _ ⟨rfl, rfl⟩
        refine m_run ?_
        (apply TK.retS1; exact rfl; exact rfl; (exact m_val))
        · exact ⟨_, rfl, congrArg Value.bool (by unfold mayY; rw [e1]; rfl), rfl⟩
        · (repeat (first | exact List.Sublist.refl _ | apply List.Sublist.cons_cons | apply List.Sublist.cons))
/-- What is known of a condition in a rule's body. -/
theorem has_cond {Γ : List HP} {b o n : Nat} {l : List Cd} {i : Nat} {x : Cd} (h : has Γ (srcAt 6 (some ⟨b, o, none⟩) n (cdsC l))) (hi : l[i]? = some x) :
    has Γ (fun m => cellsAt m b (o + i * 6) x.cells) ∧ has Γ (fun m => cellAt m b (o + i * 6 + 0) (.bool x.no)) ∧ has Γ (fun m => cellsAt m b (o + i * 6 + 1) x.y.cells) := by
  have hel := has_el (f := Cd.cells) (fun _ => rfl) (by decide) h hi
  refine ⟨hel, has_cell hel 0 rfl, has_imp hel fun _ hm j v hv => ?_⟩
  have := hm (j + 1) v hv
  rwa [Nat.add_comm j 1, ← Nat.add_assoc] at this
set_option maxRecDepth 100000 in
set_option maxHeartbeats 1000000 in
theorem rmayR_t (r : Rl) (Γ : List HP) (h : r.ok Γ) (hn : r.small) : FnV Try.prog 33 [.agg r.cells.toArray] Γ fun v Γ' => v = .bool (mayR r) ∧ Γ' = Γ := by
  refine Fn.enter Try.func33 rfl rfl rfl fun E => ?_
  rw [mayR_eq]
  obtain ⟨⟨s, ⟨wv, wn⟩, ⟨p, hA, hc, hl0⟩⟩, A0, c0, l⟩ := r
  have hs0 : has Γ (srcAt 6 A0 l.length (cdsC l)) := h.2.1
  have hes : ∀ x ∈ l, x.y.a.ok Γ := h.2.2.2
  have hn1 : l.length ≤ 1000000 := hn.1
  have hn3 : ∀ x ∈ l, x.y.a.l.length ≤ 1000000 := hn.2.2
  refine m_run ?_
  (apply TL.box; exact rfl; exact rfl; (exact m_lst))
  intro b1
  refine m_run ?_
  refine TK.imp (Δ := row b1 [.bool s, .bool wv, .int .u32 (wn : Int), .int .u32 (p : Int), .slice hA hl0.length hc, .slice A0 l.length c0] 59 :: Γ) (fun _ h => h) ?_
  apply TK.iter (fun j ρ' Γ' => ∃ i : Nat, i + j = l.length ∧ ((l.take i).any fun x => !mayY x.y) = false ∧ lk ρ' 1 = .pointer (some ⟨b1, 0, none⟩) ∧ lk ρ' 3 = .int .i64 (i : Int) ∧ Γ' = row b1 [.bool s, .bool wv, .int .u32 (wn : Int), .int .u32 (p : Int), .slice hA hl0.length hc, .slice A0 l.length c0] 59 :: Γ) l.length
  · exact ⟨0, Nat.zero_add _, by simp, rfl, rfl, rfl⟩
  rintro j IH ρ' _ ⟨i, hij, hno, e1, e3, rfl⟩
  refine TK.know2 e1 e3 ?_
  by_cases hi : i < l.length
  · obtain ⟨x, hx⟩ : ∃ x, l[i]? = some x := ⟨l[i], List.getElem?_eq_getElem hi⟩
    have hxm := List.mem_of_getElem? hx
    refine TK.mem fun m0 hm0 => ?_
    obtain ⟨b, o, rfl⟩ := src_some (has_tls hs0 m0 hm0) (by rw [cdsC_len]; omega)
    clear hm0 m0
    obtain ⟨_, _, hat⟩ := has_cond hs0 hx
    refine m_run ?_
    (apply TL.callV; exact rfl; exact callB_of (by kernel_rfl); exact rfl; exact fun _ h => h)
    exact rmaysay_t x.y _ (Atm.ok_tl (hes x hxm)) (hn3 x hxm)
    rintro _ _ ⟨rfl, rfl⟩
    cases hm : mayY x.y with
    | true =>
      refine m_run ?_
      refine IH (j - 1) _ _ (by omega) ⟨i + 1, by omega, ?_, rfl, congrArg (Value.int .i64) (i64_succ i (by omega)), rfl⟩
      rw [List.take_add_one, hx, List.any_append, hno]
      simp [hm]
    | false =>
      have : (l.any fun x => !mayY x.y) = true := List.any_eq_true.2 ⟨x, hxm, by simp [hm]⟩
      refine m_run ?_
      (apply TK.retS1; exact rfl; exact rfl; (exact m_val))
      · exact ⟨_, rfl, congrArg Value.bool (by simp [this]), rfl⟩
      · (repeat (first | exact List.Sublist.refl _ | apply List.Sublist.cons_cons | apply List.Sublist.cons))
  obtain rfl : i = l.length := by omega
  rw [List.take_length] at hno
  refine m_run ?_
  (apply TL.callV; exact rfl; exact callB_of (by kernel_rfl); exact rfl; exact fun _ h => h)
  exact rmaysay_t ⟨s, ⟨wv, wn⟩, ⟨p, hA, hc, hl0⟩⟩ _ (Atm.ok_tl h.1) hn.2.1
  rintro _ _ ⟨rfl, rfl⟩
  cases hm : mayY ⟨s, ⟨wv, wn⟩, ⟨p, hA, hc, hl0⟩⟩ with
  | true =>
    refine m_run ?_
    (apply TK.retS1; exact rfl; exact rfl; (exact m_val))
    · exact ⟨_, rfl, congrArg Value.bool (by simp only [hno, Bool.not_false, Bool.true_and]; exact decide_eq_decide.2 (by omega)), rfl⟩
    · (repeat (first | exact List.Sublist.refl _ | apply List.Sublist.cons_cons | apply List.Sublist.cons))
  | false =>
    refine m_run ?_
    (apply TK.retS1; exact rfl; exact rfl; (exact m_val))
    · exact ⟨_, rfl, congrArg Value.bool (by simp), rfl⟩
    · (repeat (first | exact List.Sublist.refl _ | apply List.Sublist.cons_cons | apply List.Sublist.cons))
end
section
/- PutRule: walked. -/
attribute [local irreducible] TK TL TQ TA Fn PV
set_option maxRecDepth 100000 in
set_option maxHeartbeats 2000000 in
theorem putrule_t (A : Option Addr) (m c : Nat) (l : List UInt8) (r : Rl) (Γ : List HP) (hs : has Γ (srcAt 1 A m (bytesV l))) (hf : r.ok Γ) (ht : r.fit) (hn : r.small) (hl : l.length ≤ 50000000) :
    FnV Try.prog 31 [.slice A m c, .agg r.cells.toArray] Γ (putA Γ (mayR r) (l ++ rlB r)) := by
  refine Fn.enter Try.func31 rfl rfl rfl fun E => ?_
  have hmay := wmay_t r
  obtain ⟨⟨hs1, ⟨wv, wn⟩, ⟨hp, hA, hc, hl0⟩⟩, A0, c0, ts⟩ := r
  have hs0 : has Γ (srcAt 6 A0 ts.length (cdsC ts)) := hf.2.1
  have hes : ∀ x ∈ ts, x.y.a.ok Γ := hf.2.2.2
  have hts : ∀ x ∈ ts, x.y.fit := ht.2
  refine m_run ?_
  (apply TL.box; exact rfl; exact rfl; (exact m_lst))
  intro b3
  refine TL.imp (Δ := row b3 [.bool hs1, .bool wv, .int .u32 (wn : Int), .int .u32 (hp : Int), .slice hA hl0.length hc, .slice A0 ts.length c0] 59 :: Γ) (fun _ h => h) ?_
  refine m_run ?_
  (apply TL.callV; exact rfl; exact callB_of (by kernel_rfl); exact rfl; exact fun _ h => h)
  exact hmay _ (Rl.ok_tl hf) hn
  rintro _ _ ⟨rfl, rfl⟩
  cases hm : mayR ⟨⟨hs1, ⟨wv, wn⟩, ⟨hp, hA, hc, hl0⟩⟩, A0, c0, ts⟩ with
  | true =>
    obtain ⟨hm8, hmh, hms⟩ := mayR_inv hm
    replace hm8 : ts.length ≤ 8 := hm8
    replace hmh : hl0.length ≤ 6 := hmh
    replace hms : ∀ x ∈ ts, x.y.a.l.length ≤ 6 := hms
    have hsl : ∀ x ∈ ts, (cdB x).length ≤ 50 := fun x hx => Nat.le_trans (cdB_len (hts x hx) (hms x hx)) (by decide)
    have hhl : (sayB ⟨hs1, ⟨wv, wn⟩, ⟨hp, hA, hc, hl0⟩⟩).length ≤ 50 := Nat.le_trans (sayB_len ht.1) (by show _ + hl0.length * 5 ≤ 50; omega)
    refine m_run ?_
    (apply TL.callV; exact rfl; exact callB_of (by kernel_rfl); exact rfl; exact fun _ h => h)
    exact clone_t A m c l _ (has_tls hs) (by omega)
    rintro _ _ ⟨A1, c1, rfl, hc1, rfl⟩
    refine m_run ?_
    (apply TL.build tabs; exact rfl; exact rfl; exact rfl; exact rfl; exact rfl; exact rfl; (exact m_lst))
    refine m_run ?_
    (apply TL.box; exact rfl; exact rfl; (exact m_lst))
    intro w
    refine TL.imp (Δ := row w [.slice A1 l.length c1] 89 :: bsA 5 (.slice A1 l.length c1) l :: row b3 [.bool hs1, .bool wv, .int .u32 (wn : Int), .int .u32 (hp : Int), .slice hA hl0.length hc, .slice A0 ts.length c0] 59 :: Γ) (fun _ h => h) ?_
    refine m_run ?_
    (apply TL.callV; exact rfl; exact callB_of (by kernel_rfl); exact rfl; exact fun _ h => h)
    exact wsay_t w A1 c1 l ⟨hs1, ⟨wv, wn⟩, ⟨hp, hA, hc, hl0⟩⟩ _ (Atm.ok_tl hf.1) ht.1 (Nat.le_trans hmh (by decide)) (by omega) hc1
    rintro _ _ ⟨A2, c2, hc2, rfl⟩
    refine m_run ?_
    (apply TL.callV; exact rfl; exact callB_of (by kernel_rfl); exact rfl; exact fun _ h => h)
    exact woctet_t w A2 c2 (l ++ sayB ⟨hs1, ⟨wv, wn⟩, ⟨hp, hA, hc, hl0⟩⟩) ts.length _ (by rw [List.length_append]; omega)
    rintro _ _ ⟨A3, c3, hc3, rfl⟩
    refine m_run ?_
    apply TK.iter (fun j ρ' Γ' => ∃ (i : Nat) (A4 : Option Addr) (c4 : Nat), i + j = ts.length ∧ (l ++ sayB ⟨hs1, ⟨wv, wn⟩, ⟨hp, hA, hc, hl0⟩⟩ ++ [b8 ts.length] ++ cdsB (ts.take i)).length ≤ c4 ∧ lk ρ' 6 = .pointer (some ⟨w, 0, none⟩) ∧ lk ρ' 26 = .slice A0 ts.length c0 ∧ lk ρ' 27 = .int .i64 (ts.length : Int) ∧ lk ρ' 28 = .int .i64 (i : Int) ∧ Γ' = row w [.slice A4 (l ++ sayB ⟨hs1, ⟨wv, wn⟩, ⟨hp, hA, hc, hl0⟩⟩ ++ [b8 ts.length] ++ cdsB (ts.take i)).length c4] 89 :: bsA 5 (.slice A4 (l ++ sayB ⟨hs1, ⟨wv, wn⟩, ⟨hp, hA, hc, hl0⟩⟩ ++ [b8 ts.length] ++ cdsB (ts.take i)).length c4) (l ++ sayB ⟨hs1, ⟨wv, wn⟩, ⟨hp, hA, hc, hl0⟩⟩ ++ [b8 ts.length] ++ cdsB (ts.take i)) :: row b3 [.bool hs1, .bool wv, .int .u32 (wn : Int), .int .u32 (hp : Int), .slice hA hl0.length hc, .slice A0 ts.length c0] 59 :: Γ) ts.length
    · refine ⟨0, A3, c3, Nat.zero_add _, ?_, rfl, rfl, rfl, rfl, ?_⟩
      · rw [List.take_zero, show cdsB [] = [] from rfl, List.append_nil]; exact hc3
      · rw [List.take_zero, show cdsB [] = [] from rfl, List.append_nil]
    rintro j IH ρ' _ ⟨i, A4, c4, hij, hc4, e0, e17, e18, e19, rfl⟩
    refine TK.know4 e0 e17 e18 e19 ?_
    by_cases hi : i < ts.length
    · obtain ⟨x, hx⟩ : ∃ x, ts[i]? = some x := ⟨ts[i], List.getElem?_eq_getElem hi⟩
      have hxm := List.mem_of_getElem? hx
      refine TK.mem fun m0 hm0 => ?_
      obtain ⟨b, o, rfl⟩ := src_some (has_tls (has_tls (has_tls hs0)) m0 hm0) (by rw [cdsC_len]; omega)
      clear hm0 m0
      have hel := has_el (f := Cd.cells) (fun _ => rfl) (by decide) hs0 hx
      have htk : cdsB (ts.take (i + 1)) = cdsB (ts.take i) ++ cdB x := flatB_snoc hx
      have htl : (cdsB (ts.take i)).length ≤ ts.length * 50 := flatB_take _ _ hsl
      have hll : (l ++ sayB ⟨hs1, ⟨wv, wn⟩, ⟨hp, hA, hc, hl0⟩⟩ ++ [b8 ts.length] ++ cdsB (ts.take i)).length ≤ 60000000 := by simp only [List.length_append, List.length_singleton]; omega
      generalize hL : l ++ sayB ⟨hs1, ⟨wv, wn⟩, ⟨hp, hA, hc, hl0⟩⟩ ++ [b8 ts.length] ++ cdsB (ts.take i) = L at hc4 hll ⊢
      refine m_run ?_
      (apply TL.alloc; exact rfl; exact tb rfl; (exact m_lst))
      intro b5
      refine m_run ?_
      refine TL.imp (Δ := row b5 [.bool x.no, .bool x.y.s, .bool x.y.w.v, .int .u32 (x.y.w.n : Int), .int .u32 (x.y.a.p : Int), .slice x.y.a.A x.y.a.l.length x.y.a.c] 111 :: _) (fun _ h => h) ?_
      refine m_run ?_
      refine TL.perm (List.Perm.trans (List.Perm.swap _ _ _) (List.Perm.cons _ (List.Perm.swap _ _ _))) ?_
      (apply TL.callV; exact rfl; exact callB_of (by kernel_rfl); exact rfl; exact fun _ h => h)
      exact wflag_t w A4 c4 _ x.no _ (by omega)
      rintro _ _ ⟨A5, c5, hc5, rfl⟩
      refine m_run ?_
      (apply TL.callV; exact rfl; exact callB_of (by kernel_rfl); exact rfl; exact fun _ h => h)
      exact wsay_t w A5 c5 _ x.y _ (Atm.ok_tl (Atm.ok_tl (hes x hxm))) (hts x hxm) (Nat.le_trans (hms x hxm) (by decide)) (by rw [List.length_append, List.length_singleton]; omega) hc5
      rintro _ _ ⟨A6, c6, hc6, rfl⟩
      refine m_run ?_
      refine TK.sub (List.Sublist.cons_cons _ (List.Sublist.cons_cons _ (List.Sublist.cons _ (List.Sublist.refl _)))) ?_
      refine IH (j - 1) _ _ (by omega) ⟨i + 1, A6, c6, by omega, ?_, rfl, rfl, rfl, congrArg (Value.int .i64) (i64_succ i (by omega)), ?_⟩
      · rw [htk, ← List.append_assoc, hL, cdB, ← List.append_assoc]; exact hc6
      · rw [htk, ← List.append_assoc, hL, cdB, ← List.append_assoc]
    obtain rfl : i = ts.length := by omega
    rw [List.take_length] at hc4 ⊢
    refine m_run ?_
    refine TK.sub (List.Sublist.cons _ (List.Sublist.cons_cons _ (List.Sublist.cons _ (List.Sublist.refl _)))) ?_
    (apply TK.ret2; exact rfl; exact rfl; (exact m_val); (exact m_val))
    refine ⟨_, rfl, ?_⟩
    unfold putA
    rw [if_pos rfl]
    refine ⟨A4, c4, ?_, ?_, ?_⟩
    · simp [rlB]
    · simpa [rlB] using hc4
    · simp [rlB]
  | false =>
    refine m_run ?_
    refine TK.drop ?_
    (apply TK.ret2; exact rfl; exact rfl; (exact m_val); (exact m_val))
    refine ⟨_, rfl, ?_⟩
    unfold putA
    rw [if_neg (by decide)]
    exact ⟨rfl, rfl⟩
end
end Go.Proofs.Ytokggdgagfmacaa.E
