/- The program's writer, PutFact, PutClause: walked. -/
import Derived.Test.YtokggdgagfmacaaF3
namespace Go.Proofs.Ytokggdgagfmacaa.E
open Go Go.RowKit Go.Proofs
section
/- The program's writer: number, octet, flag, term, atom: walked. -/
attribute [local irreducible] TK TL TQ TA Fn PV
/-- A writer that wrote l. -/
def wrA (w : Nat) (l : List UInt8) (Γ Γ' : List HP) : Prop := ∃ A c, l.length ≤ c ∧ Γ' = row w [.slice A l.length c] 89 :: bsA 5 (.slice A l.length c) l :: Γ
section
variable {cx : Cx} {ρ : Env} {ds : List Deferred} {Γ : List HP} {k : List Item}
theorem TK.w3 {a b c : HP} (h : TK cx k ρ ds (b :: a :: Γ)) : TK cx k ρ ds (a :: b :: c :: Γ) :=
  .sub (List.Sublist.cons_cons _ (List.Sublist.cons_cons _ (List.Sublist.cons _ (List.Sublist.refl _)))) (.perm (List.Perm.swap _ _ _) h)
end
set_option maxRecDepth 100000 in
theorem wnumber_t (w : Nat) (A : Option Addr) (c : Nat) (l : List UInt8) (n : Nat) (Γ : List HP) (hn : n < 18446744073709551616) (hl : l.length ≤ 1000000000) :
    FnV Try.prog 60 [.pointer (some ⟨w, 0, none⟩), .int .u64 (n : Int)] (row w [.slice A l.length c] 89 :: bsA 5 (.slice A l.length c) l :: Γ) fun _ Γ' => wrA w (l ++ varM n) Γ Γ' := by
  refine Fn.enter Try.func60 rfl rfl rfl fun E => ?_
  refine m_run ?_
  (apply TL.callV; exact rfl; exact callB_of (by kernel_rfl); exact rfl; exact fun _ h => h)
  exact putvar_t A l.length c l n _ (has_bs 1 rfl) hn hl
  rintro _ _ ⟨A2, c2, rfl, hc2, rfl⟩
  refine m_run ?_
  refine TK.w3 ?_
  (apply TK.over0; exact rfl; exact rfl)
  exact ⟨_, rfl, A2, c2, hc2, rfl⟩
set_option maxRecDepth 100000 in
theorem woctet_t (w : Nat) (A : Option Addr) (c : Nat) (l : List UInt8) (n : Nat) (Γ : List HP) (hl : l.length ≤ 1000000000) :
    FnV Try.prog 61 [.pointer (some ⟨w, 0, none⟩), .int .i64 (n : Int)] (row w [.slice A l.length c] 89 :: bsA 5 (.slice A l.length c) l :: Γ) fun _ Γ' => wrA w (l ++ [b8 n]) Γ Γ' := by
  refine Fn.enter Try.func61 rfl rfl rfl fun E => ?_
  refine m_run ?_
  refine TL.know (t := 10) (v := .int .u8 ((b8 n).toNat : Int)) (congrArg (Value.int .u8) (u8_wrap n)) ?_
  (apply TL.buildSlice; exact rfl; exact tb rfl; exact rfl; exact tb rfl; exact rfl; exact rfl; exact rfl; exact rfl; (exact m_lst))
  intro b
  refine m_run ?_
  (apply TL.appB (s := [ b8 n]) 2; exact rfl; exact rfl; exact tb rfl; exact rfl; exact tb rfl; exact rfl; exact rfl; exact rfl; exact rfl; exact fun _ h => h; exact rfl; exact has_src_row 0 rfl rfl)
  · simp; omega
  · exact fun _ => (rfl : _ = _ :: _ :: _ :: _)
  intro A' c' hc
  refine TL.drop ?_
  refine m_run ?_
  (apply TK.over0; exact rfl; exact rfl)
  exact ⟨_, rfl, A', c', hc, rfl⟩
set_option maxRecDepth 100000 in
theorem wflag_t (w : Nat) (A : Option Addr) (c : Nat) (l : List UInt8) (x : Bool) (Γ : List HP) (hl : l.length ≤ 1000000000) :
    FnV Try.prog 71 [.pointer (some ⟨w, 0, none⟩), .bool x] (row w [.slice A l.length c] 89 :: bsA 5 (.slice A l.length c) l :: Γ) fun _ Γ' => wrA w (l ++ [b8 (bitN x)]) Γ Γ' := by
  refine Fn.enter Try.func71 rfl rfl rfl fun E => ?_
  cases x with
  | true =>
    refine m_run ?_
    (apply TL.callV; exact rfl; exact callB_of (by kernel_rfl); exact rfl; exact fun _ h => h)
    exact woctet_t w A c l 1 _ hl
    rintro _ _ ⟨A2, c2, hc2, rfl⟩
    refine m_run ?_
    (apply TK.over0; exact rfl; exact rfl)
    exact ⟨_, rfl, A2, c2, hc2, rfl⟩
  | false =>
    refine m_run ?_
    (apply TL.callV; exact rfl; exact callB_of (by kernel_rfl); exact rfl; exact fun _ h => h)
    exact woctet_t w A c l 0 _ hl
    rintro _ _ ⟨A2, c2, hc2, rfl⟩
    refine m_run ?_
    (apply TK.over0; exact rfl; exact rfl)
    exact ⟨_, rfl, A2, c2, hc2, rfl⟩
theorem shl1 {n : Nat} (h : n ≤ 4294967295) : n % (2 ^ IntKind.u64.bits : Int).natAbs * 2 ^ 1 % 2 ^ IntKind.u64.bits = 2 * n := by
  have hn : (2 ^ IntKind.u64.bits : Int).natAbs = 18446744073709551616 := by decide
  rw [hn, show (2 : Nat) ^ IntKind.u64.bits = 18446744073709551616 from rfl]; omega
set_option maxRecDepth 100000 in
theorem wterm_t (w : Nat) (A : Option Addr) (c : Nat) (l : List UInt8) (t : Tm) (Γ : List HP) (ht : t.n ≤ 4294967295) (hl : l.length ≤ 1000000000) :
    FnV Try.prog 112 [.pointer (some ⟨w, 0, none⟩), .agg (tmC t).toArray] (row w [.slice A l.length c] 89 :: bsA 5 (.slice A l.length c) l :: Γ) fun _ Γ' => wrA w (l ++ termB t) Γ Γ' := by
  refine Fn.enter Try.func112 rfl rfl rfl fun E => ?_
  obtain ⟨x, n⟩ := t
  replace ht : n ≤ 4294967295 := ht
  refine m_run ?_
  (apply TL.box; exact rfl; exact rfl; (exact m_lst))
  intro b3
  refine TL.imp (Δ := row b3 [.bool x, .int .u32 (n : Int)] 54 :: row w [.slice A l.length c] 89 :: bsA 5 (.slice A l.length c) l :: Γ) (fun _ h => h) ?_
  have e7 : IntKind.u64.wrap (n : Int) = (n : Int) := u64_nat (by omega)
  cases x with
  | true =>
    refine m_run ?_
    refine TL.know (t := 14) (v := .int .u64 ((2 * n + 1 : Nat) : Int)) (congrArg (Value.int .u64) ?_) ?_
    · rw [shl1 ht, show ((2 * n : Nat) : Int) + 1 = ((2 * n + 1 : Nat) : Int) by omega, u64_nat (by omega)]
    refine m_run ?_
    refine TL.perm (List.Perm.trans (List.Perm.swap _ _ _) (List.Perm.cons _ (List.Perm.swap _ _ _))) ?_
    (apply TL.callV; exact rfl; exact callB_of (by kernel_rfl); exact rfl; exact fun _ h => h)
    exact wnumber_t w A c l (2 * n + 1) _ (by omega) hl
    rintro _ _ ⟨A2, c2, hc2, rfl⟩
    refine m_run ?_
    refine TK.sub (Δ := row w [.slice A2 (l ++ varM (2 * n + 1)).length c2] 89 :: bsA 5 (.slice A2 (l ++ varM (2 * n + 1)).length c2) (l ++ varM (2 * n + 1)) :: Γ) (by (repeat (first | exact List.Sublist.refl _ | apply List.Sublist.cons_cons | apply List.Sublist.cons))) ?_
    (apply TK.over0; exact rfl; exact rfl)
    exact ⟨_, rfl, A2, c2, hc2, rfl⟩
  | false =>
    refine m_run ?_
    refine TL.know (t := 14) (v := .int .u64 ((2 * n + 0 : Nat) : Int)) (congrArg (Value.int .u64) ?_) ?_
    · rw [shl1 ht, Nat.add_zero]
    refine m_run ?_
    refine TL.perm (List.Perm.trans (List.Perm.swap _ _ _) (List.Perm.cons _ (List.Perm.swap _ _ _))) ?_
    (apply TL.callV; exact rfl; exact callB_of (by kernel_rfl); exact rfl; exact fun _ h => h)
    exact wnumber_t w A c l (2 * n + 0) _ (by omega) hl
    rintro _ _ ⟨A2, c2, hc2, rfl⟩
    refine m_run ?_
    refine TK.sub (Δ := row w [.slice A2 (l ++ varM (2 * n + 0)).length c2] 89 :: bsA 5 (.slice A2 (l ++ varM (2 * n + 0)).length c2) (l ++ varM (2 * n + 0)) :: Γ) (by (repeat (first | exact List.Sublist.refl _ | apply List.Sublist.cons_cons | apply List.Sublist.cons))) ?_
    (apply TK.over0; exact rfl; exact rfl)
    exact ⟨_, rfl, A2, c2, hc2, rfl⟩
set_option maxRecDepth 100000 in
set_option maxHeartbeats 1000000 in
theorem watom_t (w : Nat) (A : Option Addr) (c : Nat) (l : List UInt8) (a : Atm) (Γ : List HP) (h : a.ok Γ) (hf : a.fit) (hn : a.l.length ≤ 100) (hl : l.length ≤ 100000000) (hlc : l.length ≤ c) :
    FnV Try.prog 70 [.pointer (some ⟨w, 0, none⟩), .agg a.cells.toArray] (row w [.slice A l.length c] 89 :: bsA 5 (.slice A l.length c) l :: Γ) fun _ Γ' => wrA w (l ++ atmB a) Γ Γ' := by
  refine Fn.enter Try.func70 rfl rfl rfl fun E => ?_
  obtain ⟨p, A0, c0, ts⟩ := a
  have hs0 : has Γ (srcAt 2 A0 ts.length (tmsC ts)) := h.1
  have hp : p ≤ 4294967295 := hf.1
  have hts : ∀ t ∈ ts, t.n ≤ 4294967295 := hf.2
  replace hn : ts.length ≤ 100 := hn
  have hpl := u32_len hp
  refine m_run ?_
  (apply TL.box; exact rfl; exact rfl; (exact m_lst))
  intro b3
  refine TL.imp (Δ := row b3 [.int .u32 (p : Int), .slice A0 ts.length c0] 42 :: row w [.slice A l.length c] 89 :: bsA 5 (.slice A l.length c) l :: Γ) (fun _ h => h) ?_
  refine m_run ?_
  refine TL.know (t := 9) (v := .int .u64 (p : Int)) (congrArg (Value.int .u64) (u64_nat (by omega))) ?_
  refine TL.perm (List.Perm.trans (List.Perm.swap _ _ _) (List.Perm.cons _ (List.Perm.swap _ _ _))) ?_
  (apply TL.callV; exact rfl; exact callB_of (by kernel_rfl); exact rfl; exact fun _ h => h)
  exact wnumber_t w A c l p _ (by omega) (by omega)
  rintro _ _ ⟨A2, c2, hc2, rfl⟩
  refine m_run ?_
  (apply TL.callV; exact rfl; exact callB_of (by kernel_rfl); exact rfl; exact fun _ h => h)
  exact woctet_t w A2 c2 (l ++ varM p) ts.length _ (by simp; omega)
  rintro _ _ ⟨A3, c3, hc3, rfl⟩
  refine m_run ?_
  apply TK.iter (fun j ρ' Γ' => ∃ (i : Nat) (A4 : Option Addr) (c4 : Nat), i + j = ts.length ∧ (l ++ varM p ++ [b8 ts.length] ++ tmsB (ts.take i)).length ≤ c4 ∧ lk ρ' 0 = .pointer (some ⟨w, 0, none⟩) ∧ lk ρ' 17 = .slice A0 ts.length c0 ∧ lk ρ' 18 = .int .i64 (ts.length : Int) ∧ lk ρ' 19 = .int .i64 (i : Int) ∧ Γ' = row w [.slice A4 (l ++ varM p ++ [b8 ts.length] ++ tmsB (ts.take i)).length c4] 89 :: bsA 5 (.slice A4 (l ++ varM p ++ [b8 ts.length] ++ tmsB (ts.take i)).length c4) (l ++ varM p ++ [b8 ts.length] ++ tmsB (ts.take i)) :: row b3 [.int .u32 (p : Int), .slice A0 ts.length c0] 42 :: Γ) ts.length
  · refine ⟨0, A3, c3, Nat.zero_add _, ?_, rfl, rfl, rfl, rfl, ?_⟩
    · simpa [tmsB] using hc3
    · simp [tmsB]
  rintro j IH ρ' _ ⟨i, A4, c4, hij, hc4, e0, e17, e18, e19, rfl⟩
  refine TK.know4 e0 e17 e18 e19 ?_
  by_cases hi : i < ts.length
  · obtain ⟨x, hx⟩ : ∃ x, ts[i]? = some x := ⟨ts[i], List.getElem?_eq_getElem hi⟩
    have hxm := List.mem_of_getElem? hx
    refine TK.mem fun m0 hm0 => ?_
    obtain ⟨b, o, rfl⟩ := src_some (has_tls (has_tls (has_tls hs0)) m0 hm0) (by rw [tmsC_len]; omega)
    clear hm0 m0
    have hel := has_el (f := tmC) (fun _ => rfl) (by decide) hs0 hx
    have htk : tmsB (ts.take (i + 1)) = tmsB (ts.take i) ++ termB x := flatB_snoc hx
    have htl : (tmsB (ts.take i)).length ≤ ts.length * 5 := flatB_take _ _ fun t ht => termB_len (hts t ht)
    refine m_run ?_
    (apply TL.alloc; exact rfl; exact tb rfl; (exact m_lst))
    intro b5
    refine m_run ?_
    refine TL.imp (Δ := row b5 [.bool x.v, .int .u32 (x.n : Int)] 54 :: _) (fun _ h => h) ?_
    refine m_run ?_
    refine TL.perm (List.Perm.trans (List.Perm.swap _ _ _) (List.Perm.cons _ (List.Perm.swap _ _ _))) ?_
    (apply TL.callV; exact rfl; exact callB_of (by kernel_rfl); exact rfl; exact fun _ h => h)
    exact wterm_t w A4 c4 _ x _ (hts x hxm) (by simp; omega)
    rintro _ _ ⟨A5, c5, hc5, rfl⟩
    refine m_run ?_
    refine TK.sub (List.Sublist.cons_cons _ (List.Sublist.cons_cons _ (List.Sublist.cons _ (List.Sublist.refl _)))) ?_
    refine IH (j - 1) _ _ (by omega) ⟨i + 1, A5, c5, by omega, ?_, rfl, rfl, rfl, congrArg (Value.int .i64) (i64_succ i (by omega)), ?_⟩
    · rw [htk, ← List.append_assoc]; exact hc5
    · rw [htk, ← List.append_assoc]
  obtain rfl : i = ts.length := by omega
  rw [List.take_length] at hc4 ⊢
  refine m_run ?_
  refine TK.sub (List.Sublist.cons_cons _ (List.Sublist.cons_cons _ (List.Sublist.cons _ (List.Sublist.refl _)))) ?_
  (apply TK.over0; exact rfl; exact rfl)
  refine ⟨_, rfl, A4, c4, ?_, ?_⟩
  · simpa [atmB] using hc4
  · simp [atmB]
end
section
/- The program's writer of what is said; PutFact, PutClause: walked. -/
attribute [local irreducible] TK TL TQ TA Fn PV
set_option maxRecDepth 100000 in
theorem wsay_t (w : Nat) (A : Option Addr) (c : Nat) (l : List UInt8) (y : Sy) (Γ : List HP) (h : y.a.ok Γ) (hf : y.fit) (hn : y.a.l.length ≤ 100) (hl : l.length ≤ 90000000) (hlc : l.length ≤ c) :
    FnV Try.prog 80 [.pointer (some ⟨w, 0, none⟩), .agg y.cells.toArray] (row w [.slice A l.length c] 89 :: bsA 5 (.slice A l.length c) l :: Γ) fun _ Γ' => wrA w (l ++ sayB y) Γ Γ' := by
  refine Fn.enter Try.func80 rfl rfl rfl fun E => ?_
  obtain ⟨s, ⟨wv, wn⟩, ⟨p, A0, c0, ts⟩⟩ := y
  have hw : wn ≤ 4294967295 := hf.1
  have hwl : (termB ⟨wv, wn⟩).length ≤ 5 := termB_len hw
  refine m_run ?_
  (apply TL.box; exact rfl; exact rfl; (exact m_lst))
  intro b3
  refine TL.imp (Δ := row b3 [.bool s, .bool wv, .int .u32 (wn : Int), .int .u32 (p : Int), .slice A0 ts.length c0] 56 :: row w [.slice A l.length c] 89 :: bsA 5 (.slice A l.length c) l :: Γ) (fun _ h => h) ?_
  cases s with
  | true =>
    refine m_run ?_
    refine TL.perm (List.Perm.trans (List.Perm.swap _ _ _) (List.Perm.cons _ (List.Perm.swap _ _ _))) ?_
    (apply TL.callV; exact rfl; exact callB_of (by kernel_rfl); exact rfl; exact fun _ h => h)
    exact wflag_t w A c l true _ (by omega)
    rintro _ _ ⟨A2, c2, hc2, rfl⟩
    refine m_run ?_
    (apply TL.callV; exact rfl; exact callB_of (by kernel_rfl); exact rfl; exact fun _ h => h)
    exact wterm_t w A2 c2 _ ⟨wv, wn⟩ _ hw (by simp; omega)
    rintro _ _ ⟨A3, c3, hc3, rfl⟩
    refine m_run ?_
    (apply TL.callV; exact rfl; exact callB_of (by kernel_rfl); exact rfl; exact fun _ h => h)
    exact watom_t w A3 c3 _ ⟨p, A0, c0, ts⟩ _ (Atm.ok_tl h) hf.2 hn (by simp; omega) hc3
    rintro _ _ ⟨A4, c4, hc4, rfl⟩
    refine m_run ?_
    refine TK.sub (List.Sublist.cons_cons _ (List.Sublist.cons_cons _ (List.Sublist.cons _ (List.Sublist.refl _)))) ?_
    (apply TK.over0; exact rfl; exact rfl)
    refine ⟨_, rfl, A4, c4, ?_, ?_⟩
    · simpa [sayB] using hc4
    · simp [sayB]
  | false =>
    refine m_run ?_
    refine TL.perm (List.Perm.trans (List.Perm.swap _ _ _) (List.Perm.cons _ (List.Perm.swap _ _ _))) ?_
    (apply TL.callV; exact rfl; exact callB_of (by kernel_rfl); exact rfl; exact fun _ h => h)
    exact wflag_t w A c l false _ (by omega)
    rintro _ _ ⟨A2, c2, hc2, rfl⟩
    refine m_run ?_
    (apply TL.callV; exact rfl; exact callB_of (by kernel_rfl); exact rfl; exact fun _ h => h)
    exact watom_t w A2 c2 _ ⟨p, A0, c0, ts⟩ _ (Atm.ok_tl h) hf.2 hn (by simp; omega) hc2
    rintro _ _ ⟨A4, c4, hc4, rfl⟩
    refine m_run ?_
    refine TK.sub (List.Sublist.cons_cons _ (List.Sublist.cons_cons _ (List.Sublist.cons _ (List.Sublist.refl _)))) ?_
    (apply TK.over0; exact rfl; exact rfl)
    refine ⟨_, rfl, A4, c4, ?_, ?_⟩
    · simpa [sayB] using hc4
    · simp [sayB]
/-- What comes of writing: bytes of one's own behind the old ones, or an error. -/
def putA (Γ : List HP) (may : Bool) (l : List UInt8) (v : Value) (Γ' : List HP) : Prop :=
  if may then ∃ A c, v = .tuple #[.slice A l.length c, .int .i64 0] ∧ l.length ≤ c ∧ Γ' = bsA 5 (.slice A l.length c) l :: Γ
  else v = .tuple #[.slice none 0 0, .int .i64 8] ∧ Γ' = Γ
set_option maxRecDepth 100000 in
set_option maxHeartbeats 1000000 in
theorem putfact_t (A : Option Addr) (m c : Nat) (l : List UInt8) (f : Fct) (Γ : List HP) (hs : has Γ (srcAt 1 A m (bytesV l))) (hf : f.ok Γ) (ht : f.fit) (hn : f.l.length ≤ 1000000) (hl : l.length ≤ 50000000) :
    FnV Try.prog 16 [.slice A m c, .agg f.cells.toArray] Γ (putA Γ (decide (f.l.length ≤ 6)) (l ++ fctB f)) := by
  refine Fn.enter Try.func16 rfl rfl rfl fun E => ?_
  obtain ⟨p, A0, c0, ts⟩ := f
  have hs0 : has Γ (srcAt 1 A0 ts.length (u32s ts)) := hf.1
  have hp : p ≤ 4294967295 := ht.1
  have hts : ∀ t ∈ ts, t ≤ 4294967295 := ht.2
  replace hn : ts.length ≤ 1000000 := hn
  have hpl := u32_len hp
  refine m_run ?_
  (apply TL.box; exact rfl; exact rfl; (exact m_lst))
  intro b3
  refine TL.imp (Δ := row b3 [.int .u32 (p : Int), .slice A0 ts.length c0] 26 :: Γ) (fun _ h => h) ?_
  by_cases h6 : ts.length ≤ 6
  · refine m_run ?_
    (apply TL.callV; exact rfl; exact callB_of (by kernel_rfl); exact rfl; exact fun _ h => h)
    exact clone_t A m c l _ (has_tls hs) (by omega)
    rintro _ _ ⟨A1, c1, rfl, hc1, rfl⟩
    refine m_run ?_
    (apply TL.build tabs; exact rfl; exact rfl; exact rfl; exact rfl; exact rfl; exact rfl; (exact m_lst))
    refine m_run ?_
    (apply TL.box; exact rfl; exact rfl; (exact m_lst))
    intro w
    refine m_run ?_
    refine TL.know (t := 20) (v := .int .u64 (p : Int)) (congrArg (Value.int .u64) (u64_nat (by omega))) ?_
    refine TL.imp (Δ := row w [.slice A1 l.length c1] 89 :: bsA 5 (.slice A1 l.length c1) l :: row b3 [.int .u32 (p : Int), .slice A0 ts.length c0] 26 :: Γ) (fun _ h => h) ?_
    (apply TL.callV; exact rfl; exact callB_of (by kernel_rfl); exact rfl; exact fun _ h => h)
    exact wnumber_t w A1 c1 l p _ (by omega) (by omega)
    rintro _ _ ⟨A2, c2, hc2, rfl⟩
    refine m_run ?_
    (apply TL.callV; exact rfl; exact callB_of (by kernel_rfl); exact rfl; exact fun _ h => h)
    exact woctet_t w A2 c2 (l ++ varM p) ts.length _ (by simp; omega)
    rintro _ _ ⟨A3, c3, hc3, rfl⟩
    refine m_run ?_
    apply TK.iter (fun j ρ' Γ' => ∃ (i : Nat) (A4 : Option Addr) (c4 : Nat), i + j = ts.length ∧ (l ++ varM p ++ [b8 ts.length] ++ nmsB (ts.take i)).length ≤ c4 ∧ lk ρ' 6 = .pointer (some ⟨w, 0, none⟩) ∧ lk ρ' 28 = .slice A0 ts.length c0 ∧ lk ρ' 29 = .int .i64 (ts.length : Int) ∧ lk ρ' 30 = .int .i64 (i : Int) ∧ Γ' = row w [.slice A4 (l ++ varM p ++ [b8 ts.length] ++ nmsB (ts.take i)).length c4] 89 :: bsA 5 (.slice A4 (l ++ varM p ++ [b8 ts.length] ++ nmsB (ts.take i)).length c4) (l ++ varM p ++ [b8 ts.length] ++ nmsB (ts.take i)) :: row b3 [.int .u32 (p : Int), .slice A0 ts.length c0] 26 :: Γ) ts.length
    · refine ⟨0, A3, c3, Nat.zero_add _, ?_, rfl, rfl, rfl, rfl, ?_⟩
      · simpa [nmsB] using hc3
      · simp [nmsB]
    rintro j IH ρ' _ ⟨i, A4, c4, hij, hc4, e0, e17, e18, e19, rfl⟩
    refine TK.know4 e0 e17 e18 e19 ?_
    by_cases hi : i < ts.length
    · obtain ⟨x, hx⟩ : ∃ x, ts[i]? = some x := ⟨ts[i], List.getElem?_eq_getElem hi⟩
      have hxm := List.mem_of_getElem? hx
      refine TK.mem fun m0 hm0 => ?_
      obtain ⟨b, o, rfl⟩ := src_some (has_tls (has_tls (has_tls hs0)) m0 hm0) (by rw [u32s_len]; omega)
      clear hm0 m0
      have hel := has_u32 hs0 hx
      have htk : nmsB (ts.take (i + 1)) = nmsB (ts.take i) ++ varM x := flatB_snoc hx
      have htl : (nmsB (ts.take i)).length ≤ ts.length * 5 := flatB_take _ _ fun t ht => u32_len (hts t ht)
      have hx5 := hts x hxm
      refine m_run ?_
      refine TL.know (t := 36) (v := .int .u64 (x : Int)) (congrArg (Value.int .u64) (u64_nat (by omega))) ?_
      (apply TL.callV; exact rfl; exact callB_of (by kernel_rfl); exact rfl; exact fun _ h => h)
      exact wnumber_t w A4 c4 _ x _ (by omega) (by simp; omega)
      rintro _ _ ⟨A5, c5, hc5, rfl⟩
      refine m_run ?_
      refine IH (j - 1) _ _ (by omega) ⟨i + 1, A5, c5, by omega, ?_, rfl, rfl, rfl, congrArg (Value.int .i64) (i64_succ i (by omega)), ?_⟩
      · rw [htk, ← List.append_assoc]; exact hc5
      · rw [htk, ← List.append_assoc]
    obtain rfl : i = ts.length := by omega
    rw [List.take_length] at hc4 ⊢
    refine m_run ?_
    refine TK.sub (List.Sublist.cons _ (List.Sublist.cons_cons _ (List.Sublist.cons _ (List.Sublist.refl _)))) ?_
    (apply TK.ret2; exact rfl; exact rfl; (exact m_val); (exact m_val))
    refine ⟨_, rfl, ?_⟩
    unfold putA
    rw [if_pos (decide_eq_true h6)]
    refine ⟨A4, c4, ?_, ?_, ?_⟩
    · simp [fctB]
    · simpa [fctB] using hc4
    · simp [fctB]
  · refine m_run ?_
    refine TK.drop ?_
    (apply TK.ret2; exact rfl; exact rfl; (exact m_val); (exact m_val))
    refine ⟨_, rfl, ?_⟩
    unfold putA
    rw [if_neg (by simpa using h6)]
    exact ⟨rfl, rfl⟩
end
section
/- PutClause: walked. -/
attribute [local irreducible] TK TL TQ TA Fn PV
theorem mayA_len {l : List Tm} (h : mayA l = true) : l.length ≤ 6 := by
  unfold mayA at h
  rw [Bool.and_eq_true, decide_eq_true_eq] at h
  exact h.1
theorem mayC_inv {c : Cl} (h : mayC c = true) : c.l.length ≤ 8 ∧ c.h.l.length ≤ 6 ∧ ∀ x ∈ c.l, x.a.l.length ≤ 6 := by
  unfold mayC at h
  rw [Bool.and_eq_true, Bool.and_eq_true, decide_eq_true_eq, Bool.not_eq_true'] at h
  refine ⟨h.1.1, mayA_len h.1.2, fun x hx => ?_⟩
  have := List.any_eq_false.1 h.2 x hx
  exact mayA_len (by simpa using this)
set_option maxRecDepth 100000 in
set_option maxHeartbeats 2000000 in
theorem putclause_t (A : Option Addr) (m c : Nat) (l : List UInt8) (r : Cl) (Γ : List HP) (hs : has Γ (srcAt 1 A m (bytesV l))) (hf : r.ok Γ) (ht : r.fit) (hn : r.small) (hl : l.length ≤ 50000000) :
    FnV Try.prog 24 [.slice A m c, .agg r.cells.toArray] Γ (putA Γ (mayC r) (l ++ clB r)) := by
  refine Fn.enter Try.func24 rfl rfl rfl fun E => ?_
  have hmay := may_t r
  obtain ⟨⟨hp, hA, hc, hl0⟩, A0, c0, ts⟩ := r
  have hs0 : has Γ (srcAt 3 A0 ts.length (ltsC ts)) := hf.2.1
  have hes : ∀ x ∈ ts, x.a.ok Γ := hf.2.2.2
  have hts : ∀ x ∈ ts, x.a.fit := ht.2
  refine m_run ?_
  (apply TL.box; exact rfl; exact rfl; (exact m_lst))
  intro b3
  refine TL.imp (Δ := row b3 [.int .u32 (hp : Int), .slice hA hl0.length hc, .slice A0 ts.length c0] 45 :: Γ) (fun _ h => h) ?_
  refine m_run ?_
  (apply TL.callV; exact rfl; exact callB_of (by kernel_rfl); exact rfl; exact fun _ h => h)
  exact hmay _ (Cl.ok_tl hf) hn
  rintro _ _ ⟨rfl, rfl⟩
  cases hm : mayC ⟨⟨hp, hA, hc, hl0⟩, A0, c0, ts⟩ with
  | true =>
    obtain ⟨hm8, hmh, hms⟩ := mayC_inv hm
    replace hm8 : ts.length ≤ 8 := hm8
    replace hmh : hl0.length ≤ 6 := hmh
    replace hms : ∀ x ∈ ts, x.a.l.length ≤ 6 := hms
    have hsl : ∀ x ∈ ts, (litB x).length ≤ 50 := fun x hx => Nat.le_trans (litB_len (hts x hx) (hms x hx)) (by decide)
    have hhl : (atmB ⟨hp, hA, hc, hl0⟩).length ≤ 50 := Nat.le_trans (atmB_len ht.1) (by show _ + hl0.length * 5 ≤ 50; omega)
    refine m_run ?_
    (apply TL.callV; exact rfl; exact callB_of (by kernel_rfl); exact rfl; exact fun _ h => h)
    exact clone_t A m c l _ (has_tls hs) (by omega)
    rintro _ _ ⟨A1, c1, rfl, hc1, rfl⟩
    refine m_run ?_
    (apply TL.build tabs; exact rfl; exact rfl; exact rfl; exact rfl; exact rfl; exact rfl; (exact m_lst))
    refine m_run ?_
    (apply TL.box; exact rfl; exact rfl; (exact m_lst))
    intro w
    refine TL.imp (Δ := row w [.slice A1 l.length c1] 89 :: bsA 5 (.slice A1 l.length c1) l :: row b3 [.int .u32 (hp : Int), .slice hA hl0.length hc, .slice A0 ts.length c0] 45 :: Γ) (fun _ h => h) ?_
    refine m_run ?_
    (apply TL.callV; exact rfl; exact callB_of (by kernel_rfl); exact rfl; exact fun _ h => h)
    exact watom_t w A1 c1 l ⟨hp, hA, hc, hl0⟩ _ (Atm.ok_tl hf.1) ht.1 (Nat.le_trans hmh (by decide)) (by omega) hc1
    rintro _ _ ⟨A2, c2, hc2, rfl⟩
    refine m_run ?_
    (apply TL.callV; exact rfl; exact callB_of (by kernel_rfl); exact rfl; exact fun _ h => h)
    exact woctet_t w A2 c2 (l ++ atmB ⟨hp, hA, hc, hl0⟩) ts.length _ (by rw [List.length_append]; omega)
    rintro _ _ ⟨A3, c3, hc3, rfl⟩
    refine m_run ?_
    apply TK.iter (fun j ρ' Γ' => ∃ (i : Nat) (A4 : Option Addr) (c4 : Nat), i + j = ts.length ∧ (l ++ atmB ⟨hp, hA, hc, hl0⟩ ++ [b8 ts.length] ++ litsB (ts.take i)).length ≤ c4 ∧ lk ρ' 6 = .pointer (some ⟨w, 0, none⟩) ∧ lk ρ' 26 = .slice A0 ts.length c0 ∧ lk ρ' 27 = .int .i64 (ts.length : Int) ∧ lk ρ' 28 = .int .i64 (i : Int) ∧ Γ' = row w [.slice A4 (l ++ atmB ⟨hp, hA, hc, hl0⟩ ++ [b8 ts.length] ++ litsB (ts.take i)).length c4] 89 :: bsA 5 (.slice A4 (l ++ atmB ⟨hp, hA, hc, hl0⟩ ++ [b8 ts.length] ++ litsB (ts.take i)).length c4) (l ++ atmB ⟨hp, hA, hc, hl0⟩ ++ [b8 ts.length] ++ litsB (ts.take i)) :: row b3 [.int .u32 (hp : Int), .slice hA hl0.length hc, .slice A0 ts.length c0] 45 :: Γ) ts.length
    · refine ⟨0, A3, c3, Nat.zero_add _, ?_, rfl, rfl, rfl, rfl, ?_⟩
      · rw [List.take_zero, show litsB [] = [] from rfl, List.append_nil]; exact hc3
      · rw [List.take_zero, show litsB [] = [] from rfl, List.append_nil]
    rintro j IH ρ' _ ⟨i, A4, c4, hij, hc4, e0, e17, e18, e19, rfl⟩
    refine TK.know4 e0 e17 e18 e19 ?_
    by_cases hi : i < ts.length
    · obtain ⟨x, hx⟩ : ∃ x, ts[i]? = some x := ⟨ts[i], List.getElem?_eq_getElem hi⟩
      have hxm := List.mem_of_getElem? hx
      refine TK.mem fun m0 hm0 => ?_
      obtain ⟨b, o, rfl⟩ := src_some (has_tls (has_tls (has_tls hs0)) m0 hm0) (by rw [ltsC_len]; omega)
      clear hm0 m0
      have hel := has_el (f := Lt.cells) (fun _ => rfl) (by decide) hs0 hx
      have htk : litsB (ts.take (i + 1)) = litsB (ts.take i) ++ litB x := flatB_snoc hx
      have htl : (litsB (ts.take i)).length ≤ ts.length * 50 := flatB_take _ _ hsl
      have hll : (l ++ atmB ⟨hp, hA, hc, hl0⟩ ++ [b8 ts.length] ++ litsB (ts.take i)).length ≤ 60000000 := by simp only [List.length_append, List.length_singleton]; omega
      generalize hL : l ++ atmB ⟨hp, hA, hc, hl0⟩ ++ [b8 ts.length] ++ litsB (ts.take i) = L at hc4 hll ⊢
      refine m_run ?_
      (apply TL.alloc; exact rfl; exact tb rfl; (exact m_lst))
      intro b5
      refine m_run ?_
      refine TL.imp (Δ := row b5 [.bool x.no, .int .u32 (x.a.p : Int), .slice x.a.A x.a.l.length x.a.c] 86 :: _) (fun _ h => h) ?_
      refine m_run ?_
      refine TL.perm (List.Perm.trans (List.Perm.swap _ _ _) (List.Perm.cons _ (List.Perm.swap _ _ _))) ?_
      (apply TL.callV; exact rfl; exact callB_of (by kernel_rfl); exact rfl; exact fun _ h => h)
      exact wflag_t w A4 c4 _ x.no _ (by omega)
      rintro _ _ ⟨A5, c5, hc5, rfl⟩
      refine m_run ?_
      (apply TL.callV; exact rfl; exact callB_of (by kernel_rfl); exact rfl; exact fun _ h => h)
      exact watom_t w A5 c5 _ x.a _ (Atm.ok_tl (Atm.ok_tl (hes x hxm))) (hts x hxm) (Nat.le_trans (hms x hxm) (by decide)) (by rw [List.length_append, List.length_singleton]; omega) hc5
      rintro _ _ ⟨A6, c6, hc6, rfl⟩
      refine m_run ?_
      refine TK.sub (List.Sublist.cons_cons _ (List.Sublist.cons_cons _ (List.Sublist.cons _ (List.Sublist.refl _)))) ?_
      refine IH (j - 1) _ _ (by omega) ⟨i + 1, A6, c6, by omega, ?_, rfl, rfl, rfl, congrArg (Value.int .i64) (i64_succ i (by omega)), ?_⟩
      · rw [htk, ← List.append_assoc, hL, litB, ← List.append_assoc]; exact hc6
      · rw [htk, ← List.append_assoc, hL, litB, ← List.append_assoc]
    obtain rfl : i = ts.length := by omega
    rw [List.take_length] at hc4 ⊢
    refine m_run ?_
    refine TK.sub (List.Sublist.cons _ (List.Sublist.cons_cons _ (List.Sublist.cons _ (List.Sublist.refl _)))) ?_
    (apply TK.ret2; exact rfl; exact rfl; (exact m_val); (exact m_val))
    refine ⟨_, rfl, ?_⟩
    unfold putA
    rw [if_pos rfl]
    refine ⟨A4, c4, ?_, ?_, ?_⟩
    · simp [clB]
    · simpa [clB] using hc4
    · simp [clB]
  | false =>
    refine m_run ?_
    refine TK.drop ?_
    (apply TK.ret2; exact rfl; exact rfl; (exact m_val); (exact m_val))
    refine ⟨_, rfl, ?_⟩
    unfold putA
    rw [if_neg (by decide)]
    exact ⟨rfl, rfl⟩
end
end Go.Proofs.Ytokggdgagfmacaa.E
