/- The reader of package lex: IndexByte, HasPrefix, letters, word, named, walked. -/
import Derived.Test.YtebeckkkckijeaaDoorR1
import Derived.Test.YtebeckkkckijeaaDoorM1
namespace Go.Proofs.YtebeckkkckijeaaDoor.E
open Go Go.RowKit Go.Proofs
theorem enc_low {c : UInt8} (h : c.toNat < 128) : Utf8.encode (c.toNat : Int) = S [c] := by
  have hv : Utf8.valid (c.toNat : Int) = true := by
    unfold Utf8.valid
    simp; left; omega
  unfold Utf8.encode
  rw [hv]
  simp only [if_true, Int.toNat_natCast]
  rw [if_pos (by omega)]
  simp [S]
theorem PV.i2s {P : Program} {ρ : Env} {d : Nat} {ty : TypeId} {pos : String} {after : Array Edge} {Sw : World → Prop} {t t' : TypeId} {x : Operand} {c : UInt8} {r r' : TR} {q : IntKind} (ea : ev ρ x = .int q (c.toNat : Int)) (ht : TabOk P t r) (hq : r.und = .int q) (ht' : TabOk P t' r') (hq' : r'.und = .string) (hc : c.toNat < 128) : PV P ρ Sw ⟨some d, .convert t t' x, ty, pos, after, none⟩ (.string (S [c])) := fun w _ => by
  simp [execOp, ea, convert, ht.run_und, ht'.run_und, hq, hq', Conv.intToString, enc_low hc]
attribute [local irreducible] TK TL TQ TA Fn PV
theorem indexByte_nl : ∀ s : List UInt8, Lib.indexByte s 10 = idxI s
  | [] => rfl
  | c :: s => by
    have ih := indexByte_nl s
    unfold Lib.indexByte idxI nlI
    by_cases hc : c = 10
    · subst hc; rfl
    · have h1 : (c == 10) = false := by simpa using hc
      rw [if_neg hc, h1, ih]
      unfold idxI
      cases nlI s with
      | none => rfl
      | some k =>
        simp only [Option.map_some]
        have : ¬ ((k : Int) == -1) = true := by simp
        simp [this]
theorem x_indexByte (s : List UInt8) (w : World) : (callFunc 33 #[.string (S s), .int .u8 10]).run Tryd.prog w = .ok (.value (.int .i64 (idxI s))) w := by
  rw [run_callFunc_extern Tryd.func33 (by kernel_rfl) (by kernel_rfl) (by kernel_rfl) (show Extern.find _ = some Extern.BytealgIndexByte.indexByte by kernel_rfl), Lib.run_indexByteString]
  show Result.ok (Next.value (.int .i64 (Lib.indexByte s (10 : Int).toNat.toUInt8))) w = _
  rw [show ((10 : Int).toNat.toUInt8) = 10 from rfl, indexByte_nl]
theorem indexByte0_t (s : List UInt8) (Γ : List HP) : FnV Tryd.prog 28 [.string (S s), .int .u8 10] Γ fun v Γ' => v = .int .i64 (idxI s) ∧ Γ' = Γ := by
  refine Fn.enter Tryd.func28 rfl rfl rfl fun E => ?_
  refine m_run ?_
  (apply TL.pv; exact rfl; (apply PV.ext; exact (rfl : _ = [_, _]); exact fun w _ => x_indexByte s w))
  refine m_run ?_
  (apply TK.ret1; exact rfl; exact rfl; (exact m_val))
  exact ⟨_, rfl, rfl, rfl⟩
theorem indexByte_t (s : List UInt8) (Γ : List HP) : FnV Tryd.prog 20 [.string (S s), .int .u8 10] Γ fun v Γ' => v = .int .i64 (idxI s) ∧ Γ' = Γ := by
  refine Fn.enter Tryd.func20 rfl rfl rfl fun E => ?_
  refine m_run ?_
  (apply TL.callV; exact rfl; exact callB_of (by kernel_rfl); exact rfl; exact fun _ h => h)
  exact indexByte0_t s _
  rintro _ _ ⟨rfl, rfl⟩
  refine m_run ?_
  (apply TK.ret1; exact rfl; exact rfl; (exact m_val))
  exact ⟨_, rfl, rfl, rfl⟩
theorem pre2 {s : List UInt8} (h : 2 ≤ s.length) : (s.take 2 = [58, 45]) ↔ (s.head? = some 58 ∧ (s.drop 1).head? = some 45) := by
  match s, h with
  | a :: b :: r, _ => simp
set_option maxRecDepth 100000 in
theorem hasPrefix0_t (s : List UInt8) (Γ : List HP) : FnV Tryd.prog 29 [.string (S s), .string (S [58, 45])] Γ fun v Γ' => v = .bool (decide (s.head? = some 58 ∧ (s.drop 1).head? = some 45)) ∧ Γ' = Γ := by
  refine Fn.enter Tryd.func29 rfl rfl rfl fun E => ?_
  by_cases h2 : 2 ≤ s.length
  · refine m_run ?_
    refine TL.know (t := 10) (v := .bool true) (congrArg Value.bool (decide_eq_true (show ((2 : Nat) : Int) ≤ (s.length : Int) by omega))) ?_
    refine m_run ?_
    (apply TL.pv; exact rfl; (apply PV.sliceStr (i := 0) (j := 2) (l := s); exact rfl; exact tb rfl; exact rfl; exact .none; exact .some rfl; exact (by omega); exact h2))
    refine m_run ?_
    refine TK.know (t := 4) (v := .bool (decide (s.head? = some 58 ∧ (s.drop 1).head? = some 45))) (congrArg Value.bool (by rw [List.drop_zero]; exact decide_eq_decide.2 (pre2 h2))) ?_
    refine m_run ?_
    (apply TK.ret1; exact rfl; exact rfl; (exact m_val))
    exact ⟨_, rfl, rfl, rfl⟩
  · have hf : decide (s.head? = some 58 ∧ (s.drop 1).head? = some 45) = false := decide_eq_false (by
      match s, h2 with
      | [], _ => simp
      | [a], _ => simp
      | a :: b :: r, h => simp at h)
    rw [hf]
    refine m_run ?_
    refine TL.know (t := 10) (v := .bool false) (congrArg Value.bool (decide_eq_false (show ¬ ((2 : Nat) : Int) ≤ (s.length : Int) by omega))) ?_
    refine m_run ?_
    (apply TK.ret1; exact rfl; exact rfl; (exact m_val))
    exact ⟨_, rfl, rfl, rfl⟩
theorem hasPrefix_t (s : List UInt8) (Γ : List HP) : FnV Tryd.prog 22 [.string (S s), .string (S [58, 45])] Γ fun v Γ' => v = .bool (decide (s.head? = some 58 ∧ (s.drop 1).head? = some 45)) ∧ Γ' = Γ := by
  refine Fn.enter Tryd.func22 rfl rfl rfl fun E => ?_
  refine m_run ?_
  (apply TL.callV; exact rfl; exact callB_of (by kernel_rfl); exact rfl; exact fun _ h => h)
  exact hasPrefix0_t s _
  rintro _ _ ⟨rfl, rfl⟩
  refine m_run ?_
  (apply TK.ret1; exact rfl; exact rfl; (exact m_val))
  exact ⟨_, rfl, rfl, rfl⟩
/-! ### how many letters -/
theorem isL_ok : ∀ n : Fin 256, isL (UInt8.ofNat n.val) = okN n.val := by decide +kernel
theorem isL_okB (c : UInt8) : isL c = okB c := by
  have := isL_ok ⟨c.toNat, c.toNat_lt⟩
  simpa [okB] using this
theorem isL_low {c : UInt8} (h : 128 ≤ c.toNat) : isL c = false := by
  have : ∀ n : Fin 256, 128 ≤ n.val → okN n.val = false := by decide +kernel
  rw [isL_okB]; exact this ⟨c.toNat, c.toNat_lt⟩ h
set_option maxRecDepth 100000 in
theorem lettersF_low (c : UInt8) (hc : c.toNat < 128) (Γ : List HP) : FnV Tryd.prog 35 [.int .i32 (c.toNat : Int)] Γ fun v Γ' => v = .bool (!isL c) ∧ Γ' = Γ := by
  refine Fn.enter Tryd.func35 rfl rfl rfl fun E => ?_
  have hm : mayB [c] = isL c := by
    rw [isL_okB]
    show ((okB c && true) && true && true) = okB c
    simp
  refine m_run ?_
  (apply TL.pv; exact rfl; (apply PV.i2s (c := c); exact rfl; exact tb rfl; exact rfl; exact tb rfl; exact rfl; exact hc))
  refine m_run ?_
  (apply TL.callV; exact rfl; exact callB_of (by kernel_rfl); exact rfl; exact fun _ h => h)
  exact may_t [c] _ (show 1 ≤ 1000000 by decide)
  rintro _ _ ⟨rfl, rfl⟩
  rw [hm]
  refine m_run ?_
  (apply TK.ret1; exact rfl; exact rfl; (exact m_val))
  exact ⟨_, rfl, rfl, rfl⟩
set_option maxRecDepth 100000 in
theorem lettersF_hi (n : Nat) (hn : 128 ≤ n) (Γ : List HP) : FnV Tryd.prog 35 [.int .i32 (n : Int)] Γ fun v Γ' => v = .bool true ∧ Γ' = Γ := by
  refine Fn.enter Tryd.func35 rfl rfl rfl fun E => ?_
  refine m_run ?_
  (apply TK.ret1; exact rfl; exact rfl; (exact m_val))
  exact ⟨_, rfl, rfl, rfl⟩
/-- Where the first byte that no name may have begins. -/
theorem takeW_step {s : List UInt8} {p : Nat} {c : UInt8} (h : s[p]? = some c) (hall : p ≤ (s.takeWhile isL).length) : (isL c = true → p + 1 ≤ (s.takeWhile isL).length) ∧ (isL c = false → p = (s.takeWhile isL).length) := by
  induction s generalizing p with
  | nil => simp at h
  | cons d s ih =>
    rw [List.takeWhile_cons] at hall ⊢
    cases p with
    | zero =>
      simp only [List.getElem?_cons_zero, Option.some.injEq] at h
      subst h
      constructor
      · intro hc; rw [if_pos hc]; simp
      · intro hc; rw [hc]; rfl
    | succ p =>
      cases hd : isL d with
      | false => rw [hd] at hall; simp at hall
      | true =>
        rw [hd] at hall
        simp only [if_true, List.length_cons] at hall ⊢
        have := ih (p := p) (by simpa using h) (by omega)
        exact ⟨fun hc => by have := this.1 hc; omega, fun hc => by have := this.2 hc; omega⟩
set_option maxRecDepth 100000 in
theorem indexFunc0_t (s : List UInt8) (Γ : List HP) (_ : s.length ≤ 1000000) : FnV Tryd.prog 39 [.string (S s), .func (.func 35) #[] #[], .bool true] Γ fun v Γ' => v = .int .i64 (if (s.takeWhile isL).length < s.length then ((s.takeWhile isL).length : Int) else -1) ∧ Γ' = Γ := by
  refine Fn.enter Tryd.func39 rfl rfl rfl fun E => ?_
  have htl := takeW_len isL s
  refine m_run ?_
  (apply TL.rangeS; exact rfl; exact rfl; exact tb rfl; exact rfl)
  intro b
  refine m_run ?_
  apply TK.iter (fun j ρ' Γ' => ∃ p : Nat, p + j = s.length ∧ p ≤ (s.takeWhile isL).length ∧ lk ρ' 1 = .func (.func 35) #[] #[] ∧ lk ρ' 2 = .bool true ∧ lk ρ' 10 = .pointer (some ⟨b, 0, none⟩) ∧ Γ' = pt b (.stringIter (S s) p) :: Γ) s.length
  · exact ⟨0, Nat.zero_add _, Nat.zero_le _, rfl, rfl, rfl, rfl⟩
  rintro j IH ρ' _ ⟨p, hpj, hpl, e1, e2, e10, rfl⟩
  refine TK.know3 e1 e2 e10 ?_
  by_cases hp : p < s.length
  · obtain ⟨c, hc⟩ : ∃ c, s[p]? = some c := ⟨s[p], by simp [hp]⟩
    obtain ⟨hy, hn⟩ := takeW_step hc hpl
    by_cases h128 : c.toNat < 128
    · have hdec := decode_low hc h128
      refine m_run ?_
      (apply TL.nextS 0; exact rfl; exact rfl; exact rfl; exact hp; exact rfl)
      rw [hdec]
      refine m_run ?_
      (apply TL.callW (f := 35); exact rfl; exact rfl; exact callB_of (by kernel_rfl); exact rfl; exact fun _ h => h)
      exact lettersF_low c h128 _
      rintro _ _ ⟨rfl, rfl⟩
      cases hL : isL c with
      | true =>
        refine m_run ?_
        exact IH (j - 1) _ _ (by omega) ⟨p + 1, by omega, hy hL, rfl, rfl, rfl, rfl⟩
      | false =>
        have hpe := hn hL
        rw [if_pos (by omega), ← hpe]
        refine m_run ?_
        (apply TK.retS1; exact rfl; exact rfl; (exact m_val))
        · exact ⟨_, rfl, rfl, rfl⟩
        · (repeat (first | exact List.Sublist.refl _ | apply List.Sublist.cons_cons | apply List.Sublist.cons))
    · have hdec := decode_hi hc (by omega)
      have hpe := hn (isL_low (by omega))
      rw [if_pos (by omega), ← hpe]
      refine m_run ?_
      (apply TL.nextS 0; exact rfl; exact rfl; exact rfl; exact hp; exact rfl)
      refine m_run ?_
      (apply TL.callW (f := 35); exact rfl; exact rfl; exact callB_of (by kernel_rfl); exact rfl; exact fun _ h => h)
      exact lettersF_hi _ hdec _
      rintro _ _ ⟨rfl, rfl⟩
      refine m_run ?_
      (apply TK.retS1; exact rfl; exact rfl; (exact m_val))
      · exact ⟨_, rfl, rfl, rfl⟩
      · (repeat (first | exact List.Sublist.refl _ | apply List.Sublist.cons_cons | apply List.Sublist.cons))
  · rw [if_neg (by omega)]
    refine m_run ?_
    (apply TL.nextEnd 0; exact rfl; exact rfl; exact rfl; exact hp)
    refine m_run ?_
    (apply TK.retS1; exact rfl; exact rfl; (exact m_val))
    · exact ⟨_, rfl, rfl, rfl⟩
    · (repeat (first | exact List.Sublist.refl _ | apply List.Sublist.cons_cons | apply List.Sublist.cons))
theorem indexFunc_t (s : List UInt8) (Γ : List HP) (hs : s.length ≤ 1000000) : FnV Tryd.prog 34 [.string (S s), .func (.func 35) #[] #[]] Γ fun v Γ' => v = .int .i64 (if (s.takeWhile isL).length < s.length then ((s.takeWhile isL).length : Int) else -1) ∧ Γ' = Γ := by
  refine Fn.enter Tryd.func34 rfl rfl rfl fun E => ?_
  refine m_run ?_
  (apply TL.callV; exact rfl; exact callB_of (by kernel_rfl); exact rfl; exact fun _ h => h)
  exact indexFunc0_t s _ hs
  rintro _ _ ⟨rfl, rfl⟩
  refine m_run ?_
  (apply TK.ret1; exact rfl; exact rfl; (exact m_val))
  exact ⟨_, rfl, rfl, rfl⟩
/-! ### the reader -/
/-- The reader's fields. -/
abbrev rdR (b : Nat) (text : List UInt8) (p : Nat) (V : Value) : HP := row b [.string (S text), .int .i64 (p : Int), V] 44
set_option maxRecDepth 100000 in
theorem letters_t (b : Nat) (text : List UInt8) (p : Nat) (V : Value) (Γ : List HP) (hp : p ≤ text.length) (ht : text.length ≤ 1000000) :
    FnV Tryd.prog 30 [.pointer (some ⟨b, 0, none⟩)] (rdR b text p V :: Γ) fun v Γ' => v = .int .i64 (((text.drop p).takeWhile isL).length : Int) ∧ Γ' = rdR b text p V :: Γ := by
  refine Fn.enter Tryd.func30 rfl rfl rfl fun E => ?_
  have htl := takeW_len isL (text.drop p)
  rw [List.length_drop] at htl
  refine m_run ?_
  refine TK.drawS mixed rfl ?_
  refine m_take (At.mk : At 0) ?_; refine m_take (At.mk : At 1) ?_; refine m_take (At.mk : At 2) ?_; refine m_take (At.mk : At 3) ?_; refine m_take (At.mk : At 4) ?_; refine m_take (At.mk : At 5) ?_; refine m_take (At.mk : At 6) ?_; refine m_take (At.mk : At 7) ?_
  (apply TA.takeA (At.mk : At 8); exact rfl; exact rfl; kernel_rfl; ((focus ((repeat (first | assumption | exact Ent.refl _ | apply Ent.tail)); done))); (apply PV.sliceStr (i := p) (j := text.length) (l := text); exact rfl; exact tb rfl; exact rfl; exact .some rfl; exact .none; exact hp; exact Nat.le_refl _))
  refine TA.know (t := 13) (v := .string (S (text.drop p))) (congrArg (fun z => Value.string (S z)) (List.take_of_length_le (by rw [List.length_drop]; exact Nat.le_refl _))) ?_
  refine m_take (At.mk : At 9) ?_
  refine TA.done (by kernel_rfl) ?_
  refine m_run ?_
  (apply TL.callV; exact rfl; exact callB_of (by kernel_rfl); exact rfl; exact fun _ h => h)
  exact indexFunc_t (text.drop p) _ (by rw [List.length_drop]; omega)
  rintro _ _ ⟨rfl, rfl⟩
  by_cases hlt : ((text.drop p).takeWhile isL).length < (text.drop p).length
  · rw [if_pos hlt]
    refine m_run ?_
    (apply TK.ret1; exact rfl; exact rfl; (exact m_val))
    exact ⟨_, rfl, rfl, rfl⟩
  · rw [if_neg hlt]
    have he : (text.drop p).length = ((text.drop p).takeWhile isL).length := by rw [List.length_drop] at hlt ⊢; omega
    refine m_run ?_
    (apply TK.ret1; exact rfl; exact rfl; exact rfl)
    exact ⟨_, rfl, congrArg (fun z : Nat => Value.int .i64 (z : Int)) he, rfl⟩
end Go.Proofs.YtebeckkkckijeaaDoor.E
