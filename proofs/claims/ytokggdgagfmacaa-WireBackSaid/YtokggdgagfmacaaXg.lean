/- The program's reader, which panics: walked. -/
import Derived.Test.YtokggdgagfmacaaXf
import Derived.Lib.IfaceEq
namespace Go.Proofs.Ytokggdgagfmacaa.E
open Go Go.RowKit Go.Proofs
section
/- The program's reader, which panics: need, number, octet, symbol, flag, term: walked. -/
section
variable {P : Program} {S : World → Prop} {ρ : Env} {d : Nat} {ty : TypeId} {pos : String} {after : Array Edge}
theorem PV.iface {t : TypeId} {x : Operand} {v : Value} {r : TR} (ea : ev ρ x = v) (ht : TabOk P t r) (hq : (match r.und with | .interface _ => false | _ => true) = true) : PV P ρ S ⟨some d, .makeInterface t x, ty, pos, after, none⟩ (.iface t v) := fun w _ => by
  have h2 : (Instr.makeInterface t v).run P w = .ok (.iface t v) w := by
    unfold Instr.makeInterface
    simp only [Sem.run_bind, ht.run_und, Result.andThen_ok]
    revert hq
    cases r.und <;> intro hq <;> first | rfl | cases hq
  simp [execOp, ea, h2]
theorem PV.ifaceNil {t t' tx : TypeId} {x : Operand} {v : Value} {r : TR} {ms : Array (String × TypeId)} (ea : ev ρ x = .iface tx v) (ht : TabOk P t r) (hq : r.und = .interface ms) : PV P ρ S ⟨some d, .binOp .eql t x (.const .nilIface) t', ty, pos, after, none⟩ (.bool false) := fun w _ => by simp [execOp, ea, ev_const, eqGuard, binOp, run_eql_iface ht hq]
theorem PV.nilNil {t t' : TypeId} {x : Operand} {r : TR} {ms : Array (String × TypeId)} (ea : ev ρ x = .nilIface) (ht : TabOk P t r) (hq : r.und = .interface ms) : PV P ρ S ⟨some d, .binOp .eql t x (.const .nilIface) t', ty, pos, after, none⟩ (.bool true) := fun w _ => by simp [execOp, ea, ev_const, eqGuard, binOp, run_eql_iface_nil ht hq]
theorem PV.ifaceNilN {t t' tx : TypeId} {x : Operand} {v : Value} {r : TR} {ms : Array (String × TypeId)} (ea : ev ρ x = .iface tx v) (ht : TabOk P t r) (hq : r.und = .interface ms) : PV P ρ S ⟨some d, .binOp .neq t x (.const .nilIface) t', ty, pos, after, none⟩ (.bool true) := fun w _ => by simp [execOp, ea, ev_const, eqGuard, binOp, run_eql_iface ht hq]
theorem PV.nilNilN {t t' : TypeId} {x : Operand} {r : TR} {ms : Array (String × TypeId)} (ea : ev ρ x = .nilIface) (ht : TabOk P t r) (hq : r.und = .interface ms) : PV P ρ S ⟨some d, .binOp .neq t x (.const .nilIface) t', ty, pos, after, none⟩ (.bool false) := fun w _ => by simp [execOp, ea, ev_const, eqGuard, binOp, run_eql_iface_nil ht hq]
/-- Two values of interface type: what 'binOp' says of them. -/
theorem PV.eqIface {t t' tx tx' : TypeId} {x y : Operand} {v v' : Value} {c : Bool} (ea : ev ρ x = .iface tx v) (eb : ev ρ y = .iface tx' v') (h : ∀ w, (binOp .eql t (.iface tx v) (.iface tx' v')).run P w = .ok (.bool c) w) : PV P ρ S ⟨some d, .binOp .eql t x y t', ty, pos, after, none⟩ (.bool c) := fun w _ => by simp [execOp, ea, eb, eqGuard, h]
end
attribute [local irreducible] TK TL TQ TA TB Fn PV
abbrev ERR : List PanicEntry := [{ v := .iface 30 (.int .i64 5), recovered := false }]
/-- What comes back of something that may panic. -/
def RP {α : Type} (o : Option (α × Nat)) (ret : α → Nat → Value → List HP → Prop) (pan : List HP → Prop) (e : Ending) (Γ' : List HP) : Prop := match o with
  | some x => ∃ v, e = .returned v ∧ ret x.1 x.2 v Γ'
  | none => e = .panicked ERR ∧ pan Γ'
section
variable {cx : Cx} {ops : Array Oper} {K : Act → World → Prop} {rest : List Oper} {ρ : Env} {Γ : List HP} {d : Nat} {ty : TypeId} {pos : String} {after : Array Edge}
theorem TL.callN {α : Type} {o : Option (α × Nat)} {ret : α → Nat → Value → List HP → Prop} {pan : List HP → Prop} {f : FuncId} {xs : List Operand} {vs : List Value} {ts : Array TypeId} {Δ : List HP} (hd : Nat.blt d cx.n = true) (hc : Callable cx.P f) (ha : xs.map (ev ρ) = vs) (hΓ : ∀ m, all Γ m → all Δ m) (hf : Fn cx.P f vs Δ (RP o ret pan)) (ho : o = none) (hrd : cx.rd = none)
    (h : ∀ Γ', pan Γ' → cx.R (.panicked ERR) Γ') : TL cx ops K (⟨some d, .call ⟨.value (.func f), xs.toArray, ts⟩, ty, pos, after, none⟩ :: rest) ρ [] Γ := by
  subst ho
  exact .callP hd hc ha hΓ hf (fun ch Γ' hR => by
    obtain ⟨h1, h2⟩ := (hR : _ ∧ _)
    injection h1 with h1
    subst h1
    exact Pan.none hrd (h Γ' h2)) (fun Γ' hR => by obtain ⟨h1, _⟩ := (hR : _ ∧ _); cases h1) (fun v Γ' hR => by obtain ⟨h1, _⟩ := (hR : _ ∧ _); cases h1)
theorem Fn.got {P : Program} {α : Type} {o : Option (α × Nat)} {x : α} {k : Nat} {ret : α → Nat → Value → List HP → Prop} {pan : List HP → Prop} {f : FuncId} {vs : List Value} (hf : Fn P f vs Γ (RP o ret pan)) (ho : o = some (x, k)) : FnV P f vs Γ (ret x k) := by
  subst ho
  exact hf
end
theorem RP.got {α : Type} {o : Option (α × Nat)} {x : α} {k : Nat} {ret : α → Nat → Value → List HP → Prop} {pan : List HP → Prop} {v : Value} {Γ' : List HP} (ho : o = some (x, k)) (h : ret x k v Γ') : RP o ret pan (.returned v) Γ' := by subst ho; exact ⟨v, rfl, h⟩
theorem RP.lost {α : Type} {o : Option (α × Nat)} {ret : α → Nat → Value → List HP → Prop} {pan : List HP → Prop} {Γ' : List HP} (ho : o = none) (h : pan Γ') : RP o ret pan (.panicked ERR) Γ' := by subst ho; exact ⟨rfl, h⟩
abbrev rdR (r : Nat) (A : Option Addr) (n c k : Nat) : HP := row r [.slice A n c, .int .i64 (k : Int)] 140
/-- After a panic: the reader stands somewhere. -/
def panR (r : Nat) (A : Option Addr) (n c : Nat) (Γ Γ' : List HP) : Prop := ∃ k : Nat, Ent Γ' (rdR r A n c k :: Γ)
theorem panR.sub {r : Nat} {A : Option Addr} {n c : Nat} {Γ Δ Γ' : List HP} (h : panR r A n c Γ Γ') (hs : Δ.Sublist Γ) : panR r A n c Δ Γ' := by
  obtain ⟨k, h⟩ := h
  exact ⟨k, h.trans (Ent.sub (List.Sublist.cons_cons _ hs))⟩
set_option maxRecDepth 100000 in
theorem need_yes (Γ : List HP) : FnV Try.prog 78 [.bool true] Γ fun _ Γ' => Γ' = Γ := by
  refine Fn.enter Try.func78 rfl rfl rfl fun E => ?_
  refine m_run ?_
  (apply TK.over0; exact rfl; exact rfl)
  exact ⟨_, rfl, rfl⟩
set_option maxRecDepth 100000 in
theorem need_t (is : Bool) (Γ : List HP) : Fn Try.prog 78 [.bool is] Γ (RP (if is then some ((), 0) else none) (fun _ _ _ Γ' => Γ' = Γ) (fun Γ' => Γ' = Γ)) := by
  cases is with
  | true => exact need_yes Γ
  | false =>
    refine Fn.enter Try.func78 rfl rfl rfl fun E => ?_
    refine m_run ?_
    (apply TL.pv; exact rfl; (apply PV.iface; exact rfl; exact tb rfl; exact rfl))
    (apply TL.panic; exact rfl; exact rfl)
    exact Pan.none rfl ⟨rfl, rfl⟩
end
section
/- octet.Take of one byte: walked (from O9, P6). -/
attribute [local irreducible] TK TL TQ TA TB Fn PV RP
theorem fixed_t (size : Int) (Γ : List HP) : FnV Try.prog 128 [.int .i64 size] Γ fun v Γ' => v = .bool (decide (1 ≤ size ∧ size ≤ 8)) ∧ Γ' = Γ := by
  refine Fn.enter Try.func128 rfl rfl rfl fun E => ?_
  by_cases h1 : 1 ≤ size
  · by_cases h2 : size ≤ 8
    · refine m_run ?_
      (apply TK.ret1; exact rfl; exact rfl; (exact m_val))
      exact ⟨_, rfl, by simp [h1, h2], rfl⟩
    · refine m_run ?_
      (apply TK.ret1; exact rfl; exact rfl; (exact m_val))
      exact ⟨_, rfl, by simp [h1, h2], rfl⟩
  · refine m_run ?_
    (apply TK.ret1; exact rfl; exact rfl; (exact m_val))
    exact ⟨_, rfl, by simp [h1], rfl⟩
def beN (l : List UInt8) : Nat := l.foldl (fun n c => n * 256 + c.toNat) 0
theorem beN_snoc (l : List UInt8) (c : UInt8) : beN (l ++ [c]) = beN l * 256 + c.toNat := by simp [beN]
theorem beN_lt (l : List UInt8) : beN l < 256 ^ l.length := by
  suffices h : ∀ r : List UInt8, beN r.reverse < 256 ^ r.length by simpa using h l.reverse
  intro r
  induction r with
  | nil => simp [beN]
  | cons c r ih =>
    rw [List.reverse_cons, beN_snoc, List.length_cons, Nat.pow_succ]
    have := c.toNat_lt
    omega
set_option maxRecDepth 100000 in
theorem take1_t (A : Option Addr) (m c : Nat) (l : List UInt8) (at_ k : Nat) (Γ : List HP) (hs : has Γ (srcAt 1 A m (bytesV l))) (hmc : m ≤ c) (hl : l.length ≤ 1000000000) (hk : 1 ≤ k ∧ k ≤ 8) (hat : at_ + k ≤ l.length) :
    FnV Try.prog 110 [.slice A m c, .int .i64 (at_ : Int), .int .i64 (k : Int)] Γ fun v Γ' => v = .tuple #[.int .u64 ((beN ((l.drop at_).take k) : Nat) : Int), .int .i64 ((at_ + k : Nat) : Int), .int .i64 0] ∧ Γ' = Γ := by
  refine Fn.enter Try.func110 rfl rfl rfl fun E => ?_
  refine TK.mem fun m0 hm0 => ?_
  obtain rfl := src_lenB (hs m0 hm0)
  refine m_run ?_
  (apply TL.callV; exact rfl; exact callB_of (by kernel_rfl); exact rfl; exact fun _ h => h)
  exact fixed_t k _
  rintro _ Γ ⟨rfl, rfl⟩
  refine m_run ?_
  (apply TL.callV; exact rfl; exact callB_of (by kernel_rfl); exact rfl; exact fun _ h => h)
  exact place_t A l.length c at_ _
  rintro _ Γ ⟨rfl, rfl⟩
  have e1 : IntKind.i64.wrap ((l.length : Int) - (at_ : Int)) = ((l.length - at_ : Nat) : Int) := by rw [i64_in (by omega) (by omega)]; omega
  have e2 : IntKind.i64.wrap ((at_ : Int) + (k : Int)) = ((at_ + k : Nat) : Int) := by rw [← Int.natCast_add, i64_nat (by omega)]
  refine m_run ?_
  refine TL.know (t := 30) (v := .int .i64 ((at_ + k : Nat) : Int)) (congrArg (Value.int .i64) e2) ?_
  (apply TL.sliceS (i := at_) (j := at_ + k); exact rfl; exact rfl; exact tb rfl; exact rfl; exact tb rfl; exact .some rfl; exact .some rfl; exact hs; omega; omega; omega)
  intro A' hs2
  have hs3 := has_part (l := l) (i := at_) hs2 (by omega)
  rw [show at_ + k - at_ = k by omega] at hs3 ⊢
  obtain ⟨cs, hcs⟩ : ∃ cs, (l.drop at_).take k = cs := ⟨_, rfl⟩
  have hcl : cs.length = k := by rw [← hcs, List.length_take, List.length_drop]; omega
  rw [hcs] at hs3 ⊢
  refine m_run ?_
  apply TK.iter (fun j ρ' Γ' => ∃ (i : Nat), i + j = k ∧ lk ρ' 1 = .int .i64 (at_ : Int) ∧ lk ρ' 2 = .int .i64 (k : Int) ∧ lk ρ' 6 = .int .u64 ((beN (cs.take i) : Nat) : Int) ∧ lk ρ' 31 = .slice A' k (c - at_) ∧ lk ρ' 32 = .int .i64 (k : Int) ∧ lk ρ' 33 = .int .i64 (i : Int) ∧ Γ' = Γ) k
  · exact ⟨0, by omega, rfl, rfl, rfl, rfl, rfl, rfl, rfl⟩
  rintro j IH ρ' Γ ⟨i, hij, e1', e2', e6, e31, e32, e33, rfl⟩
  refine TK.know6 e1' e2' e6 e31 e32 e33 ?_
  by_cases hi : i < k
  · obtain ⟨ch, hch⟩ : ∃ ch, cs[i]? = some ch := ⟨cs[i]'(by omega), by simp [hcl, hi]⟩
    have hst : cs.take (i + 1) = cs.take i ++ [ch] := by rw [List.take_add_one, hch]; rfl
    refine TK.mem fun m1 hm1 => ?_
    obtain ⟨b, o, rfl⟩ := src_some (hs3 m1 hm1) (by rw [bytesV_length]; omega)
    have hcell := has_byte hs3 hch
    have hb : beN (cs.take i) < 256 ^ 7 := by
      refine Nat.lt_of_lt_of_le (beN_lt _) (Nat.pow_le_pow_right (by decide) ?_)
      rw [List.length_take]; omega
    have hc8 := ch.toNat_lt
    refine m_run ?_
    refine IH (j - 1) _ _ (by omega) ⟨i + 1, by omega, rfl, rfl, congrArg (Value.int .u64) ?_, rfl, rfl, congrArg (Value.int .i64) (i64_succ i (by omega)), rfl⟩
    rw [hst, beN_snoc]
    have e5 : beN (cs.take i) * 2 ^ 8 % 2 ^ IntKind.u64.bits = beN (cs.take i) * 256 := Nat.mod_eq_of_lt (show _ < 2 ^ 64 by omega)
    rw [e5, u64_nat (by omega), ← Int.natCast_add, u64_nat (by omega)]
  · obtain rfl : i = k := by omega
    refine m_run ?_
    (apply TK.ret3; exact rfl; exact rfl; (exact m_val); (exact m_val); (exact m_val))
    refine ⟨_, rfl, ?_, rfl⟩
    rw [e2, List.take_of_length_le (by omega)]
theorem beN_one (c : UInt8) : beN [c] = c.toNat := by simp [beN]
set_option maxRecDepth 100000 in
theorem take0_t (A : Option Addr) (m c : Nat) (l : List UInt8) (Γ : List HP) (hs : has Γ (srcAt 1 A m (bytesV l))) (hl : l.length ≤ 1000000000) :
    FnV Try.prog 110 [.slice A m c, .int .i64 (l.length : Int), .int .i64 1] Γ fun v Γ' => v = .tuple #[.int .u64 0, .int .i64 0, .int .i64 5] ∧ Γ' = Γ := by
  refine Fn.enter Try.func110 rfl rfl rfl fun E => ?_
  refine TK.mem fun m0 hm0 => ?_
  obtain rfl := src_lenB (hs m0 hm0)
  refine m_run ?_
  (apply TL.callV; exact rfl; exact callB_of (by kernel_rfl); exact rfl; exact fun _ h => h)
  exact fixed_t 1 _
  rintro _ Γ ⟨rfl, rfl⟩
  refine m_run ?_
  (apply TL.callV; exact rfl; exact callB_of (by kernel_rfl); exact rfl; exact fun _ h => h)
  exact place_t A l.length c l.length _
  rintro _ Γ ⟨rfl, rfl⟩
  have e1 : IntKind.i64.wrap ((l.length : Int) - (l.length : Int)) = 0 := by rw [Int.sub_self]; rfl
  refine m_run ?_
  (apply TK.ret3; exact rfl; exact rfl; (exact m_val); (exact m_val); (exact m_val))
  exact ⟨_, rfl, rfl, rfl⟩
set_option maxRecDepth 100000 in
set_option maxHeartbeats 1000000 in
theorem rnumber_t (r : Nat) (A : Option Addr) (c most k : Nat) (l : List UInt8) (Γ : List HP) (hs : has Γ (srcAt 1 A l.length (bytesV l))) (hc : l.length ≤ c) (hl : l.length ≤ 1000000000) :
    Fn Try.prog 109 [.pointer (some ⟨r, 0, none⟩), .int .u64 (most : Int)] (rdR r A l.length c k :: Γ) (RP (numS most l k) (fun x k' v Γ' => v = .int .u64 (x : Int) ∧ Γ' = rdR r A l.length c k' :: Γ) (panR r A l.length c Γ)) := by
  refine Fn.enter Try.func109 rfl rfl rfl fun E => ?_
  refine m_run ?_
  refine TK.drawE mixed rfl (rdR r A l.length c k :: Γ) ?_
  refine m_take (At.mk : At 0) ?_; refine m_take (At.mk : At 1) ?_; refine m_take (At.mk : At 2) ?_; refine m_take (At.mk : At 3) ?_; refine m_take (At.mk : At 4) ?_; refine m_take (At.mk : At 5) ?_; refine m_take (At.mk : At 6) ?_; refine m_take (At.mk : At 7) ?_
  (apply TA.one 8; kernel_rfl; exact rfl)
  (apply TL.callV; exact rfl; exact callB_of (by kernel_rfl); exact rfl; exact fun _ h => h)
  exact takevar_t A l.length c l k _ (has_tls hs) hc hl
  rintro _ _ ⟨rfl, rfl⟩
  refine TL.back (by (focus ((repeat (first | assumption | exact Ent.refl _ | apply Ent.tail)); done))) ?_
  obtain ⟨⟨n, next, e⟩, hT⟩ : ∃ x, takeV l (k : Int) = x := ⟨_, rfl⟩
  obtain ⟨hn, hnext, he5⟩ := takeV_lt hT
  rw [show tkV (takeV l (k : Int)) = .tuple #[.int .u64 (n : Int), .int .i64 (next : Int), .int .i64 (e : Int)] by rw [hT]; rfl]
  refine m_take (At.mk : At 9) ?_; refine m_take (At.mk : At 10) ?_; refine m_take (At.mk : At 11) ?_; refine m_take (At.mk : At 12) ?_; refine m_take (At.mk : At 13) ?_; refine m_take (At.mk : At 14) ?_; refine m_take (At.mk : At 15) ?_
  refine TA.done (by kernel_rfl) ?_
  by_cases he : e = 0
  · subst he
    by_cases hm : n ≤ most
    · have hS : numS most l k = some (n, next) := by unfold numS; rw [hT]; exact if_pos ⟨rfl, hm⟩
      refine m_run ?_
      refine TL.know (t := 27) (v := .bool true) (congrArg Value.bool (decide_eq_true (by omega))) ?_
      (apply TL.callV; exact rfl; exact callB_of (by kernel_rfl); exact rfl; exact fun _ h => h)
      exact need_yes _
      rintro _ _ rfl
      refine m_run ?_
      (apply TK.ret1; exact rfl; exact rfl; (exact m_val))
      exact RP.got hS ⟨rfl, rfl⟩
    · have hS : numS most l k = none := by unfold numS; rw [hT]; exact if_neg fun h => hm h.2
      refine m_run ?_
      refine TL.know (t := 27) (v := .bool false) (congrArg Value.bool (decide_eq_false (by omega))) ?_
      (apply TL.callN; exact rfl; exact callB_of (by kernel_rfl); exact rfl; exact fun _ h => h; exact need_t false _; exact rfl; exact rfl)
      rintro _ rfl
      exact RP.lost hS ⟨k, Ent.refl _⟩
  · have hS : numS most l k = none := by unfold numS; rw [hT]; exact if_neg fun h => he h.1
    refine m_run ?_
    (apply TL.callN; exact rfl; exact callB_of (by kernel_rfl); exact rfl; exact fun _ h => h; exact need_t false _; exact rfl; exact rfl)
    rintro _ rfl
    exact RP.lost hS ⟨k, Ent.refl _⟩
end
section
/- The program's reader: octet, symbol, flag, term, atom, say: walked. -/
attribute [local irreducible] TK TL TQ TA TB Fn PV RP
set_option maxRecDepth 100000 in
set_option maxHeartbeats 1000000 in
theorem roctet_t (r : Nat) (A : Option Addr) (c most k : Nat) (l : List UInt8) (Γ : List HP) (hs : has Γ (srcAt 1 A l.length (bytesV l))) (hc : l.length ≤ c) (hl : l.length ≤ 1000000000) (hk : k ≤ l.length) (hm : most ≤ 255) :
    Fn Try.prog 66 [.pointer (some ⟨r, 0, none⟩), .int .i64 (most : Int)] (rdR r A l.length c k :: Γ) (RP (octS most l k) (fun x k' v Γ' => v = .int .i64 (x : Int) ∧ Γ' = rdR r A l.length c k' :: Γ) (panR r A l.length c Γ)) := by
  refine Fn.enter Try.func66 rfl rfl rfl fun E => ?_
  have hw : IntKind.u64.wrap (most : Int) = (most : Int) := u64_nat (by omega)
  by_cases hkl : k < l.length
  · obtain ⟨ch, hch⟩ : ∃ ch, l[k]? = some ch := ⟨l[k], List.getElem?_eq_getElem hkl⟩
    have hc8 := ch.toNat_lt
    have hd : (l.drop k).take 1 = [ch] := by
      rw [List.drop_eq_getElem_cons hkl, List.take_succ_cons, List.take_zero]
      rw [List.getElem?_eq_getElem hkl] at hch
      injection hch with hch
      rw [hch]
    refine m_run ?_
    refine TK.drawE mixed rfl (rdR r A l.length c k :: Γ) ?_
    refine m_take (At.mk : At 0) ?_; refine m_take (At.mk : At 1) ?_; refine m_take (At.mk : At 2) ?_; refine m_take (At.mk : At 3) ?_; refine m_take (At.mk : At 4) ?_; refine m_take (At.mk : At 5) ?_; refine m_take (At.mk : At 6) ?_; refine m_take (At.mk : At 7) ?_
    (apply TA.one 8; kernel_rfl; exact rfl)
    (apply TL.callV; exact rfl; exact callB_of (by kernel_rfl); exact rfl; exact fun _ h => h)
    exact take1_t A l.length c l k 1 _ (has_tls hs) hc hl (by omega) (by omega)
    rintro _ _ ⟨rfl, rfl⟩
    rw [hd, beN_one]
    refine TL.back (by (focus ((repeat (first | assumption | exact Ent.refl _ | apply Ent.tail)); done))) ?_
    refine m_take (At.mk : At 9) ?_; refine m_take (At.mk : At 10) ?_; refine m_take (At.mk : At 11) ?_; refine m_take (At.mk : At 12) ?_; refine m_take (At.mk : At 13) ?_; refine m_take (At.mk : At 14) ?_; refine m_take (At.mk : At 15) ?_
    refine TA.done (by kernel_rfl) ?_
    by_cases hx : ch.toNat ≤ most
    · have hS : octS most l k = some (ch.toNat, k + 1) := by unfold octS; rw [hch]; exact if_pos hx
      refine m_run ?_
      refine TL.know (t := 28) (v := .bool true) (congrArg Value.bool (decide_eq_true (by rw [hw]; omega))) ?_
      (apply TL.callV; exact rfl; exact callB_of (by kernel_rfl); exact rfl; exact fun _ h => h)
      exact need_yes _
      rintro _ _ rfl
      refine m_run ?_
      refine TK.know (t := 4) (v := .int .i64 (ch.toNat : Int)) (congrArg (Value.int .i64) (i64_nat (by omega))) ?_
      (apply TK.ret1; exact rfl; exact rfl; (exact m_val))
      exact RP.got hS ⟨rfl, rfl⟩
    · have hS : octS most l k = none := by unfold octS; rw [hch]; exact if_neg hx
      refine m_run ?_
      refine TL.know (t := 28) (v := .bool false) (congrArg Value.bool (decide_eq_false (by rw [hw]; omega))) ?_
      (apply TL.callN; exact rfl; exact callB_of (by kernel_rfl); exact rfl; exact fun _ h => h; exact need_t false _; exact rfl; exact rfl)
      rintro _ rfl
      exact RP.lost hS ⟨k, Ent.refl _⟩
  · have hS : octS most l k = none := by unfold octS; rw [List.getElem?_eq_none (by omega)]
    obtain rfl : k = l.length := by omega
    refine m_run ?_
    refine TK.drawE mixed rfl (rdR r A l.length c l.length :: Γ) ?_
    refine m_take (At.mk : At 0) ?_; refine m_take (At.mk : At 1) ?_; refine m_take (At.mk : At 2) ?_; refine m_take (At.mk : At 3) ?_; refine m_take (At.mk : At 4) ?_; refine m_take (At.mk : At 5) ?_; refine m_take (At.mk : At 6) ?_; refine m_take (At.mk : At 7) ?_
    (apply TA.one 8; kernel_rfl; exact rfl)
    (apply TL.callV; exact rfl; exact callB_of (by kernel_rfl); exact rfl; exact fun _ h => h)
    exact take0_t A l.length c l _ (has_tls hs) hl
    rintro _ _ ⟨rfl, rfl⟩
    refine TL.back (by (focus ((repeat (first | assumption | exact Ent.refl _ | apply Ent.tail)); done))) ?_
    refine m_take (At.mk : At 9) ?_; refine m_take (At.mk : At 10) ?_; refine m_take (At.mk : At 11) ?_; refine m_take (At.mk : At 12) ?_; refine m_take (At.mk : At 13) ?_; refine m_take (At.mk : At 14) ?_; refine m_take (At.mk : At 15) ?_
    refine TA.done (by kernel_rfl) ?_
    refine m_run ?_
    (apply TL.callN; exact rfl; exact callB_of (by kernel_rfl); exact rfl; exact fun _ h => h; exact need_t false _; exact rfl; exact rfl)
    rintro _ rfl
    exact RP.lost hS ⟨l.length, Ent.refl _⟩
set_option maxRecDepth 100000 in
theorem rsymbol_t (r : Nat) (A : Option Addr) (c k : Nat) (l : List UInt8) (Γ : List HP) (hs : has Γ (srcAt 1 A l.length (bytesV l))) (hc : l.length ≤ c) (hl : l.length ≤ 1000000000) :
    Fn Try.prog 65 [.pointer (some ⟨r, 0, none⟩)] (rdR r A l.length c k :: Γ) (RP (numS 4294967295 l k) (fun x k' v Γ' => v = .int .u32 (x : Int) ∧ Γ' = rdR r A l.length c k' :: Γ) (panR r A l.length c Γ)) := by
  refine Fn.enter Try.func65 rfl rfl rfl fun E => ?_
  cases ho : numS 4294967295 l k with
  | none =>
    refine m_run ?_
    (apply TL.callN; exact rfl; exact callB_of (by kernel_rfl); exact rfl; exact fun _ h => h; exact rnumber_t r A c 4294967295 k l _ hs hc hl; exact ho; exact rfl)
    intro Γ' h
    exact RP.lost rfl h
  | some z =>
    obtain ⟨n, k'⟩ := z
    obtain ⟨hn, hk'⟩ := numS_le ho
    refine m_run ?_
    (apply TL.callV; exact rfl; exact callB_of (by kernel_rfl); exact rfl; exact fun _ h => h)
    exact (rnumber_t r A c 4294967295 k l _ hs hc hl).got ho
    rintro _ _ ⟨rfl, rfl⟩
    refine m_run ?_
    refine TK.know (t := 2) (v := .int .u32 (n : Int)) (congrArg (Value.int .u32) (u32_nat (by omega))) ?_
    (apply TK.ret1; exact rfl; exact rfl; (exact m_val))
    exact RP.got rfl ⟨rfl, rfl⟩
set_option maxRecDepth 100000 in
theorem rflag_t (r : Nat) (A : Option Addr) (c k : Nat) (l : List UInt8) (Γ : List HP) (hs : has Γ (srcAt 1 A l.length (bytesV l))) (hc : l.length ≤ c) (hl : l.length ≤ 1000000000) (hk : k ≤ l.length) :
    Fn Try.prog 77 [.pointer (some ⟨r, 0, none⟩)] (rdR r A l.length c k :: Γ) (RP (octS 1 l k) (fun x k' v Γ' => v = .bool (x == 1) ∧ Γ' = rdR r A l.length c k' :: Γ) (panR r A l.length c Γ)) := by
  refine Fn.enter Try.func77 rfl rfl rfl fun E => ?_
  cases ho : octS 1 l k with
  | none =>
    refine m_run ?_
    (apply TL.callN; exact rfl; exact callB_of (by kernel_rfl); exact rfl; exact fun _ h => h; exact roctet_t r A c 1 k l _ hs hc hl hk (by decide); exact ho; exact rfl)
    intro Γ' h
    exact RP.lost rfl h
  | some z =>
    obtain ⟨n, k'⟩ := z
    refine m_run ?_
    (apply TL.callV; exact rfl; exact callB_of (by kernel_rfl); exact rfl; exact fun _ h => h)
    exact (roctet_t r A c 1 k l _ hs hc hl hk (by decide)).got ho
    rintro _ _ ⟨rfl, rfl⟩
    refine m_run ?_
    refine TK.know (t := 2) (v := .bool (n == 1)) (congrArg Value.bool one_b) ?_
    (apply TK.ret1; exact rfl; exact rfl; (exact m_val))
    exact RP.got rfl ⟨rfl, rfl⟩
set_option maxRecDepth 100000 in
theorem rterm_t2 (r : Nat) (A : Option Addr) (c k : Nat) (l : List UInt8) (Γ : List HP) (hs : has Γ (srcAt 1 A l.length (bytesV l))) (hc : l.length ≤ c) (hl : l.length ≤ 1000000000) :
    Fn Try.prog 114 [.pointer (some ⟨r, 0, none⟩)] (rdR r A l.length c k :: Γ) (RP (termS l k) (fun x k' v Γ' => v = .agg (tmC x).toArray ∧ Γ' = rdR r A l.length c k' :: Γ) (panR r A l.length c Γ)) := by
  refine Fn.enter Try.func114 rfl rfl rfl fun E => ?_
  cases ho : numS 8589934591 l k with
  | none =>
    refine m_run ?_
    (apply TL.alloc; exact rfl; exact tb rfl; (exact m_lst))
    intro b2
    refine TL.perm (List.Perm.swap _ _ _) ?_
    refine m_run ?_
    (apply TL.callN; exact rfl; exact callB_of (by kernel_rfl); exact rfl; exact fun _ h => h; exact rnumber_t r A c 8589934591 k l _ (has_tls hs) hc hl; exact ho; exact rfl)
    intro Γ' h
    exact RP.lost (by unfold termS; rw [ho]; rfl) (h.sub (List.sublist_cons_self _ _))
  | some z =>
    obtain ⟨n, k'⟩ := z
    obtain ⟨hn, hk'⟩ := numS_le ho
    refine m_run ?_
    (apply TL.alloc; exact rfl; exact tb rfl; (exact m_lst))
    intro b2
    refine TL.perm (List.Perm.swap _ _ _) ?_
    refine m_run ?_
    (apply TL.callV; exact rfl; exact callB_of (by kernel_rfl); exact rfl; exact fun _ h => h)
    exact (rnumber_t r A c 8589934591 k l _ (has_tls hs) hc hl).got ho
    rintro _ _ ⟨rfl, rfl⟩
    refine m_run ?_
    refine TL.know (t := 8) (v := .bool (n % 2 == 1)) (congrArg Value.bool (odd_b n)) ?_
    refine TL.know (t := 11) (v := .int .u32 ((n / 2 : Nat) : Int)) (congrArg (Value.int .u32) (u32_nat (by omega))) ?_
    (apply TL.pv; exact rfl; (apply PV.build tabs; exact rfl; exact rfl; exact rfl; exact rfl; exact rfl; exact (rfl : _ = tmC (termOf n))))
    refine m_run ?_
    (apply TK.retRow (i := 1); exact rfl; exact rfl; exact rfl; exact rfl; exact tb rfl; exact rfl; (exact m_lst); exact rfl)
    · exact RP.got (by unfold termS; rw [ho]; rfl) ⟨rfl, rfl⟩
    · (repeat (first | exact List.Sublist.refl _ | apply List.Sublist.cons_cons | apply List.Sublist.cons))
end
section
/- The program's reader: atom, say: walked. -/
attribute [local irreducible] TK TL TQ TA TB Fn PV RP
theorem rep_app {α : Type} {f : Nat → Option (α × Nat)} {i k k1 k2 : Nat} {xs : List α} {x : α} (h : rep f i k = some (xs, k1)) (h' : f k1 = some (x, k2)) : rep f (i + 1) k = some (xs ++ [x], k2) := by rw [rep, h]; simp only [Option.bind_some]; rw [h']; rfl
theorem rep_stop {α : Type} {f : Nat → Option (α × Nat)} {i n k k1 : Nat} {xs : List α} (hi : i < n) (h : rep f i k = some (xs, k1)) (h' : f k1 = none) : rep f n k = none :=
  rep_none (show i + 1 ≤ n from hi) (by rw [rep, h]; simp only [Option.bind_some]; rw [h']; rfl)
theorem rep_all {α : Type} {f : Nat → Option (α × Nat)} {p : α → Prop} {m k : Nat} (hp : ∀ k x k', f k = some (x, k') → p x ∧ k' ≤ m) (hk : k ≤ m) : ∀ {n k' : Nat} {xs : List α}, rep f n k = some (xs, k') → (∀ x ∈ xs, p x) ∧ k' ≤ m
  | 0, k', xs, h => by rw [rep] at h; injection h with h; injection h with h1 h2; subst h1; subst h2; exact ⟨by simp, hk⟩
  | n + 1, k', xs, h => by
    rw [rep, Option.bind_eq_some_iff] at h
    obtain ⟨⟨ys, k1⟩, h1, h2⟩ := h
    rw [Option.map_eq_some_iff] at h2
    obtain ⟨⟨y, k2⟩, h3, h4⟩ := h2
    injection h4 with h4 h5
    have h6 := rep_all hp hk h1
    have h7 := hp _ _ _ h3
    refine ⟨fun x hx => ?_, by rw [← h5]; exact h7.2⟩
    rw [← h4] at hx
    rcases List.mem_append.1 hx with hx | hx
    · exact h6.1 x hx
    · rw [List.mem_singleton.1 hx]; exact h7.1
theorem termS_le {l : List UInt8} {k k' : Nat} {x : Tm} (h : termS l k = some (x, k')) : x.n ≤ 4294967295 ∧ k' ≤ l.length := by
  unfold termS at h
  rw [Option.map_eq_some_iff] at h
  obtain ⟨⟨n, k1⟩, h1, h2⟩ := h
  injection h2 with h2 h3
  have := numS_le h1
  subst h2; subst h3
  exact ⟨by show n / 2 ≤ _; omega, this.2⟩
theorem atmS_le {l : List UInt8} {k k' p : Nat} {xs : List Tm} (h : atmS l k = some ((p, xs), k')) : p ≤ 4294967295 ∧ (∀ x ∈ xs, x.n ≤ 4294967295) ∧ xs.length ≤ 6 ∧ k' ≤ l.length := by
  unfold atmS at h
  rw [Option.bind_eq_some_iff] at h
  obtain ⟨⟨p1, k1⟩, h1, h⟩ := h
  rw [Option.bind_eq_some_iff] at h
  obtain ⟨⟨n, k2⟩, h2, h⟩ := h
  rw [Option.map_eq_some_iff] at h
  obtain ⟨⟨ys, k3⟩, h3, h4⟩ := h
  injection h4 with h4 h5
  injection h4 with h6 h7
  subst h6; subst h7; subst h5
  have := rep_all (p := fun x : Tm => x.n ≤ 4294967295) (m := l.length) (fun _ _ _ h => termS_le h) (octS_le h2).2 h3
  exact ⟨(numS_le h1).1, this.1, by rw [rep_len h3]; exact (octS_le h2).1, this.2⟩
theorem sayS_le {l : List UInt8} {k k' p : Nat} {s : Bool} {w : Tm} {xs : List Tm} (h : sayS l k = some ((s, w, p, xs), k')) : w.n ≤ 4294967295 ∧ p ≤ 4294967295 ∧ (∀ x ∈ xs, x.n ≤ 4294967295) ∧ xs.length ≤ 6 ∧ k' ≤ l.length := by
  unfold sayS at h
  rw [Option.bind_eq_some_iff] at h
  obtain ⟨⟨b, k1⟩, h1, h⟩ := h
  rw [Option.bind_eq_some_iff] at h
  obtain ⟨⟨w1, k2⟩, h2, h⟩ := h
  rw [Option.map_eq_some_iff] at h
  obtain ⟨⟨⟨p1, ys⟩, k3⟩, h3, h4⟩ := h
  injection h4 with h4 h5
  injection h4 with h6 h7
  injection h7 with h7 h8
  injection h8 with h8 h9
  subst h7; subst h8; subst h9; subst h5
  obtain ⟨g1, g2, g3, g4⟩ := atmS_le h3
  refine ⟨?_, g1, g2, g3, g4⟩
  unfold whoS at h2
  split at h2
  · exact (termS_le h2).1
  · injection h2 with h2; injection h2 with h2 _; rw [← h2]; exact Nat.zero_le _
set_option maxRecDepth 100000 in
set_option maxHeartbeats 4000000 in
theorem ratom_t2 (r : Nat) (A : Option Addr) (c k : Nat) (l : List UInt8) (Γ : List HP) (hs : has Γ (srcAt 1 A l.length (bytesV l))) (hc : l.length ≤ c) (hl : l.length ≤ 1000000000) (hk : k ≤ l.length) :
    Fn Try.prog 76 [.pointer (some ⟨r, 0, none⟩)] (rdR r A l.length c k :: Γ) (RP (atmS l k) (fun x k' v Γ' => ∃ B kk, x.2.length ≤ kk ∧ v = .agg (Atm.cells ⟨x.1, B, kk, x.2⟩).toArray ∧ Γ' = rdR r A l.length c k' :: ownT B kk x.2 :: Γ) (panR r A l.length c Γ)) := by
  refine Fn.enter Try.func76 rfl rfl rfl fun E => ?_
  cases hp : numS 4294967295 l k with
  | none =>
    have hS : atmS l k = none := by unfold atmS; rw [hp]; rfl
    refine m_run ?_
    (apply TL.alloc; exact rfl; exact tb rfl; (exact m_lst))
    intro b2
    refine TL.perm (List.Perm.swap _ _ _) ?_
    refine m_run ?_
    (apply TL.callN; exact rfl; exact callB_of (by kernel_rfl); exact rfl; exact fun _ h => h; exact rsymbol_t r A c k l _ (has_tls hs) hc hl; exact hp; exact rfl)
    intro Γ' h
    exact RP.lost hS (h.sub (List.sublist_cons_self _ _))
  | some z =>
    obtain ⟨p, k1⟩ := z
    obtain ⟨hp1, hk1⟩ := numS_le hp
    refine m_run ?_
    (apply TL.alloc; exact rfl; exact tb rfl; (exact m_lst))
    intro b2
    refine TL.perm (List.Perm.swap _ _ _) ?_
    refine m_run ?_
    (apply TL.callV; exact rfl; exact callB_of (by kernel_rfl); exact rfl; exact fun _ h => h)
    exact (rsymbol_t r A c k l _ (has_tls hs) hc hl).got hp
    rintro _ _ ⟨rfl, rfl⟩
    refine m_run ?_
    cases hn : octS 6 l k1 with
    | none =>
      have hS : atmS l k = none := by unfold atmS; rw [hp]; simp only [Option.bind_some]; rw [hn]; rfl
      (apply TL.callN; exact rfl; exact callB_of (by kernel_rfl); exact rfl; exact fun _ h => h; exact roctet_t r A c 6 k1 l _ (has_tls hs) hc hl hk1 (by decide); exact hn; exact rfl)
      intro Γ' h
      exact RP.lost hS (h.sub (List.sublist_cons_self _ _))
    | some z =>
      obtain ⟨n, k2⟩ := z
      obtain ⟨hn6, hk2⟩ := octS_le hn
      have hSe : ∀ {xs k3}, rep (termS l) n k2 = some (xs, k3) → atmS l k = some ((p, xs), k3) := fun h => by unfold atmS; rw [hp]; simp only [Option.bind_some]; rw [hn]; simp only [Option.bind_some]; rw [h]; rfl
      have hSn : rep (termS l) n k2 = none → atmS l k = none := fun h => by unfold atmS; rw [hp]; simp only [Option.bind_some]; rw [hn]; simp only [Option.bind_some]; rw [h]; rfl
      (apply TL.callV; exact rfl; exact callB_of (by kernel_rfl); exact rfl; exact fun _ h => h)
      exact (roctet_t r A c 6 k1 l _ (has_tls hs) hc hl hk1 (by decide)).got hn
      rintro _ _ ⟨rfl, rfl⟩
      refine m_run ?_
      refine TK.free (H := ownT none 0 []) (fun m h => own_nil _ _ h) ?_
      refine TK.perm (List.Perm.swap _ _ _) ?_
      apply TK.iter (fun j ρ' Γ' => ∃ (i : Nat) (xs : List Tm) (k3 : Nat) (B : Option Addr) (kk : Nat), i + j = n ∧ xs.length = i ∧ xs.length ≤ kk ∧ k3 ≤ l.length ∧ rep (termS l) i k2 = some (xs, k3) ∧ lk ρ' 0 = .pointer (some ⟨r, 0, none⟩) ∧ lk ρ' 2 = .pointer (some ⟨b2, 0, none⟩) ∧ lk ρ' 7 = .int .i64 (n : Int) ∧ lk ρ' 8 = .int .i64 (i : Int) ∧ Γ' = rdR r A l.length c k3 :: ownT B kk xs :: row b2 [.int .u32 (p : Int), .slice B xs.length kk] 42 :: Γ) n
      · exact ⟨0, [], k2, none, 0, Nat.zero_add _, rfl, Nat.le_refl _, hk2, rfl, rfl, rfl, rfl, rfl, rfl⟩
      rintro j IH ρ' _ ⟨i, xs, k3, B, kk, hij, hxi, hkk, hk3, hrep, e0, e2, e7, e8, rfl⟩
      refine TK.know4 e0 e2 e7 e8 ?_
      by_cases hi : i < n
      · refine m_run ?_
        refine TK.drawB mixed rfl 7 (row b2 [.int .u32 (p : Int), .slice B xs.length kk] 42 :: Γ) Γ ?_
        refine m_bake (At.mk : At 0) ?_; refine m_bake (At.mk : At 1) ?_; refine m_bake (At.mk : At 2) ?_
        (apply TB.one 3; kernel_rfl; exact rfl; exact rfl)
        cases ht : termS l k3 with
        | none =>
          (apply TL.callN; exact rfl; exact callB_of (by kernel_rfl); exact rfl; exact fun _ h => h; exact rterm_t2 r A c k3 l _ (has_tls (has_tls hs)) hc hl; exact ht; exact rfl)
          intro Γ' h
          exact RP.lost (hSn (rep_stop hi hrep ht)) (h.sub (List.Sublist.cons _ (List.Sublist.cons _ (List.Sublist.refl _))))
        | some z =>
          obtain ⟨x, k4⟩ := z
          obtain ⟨hx, hk4⟩ := termS_le ht
          (apply TL.callV; exact rfl; exact callB_of (by kernel_rfl); exact rfl; exact fun _ h => h)
          exact (rterm_t2 r A c k3 l _ (has_tls (has_tls hs)) hc hl).got ht
          rintro _ _ ⟨rfl, rfl⟩
          refine TL.backB (by (focus ((repeat (first | assumption | exact Ent.refl _ | apply Ent.tail)); done))) ?_
          (apply TB.one 4; kernel_rfl; exact rfl; exact rfl)
          (apply TL.buildSlice (l := tmC x); exact rfl; exact tb rfl; exact rfl; exact tb rfl; exact rfl; exact rfl; exact rfl; exact rfl; exact rfl)
          intro b23
          refine TL.backB (by (focus ((repeat (first | assumption | exact Ent.refl _ | apply Ent.tail)); done))) ?_
          (apply TB.one 5; kernel_rfl; exact rfl; exact rfl)
          (apply TL.append 2; exact rfl; exact rfl; exact tb rfl; exact rfl; exact tb rfl; exact rfl; exact rfl; exact rfl)
          · exact fun _ h => h
          · exact rfl
          · exact has_src_row 0 rfl rfl
          · exact one_of rfl
          · show (xs.length + 1) * 8 ≤ _; omega
          · show xs.length + 1 ≤ maxLen; unfold maxLen; omega
          · exact fun _ => (rfl : _ = _ :: _ :: _ :: _)
          intro B' kk' hkk'
          rw [tmsC_snoc]
          refine TL.backB (by (focus ((repeat (first | assumption | exact Ent.refl _ | apply Ent.tail)); done))) ?_
          refine m_bake (At.mk : At 6) ?_
          (apply TB.last; kernel_rfl; exact rfl)
          refine m_rrun ?_
          refine TL.back (by (focus ((repeat (first | assumption | exact Ent.refl _ | apply Ent.tail)); done))) ?_
          refine TA.done (by kernel_rfl) ?_
          refine m_run ?_
          refine TK.drop ?_
          have hxl : (xs ++ [x]).length = xs.length + 1 := by simp
          exact IH (j - 1) _ _ (by omega) ⟨i + 1, xs ++ [x], k4, B', kk', by omega, by omega, by omega, hk4, rep_app hrep ht, rfl, rfl, rfl, congrArg (Value.int .i64) (i64_succ i (by omega)), by rw [← hxl]⟩
      obtain rfl : i = n := by omega
      refine m_run ?_
      refine TK.imp (Δ := rdR r A l.length c k3 :: ownT B kk xs :: row b2 (Atm.cells ⟨p, B, kk, xs⟩) 42 :: Γ) (fun _ h => h) ?_
      (apply TK.retRow (i := 2); exact rfl; exact rfl; exact rfl; exact rfl; exact tb rfl; exact rfl; (exact m_lst); exact rfl)
      · exact RP.got (hSe hrep) ⟨B, kk, hkk, rfl, rfl⟩
      · (repeat (first | exact List.Sublist.refl _ | apply List.Sublist.cons_cons | apply List.Sublist.cons))
set_option maxRecDepth 100000 in
set_option maxHeartbeats 4000000 in
theorem rsay_t2 (r : Nat) (A : Option Addr) (c k : Nat) (l : List UInt8) (Γ : List HP) (hs : has Γ (srcAt 1 A l.length (bytesV l))) (hc : l.length ≤ c) (hl : l.length ≤ 1000000000) (hk : k ≤ l.length) :
    Fn Try.prog 88 [.pointer (some ⟨r, 0, none⟩)] (rdR r A l.length c k :: Γ) (RP (sayS l k) (fun x k' v Γ' => ∃ B kk, x.2.2.2.length ≤ kk ∧ v = .agg (Sy.cells ⟨x.1, x.2.1, ⟨x.2.2.1, B, kk, x.2.2.2⟩⟩).toArray ∧ Γ' = rdR r A l.length c k' :: ownT B kk x.2.2.2 :: Γ) (panR r A l.length c Γ)) := by
  refine Fn.enter Try.func88 rfl rfl rfl fun E => ?_
  refine m_run ?_
  (apply TL.alloc; exact rfl; exact tb rfl; (exact m_lst))
  intro b2
  refine TL.perm (List.Perm.swap _ _ _) ?_
  refine TL.imp (Δ := rdR r A l.length c k :: row b2 [.bool false, .bool false, .int .u32 0, .int .u32 0, .slice none 0 0] 56 :: Γ) (fun _ h => h) ?_
  refine m_run ?_
  cases ho : octS 1 l k with
  | none =>
    (apply TL.callN; exact rfl; exact callB_of (by kernel_rfl); exact rfl; exact fun _ h => h; exact rflag_t r A c k l _ (has_tls hs) hc hl hk; exact ho; exact rfl)
    intro Γ' h
    exact RP.lost (by unfold sayS; rw [ho]; rfl) (h.sub (List.sublist_cons_self _ _))
  | some z =>
    obtain ⟨b, k1⟩ := z
    obtain ⟨hb, hk1⟩ := octS_le ho
    (apply TL.callV; exact rfl; exact callB_of (by kernel_rfl); exact rfl; exact fun _ h => h)
    exact (rflag_t r A c k l _ (has_tls hs) hc hl hk).got ho
    rintro _ _ ⟨rfl, rfl⟩
    by_cases hb1 : b = 1
    · subst hb1
      refine m_run ?_
      cases hw : termS l k1 with
      | none =>
        (apply TL.callN; exact rfl; exact callB_of (by kernel_rfl); exact rfl; exact fun _ h => h; exact rterm_t2 r A c k1 l _ (has_tls hs) hc hl; exact hw; exact rfl)
        intro Γ' h
        exact RP.lost (by unfold sayS; rw [ho]; simp only [Option.bind_some, whoS, if_true]; rw [hw]; rfl) (h.sub (List.sublist_cons_self _ _))
      | some z =>
        obtain ⟨w, k2⟩ := z
        obtain ⟨hwn, hk2⟩ := termS_le hw
        (apply TL.callV; exact rfl; exact callB_of (by kernel_rfl); exact rfl; exact fun _ h => h)
        exact (rterm_t2 r A c k1 l _ (has_tls hs) hc hl).got hw
        rintro _ _ ⟨rfl, rfl⟩
        refine m_run ?_
        refine TL.imp (Δ := rdR r A l.length c k2 :: row b2 [.bool true, .bool w.v, .int .u32 (w.n : Int), .int .u32 0, .slice none 0 0] 56 :: Γ) (fun _ h => h) ?_
        refine m_run ?_
        cases ha : atmS l k2 with
        | none =>
          (apply TL.callN; exact rfl; exact callB_of (by kernel_rfl); exact rfl; exact fun _ h => h; exact ratom_t2 r A c k2 l _ (has_tls hs) hc hl hk2; exact ha; exact rfl)
          intro Γ' h
          exact RP.lost (by unfold sayS; rw [ho]; simp only [Option.bind_some, whoS, if_true]; rw [hw]; simp only [Option.bind_some]; rw [ha]; rfl) (h.sub (List.sublist_cons_self _ _))
        | some z =>
          obtain ⟨⟨p, xs⟩, k3⟩ := z
          (apply TL.callV; exact rfl; exact callB_of (by kernel_rfl); exact rfl; exact fun _ h => h)
          exact (ratom_t2 r A c k2 l _ (has_tls hs) hc hl hk2).got ha
          rintro _ _ ⟨B, kk, hkk, rfl, rfl⟩
          refine m_run ?_
          refine TK.imp (Δ := rdR r A l.length c k3 :: ownT B kk xs :: row b2 (Sy.cells ⟨true, w, ⟨p, B, kk, xs⟩⟩) 56 :: Γ) (fun _ h => h) ?_
          (apply TK.retRow (i := 2); exact rfl; exact rfl; exact rfl; exact rfl; exact tb rfl; exact rfl; (exact m_lst); exact rfl)
          · exact RP.got (x := (true, w, p, xs)) (k := k3) (by unfold sayS; rw [ho]; simp only [Option.bind_some, whoS, if_true]; rw [hw]; simp only [Option.bind_some]; rw [ha]; rfl) ⟨B, kk, hkk, rfl, rfl⟩
          · (repeat (first | exact List.Sublist.refl _ | apply List.Sublist.cons_cons | apply List.Sublist.cons))
    · obtain rfl : b = 0 := by omega
      refine m_run ?_
      cases ha : atmS l k1 with
      | none =>
        (apply TL.callN; exact rfl; exact callB_of (by kernel_rfl); exact rfl; exact fun _ h => h; exact ratom_t2 r A c k1 l _ (has_tls hs) hc hl hk1; exact ha; exact rfl)
        intro Γ' h
        exact RP.lost (by unfold sayS; rw [ho]; simp only [Option.bind_some, whoS]; rw [if_neg (by decide)]; simp only [Option.bind_some]; rw [ha]; rfl) (h.sub (List.sublist_cons_self _ _))
      | some z =>
        obtain ⟨⟨p, xs⟩, k3⟩ := z
        (apply TL.callV; exact rfl; exact callB_of (by kernel_rfl); exact rfl; exact fun _ h => h)
        exact (ratom_t2 r A c k1 l _ (has_tls hs) hc hl hk1).got ha
        rintro _ _ ⟨B, kk, hkk, rfl, rfl⟩
        refine m_run ?_
        refine TK.imp (Δ := rdR r A l.length c k3 :: ownT B kk xs :: row b2 (Sy.cells ⟨false, ⟨false, 0⟩, ⟨p, B, kk, xs⟩⟩) 56 :: Γ) (fun _ h => h) ?_
        (apply TK.retRow (i := 2); exact rfl; exact rfl; exact rfl; exact rfl; exact tb rfl; exact rfl; (exact m_lst); exact rfl)
        · exact RP.got (x := (false, ⟨false, 0⟩, p, xs)) (k := k3) (by unfold sayS; rw [ho]; simp only [Option.bind_some, whoS]; rw [if_neg (by decide)]; simp only [Option.bind_some]; rw [ha]; rfl) ⟨B, kk, hkk, rfl, rfl⟩
        · (repeat (first | exact List.Sublist.refl _ | apply List.Sublist.cons_cons | apply List.Sublist.cons))
end
end Go.Proofs.Ytokggdgagfmacaa.E
