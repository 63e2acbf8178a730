/- What bytes say: the plain law; the document's taker, TakeFact: walked. -/
import Derived.Test.YtokggdgagfmacaaXd
namespace Go.Proofs.Ytokggdgagfmacaa.E
open Go Go.RowKit Go.Proofs
section
/- What bytes say: the plain law of readers, as both packages read. No program in sight. -/
theorem takeV_le {l : List UInt8} {at_ : Int} {n next e : Nat} (h : takeV l at_ = (n, next, e)) (he : e = 0) : n < 18446744073709551616 ∧ next ≤ l.length := by
  subst he
  unfold takeV at h
  split at h
  · rename_i hat
    split at h
    · rename_i v j hs
      injection h with h1 h2
      injection h2 with h2 _
      obtain ⟨h3, h4, h5⟩ := scanP_iff.1 hs
      have h6 : (varM v).length = min j (l.drop at_.toNat).length := by rw [h5, List.length_take]
      rw [List.length_drop] at h6
      exact ⟨by omega, by omega⟩
    · injection h with _ h; injection h with _ h; cases h
  · injection h with _ h; injection h with _ h; cases h
theorem takeV_lt {l : List UInt8} {at_ : Int} {n next e : Nat} (h : takeV l at_ = (n, next, e)) : n < 18446744073709551616 ∧ next ≤ l.length ∧ e ≤ 5 := by
  by_cases he : e = 0
  · obtain ⟨h1, h2⟩ := takeV_le h he
    exact ⟨h1, h2, by omega⟩
  · unfold takeV at h
    split at h
    · split at h
      · injection h with _ h; injection h with _ h; exact absurd h.symm he
      · injection h with h1 h; injection h with h2 h3; exact ⟨by omega, by omega, by omega⟩
    · injection h with h1 h; injection h with h2 h3; exact ⟨by omega, by omega, by omega⟩
def numS (most : Nat) (l : List UInt8) (k : Nat) : Option (Nat × Nat) := if (takeV l (k : Int)).2.2 = 0 ∧ (takeV l (k : Int)).1 ≤ most then some ((takeV l (k : Int)).1, (takeV l (k : Int)).2.1) else none
def octS (most : Nat) (l : List UInt8) (k : Nat) : Option (Nat × Nat) := match l[k]? with
  | some c => if c.toNat ≤ most then some (c.toNat, k + 1) else none
  | none => none
def termOf (n : Nat) : Tm := ⟨n % 2 == 1, n / 2⟩
def termS (l : List UInt8) (k : Nat) : Option (Tm × Nat) := (numS 8589934591 l k).map fun z => (termOf z.1, z.2)
def rep {α : Type} (f : Nat → Option (α × Nat)) : Nat → Nat → Option (List α × Nat)
  | 0, k => some ([], k)
  | n + 1, k => (rep f n k).bind fun z => (f z.2).map fun y => (z.1 ++ [y.1], y.2)
def fctS (l : List UInt8) (k : Nat) : Option ((Nat × List Nat) × Nat) := (numS 4294967295 l k).bind fun p => (octS 6 l p.2).bind fun n => (rep (numS 4294967295 l) n.1 n.2).map fun x => ((p.1, x.1), x.2)
abbrev PA := Nat × List Tm
def atmS (l : List UInt8) (k : Nat) : Option (PA × Nat) := (numS 4294967295 l k).bind fun p => (octS 6 l p.2).bind fun n => (rep (termS l) n.1 n.2).map fun x => ((p.1, x.1), x.2)
def litS (l : List UInt8) (k : Nat) : Option ((Bool × PA) × Nat) := (octS 1 l k).bind fun b => (atmS l b.2).map fun a => ((b.1 == 1, a.1), a.2)
def clS (l : List UInt8) (k : Nat) : Option ((PA × List (Bool × PA)) × Nat) := (atmS l k).bind fun h => (octS 8 l h.2).bind fun n => (rep (litS l) n.1 n.2).map fun x => ((h.1, x.1), x.2)
abbrev PY := Bool × Tm × PA
def whoS (b : Nat) (l : List UInt8) (k : Nat) : Option (Tm × Nat) := if b = 1 then termS l k else some (⟨false, 0⟩, k)
def sayS (l : List UInt8) (k : Nat) : Option (PY × Nat) := (octS 1 l k).bind fun b => (whoS b.1 l b.2).bind fun w => (atmS l w.2).map fun a => ((b.1 == 1, w.1, a.1), a.2)
def cdS (l : List UInt8) (k : Nat) : Option ((Bool × PY) × Nat) := (octS 1 l k).bind fun b => (sayS l b.2).map fun a => ((b.1 == 1, a.1), a.2)
def rlS (l : List UInt8) (k : Nat) : Option ((PY × List (Bool × PY)) × Nat) := (sayS l k).bind fun h => (octS 8 l h.2).bind fun n => (rep (cdS l) n.1 n.2).map fun x => ((h.1, x.1), x.2)
/-- A reader that notes what was bad. -/
def Tk {α : Type} (o : Option (α × Nat)) (bad : Bool) (x : α) (k : Nat) (bad' : Bool) : Prop := if bad then bad' = true else match o with
  | some (y, k2) => bad' = false ∧ x = y ∧ k = k2
  | none => bad' = true
theorem Tk.bind {α β : Type} {o : Option (α × Nat)} {g : α × Nat → Option (β × Nat)} {bad b1 b2 : Bool} {x : α} {k1 k2 : Nat} {y : β} (h : Tk o bad x k1 b1) (h' : Tk (g (x, k1)) b1 y k2 b2) : Tk (o.bind g) bad y k2 b2 := by
  unfold Tk at *
  cases bad with
  | true => simp only [if_true] at h ⊢; subst h; simpa using h'
  | false =>
    simp only [Bool.false_eq_true, if_false] at h ⊢
    cases o with
    | none => simp only at h; subst h; simpa using h'
    | some z =>
      obtain ⟨z1, z2⟩ := z
      simp only at h
      obtain ⟨rfl, rfl, rfl⟩ := h
      simpa using h'
theorem Tk.map {α β : Type} {o : Option (α × Nat)} {g : α × Nat → β × Nat} {bad b1 : Bool} {x : α} {k k' : Nat} {y : β} (h : Tk o bad x k b1) (hg : g (x, k) = (y, k')) : Tk (o.map g) bad y k' b1 := by
  unfold Tk at *
  cases bad with
  | true => simpa using h
  | false =>
    simp only [Bool.false_eq_true, if_false] at h ⊢
    cases o with
    | none => simpa using h
    | some z =>
      obtain ⟨z1, z2⟩ := z
      simp only at h
      obtain ⟨rfl, rfl, rfl⟩ := h
      simp [hg]
theorem Tk.rep0 {α : Type} (f : Nat → Option (α × Nat)) (k : Nat) (bad : Bool) : Tk (rep f 0 k) bad [] k bad := by
  unfold Tk; cases bad <;> simp [rep]
theorem Tk.rep1 {α : Type} {f : Nat → Option (α × Nat)} {i k k1 k2 : Nat} {bad b1 b2 : Bool} {xs : List α} {x : α} (h : Tk (rep f i k) bad xs k1 b1) (h' : Tk (f k1) b1 x k2 b2) : Tk (rep f (i + 1) k) bad (xs ++ [x]) k2 b2 :=
  Tk.bind h (Tk.map h' rfl)
theorem rep_none {α : Type} {f : Nat → Option (α × Nat)} {k : Nat} : ∀ {n i : Nat}, i ≤ n → rep f i k = none → rep f n k = none
  | 0, i, hi, h => by
    obtain rfl : i = 0 := by omega
    exact h
  | n + 1, i, hi, h => by
    by_cases he : i = n + 1
    · rw [← he]; exact h
    · rw [rep, rep_none (show i ≤ n by omega) h]; rfl
theorem rep_len {α : Type} {f : Nat → Option (α × Nat)} {k : Nat} : ∀ {n k' : Nat} {xs : List α}, rep f n k = some (xs, k') → xs.length = n
  | 0, k', xs, h => by rw [rep] at h; injection h with h; injection h with h _; rw [← h]; rfl
  | n + 1, k', xs, h => by
    rw [rep, Option.bind_eq_some_iff] at h
    obtain ⟨⟨ys, k1⟩, h1, h2⟩ := h
    rw [Option.map_eq_some_iff] at h2
    obtain ⟨⟨y, k2⟩, h3, h4⟩ := h2
    injection h4 with h4 _
    rw [← h4, List.length_append, rep_len h1]; rfl
theorem numS_le {most : Nat} {l : List UInt8} {k n k' : Nat} (h : numS most l k = some (n, k')) : n ≤ most ∧ k' ≤ l.length := by
  unfold numS at h
  obtain ⟨⟨v, next, e⟩, hT⟩ : ∃ x, takeV l (k : Int) = x := ⟨_, rfl⟩
  rw [hT] at h
  split at h
  · rename_i h1
    injection h with h; injection h with h2 h3
    have := takeV_lt hT
    exact ⟨h2 ▸ h1.2, h3 ▸ this.2.1⟩
  · cases h
theorem octS_le {most : Nat} {l : List UInt8} {k n k' : Nat} (h : octS most l k = some (n, k')) : n ≤ most ∧ k' ≤ l.length := by
  unfold octS at h
  split at h
  · rename_i c hc
    split at h
    · rename_i h1
      injection h with h; injection h with h2 h3
      have := (List.getElem?_eq_some_iff.1 hc).1
      exact ⟨by omega, by omega⟩
    · cases h
  · cases h
end
section
/- The document's taker: number, octet, term, over: walked. -/
attribute [local irreducible] TK TL TQ TA TB Fn PV
theorem odd_b (n : Nat) : (((n % 2 : Nat) : Int) == 1) = (n % 2 == 1) := by rcases Nat.mod_two_eq_zero_or_one n with h | h <;> rw [h] <;> rfl
abbrev tkR (t : Nat) (A : Option Addr) (n c k : Nat) (bad : Bool) : HP := row t [.slice A n c, .int .i64 (k : Int), .bool bad] 102
set_option maxRecDepth 100000 in
set_option maxHeartbeats 1000000 in
theorem tnumber_t (t : Nat) (A : Option Addr) (c most k : Nat) (l : List UInt8) (bad : Bool) (Γ : List HP) (hs : has Γ (srcAt 1 A l.length (bytesV l))) (hc : l.length ≤ c) (hl : l.length ≤ 1000000000) (hk : k ≤ l.length) :
    FnV Try.prog 67 [.pointer (some ⟨t, 0, none⟩), .int .u64 (most : Int)] (tkR t A l.length c k bad :: Γ) fun v Γ' => ∃ (x k' : Nat) (bad' : Bool), x ≤ most ∧ k' ≤ l.length ∧ Tk (numS most l k) bad x k' bad' ∧ v = .int .u64 (x : Int) ∧ Γ' = tkR t A l.length c k' bad' :: Γ := by
  refine Fn.enter Try.func67 rfl rfl rfl fun E => ?_
  refine m_run ?_
  refine TK.drawE mixed rfl (tkR t A l.length c k bad :: Γ) ?_
  refine m_take (At.mk : At 0) ?_; refine m_take (At.mk : At 1) ?_; refine m_take (At.mk : At 2) ?_; refine m_take (At.mk : At 3) ?_; refine m_take (At.mk : At 4) ?_; refine m_take (At.mk : At 5) ?_; refine m_take (At.mk : At 6) ?_; refine m_take (At.mk : At 7) ?_
  (apply TA.one 8; kernel_rfl; exact rfl)
  (apply TL.callV; exact rfl; exact callB_of (by kernel_rfl); exact rfl; exact fun _ h => h)
  exact reftakevar_t A l.length c l k _ (has_tls hs) hc hl
  rintro _ _ ⟨rfl, rfl⟩
  refine TL.back (by (focus ((repeat (first | assumption | exact Ent.refl _ | apply Ent.tail)); done))) ?_
  obtain ⟨⟨n, next, e⟩, hT⟩ : ∃ x, takeV l (k : Int) = x := ⟨_, rfl⟩
  obtain ⟨hn, hnext, he5⟩ := takeV_lt hT
  rw [show tkV (takeV l (k : Int)) = .tuple #[.int .u64 (n : Int), .int .i64 (next : Int), .int .i64 (e : Int)] by rw [hT]; rfl]
  refine m_take (At.mk : At 9) ?_; refine m_take (At.mk : At 10) ?_; refine m_take (At.mk : At 11) ?_; refine m_take (At.mk : At 12) ?_; refine m_take (At.mk : At 13) ?_; refine m_take (At.mk : At 14) ?_; refine m_take (At.mk : At 15) ?_
  refine TA.done (by kernel_rfl) ?_
  cases bad with
  | true =>
    refine m_run ?_
    (apply TK.ret1; exact rfl; exact rfl; (exact m_val))
    exact ⟨_, rfl, 0, k, true, Nat.zero_le _, hk, rfl, rfl, rfl⟩
  | false =>
    by_cases he : e = 0
    · subst he
      by_cases hm : n ≤ most
      · have hS : numS most l k = some (n, next) := by unfold numS; rw [hT]; exact if_pos ⟨rfl, hm⟩
        refine m_run ?_
        (apply TK.ret1; exact rfl; exact rfl; (exact m_val))
        exact ⟨_, rfl, n, next, false, hm, hnext, by rw [hS]; exact ⟨rfl, rfl, rfl⟩, rfl, rfl⟩
      · have hS : numS most l k = none := by unfold numS; rw [hT]; exact if_neg fun h => hm h.2
        refine m_run ?_
        (apply TK.ret1; exact rfl; exact rfl; (exact m_val))
        exact ⟨_, rfl, 0, k, true, Nat.zero_le _, hk, by rw [hS]; rfl, rfl, rfl⟩
    · have hS : numS most l k = none := by unfold numS; rw [hT]; exact if_neg fun h => he h.1
      refine m_run ?_
      (apply TK.ret1; exact rfl; exact rfl; (exact m_val))
      exact ⟨_, rfl, 0, k, true, Nat.zero_le _, hk, by rw [hS]; rfl, rfl, rfl⟩
set_option maxRecDepth 100000 in
set_option maxHeartbeats 1000000 in
theorem toctet_t (t : Nat) (A : Option Addr) (c most k : Nat) (l : List UInt8) (bad : Bool) (Γ : List HP) (hs : has Γ (srcAt 1 A l.length (bytesV l))) (hc : l.length ≤ c) (hl : l.length ≤ 1000000000) (hk : k ≤ l.length) :
    FnV Try.prog 68 [.pointer (some ⟨t, 0, none⟩), .int .i64 (most : Int)] (tkR t A l.length c k bad :: Γ) fun v Γ' => ∃ (x k' : Nat) (bad' : Bool), x ≤ most ∧ k' ≤ l.length ∧ Tk (octS most l k) bad x k' bad' ∧ v = .int .i64 (x : Int) ∧ Γ' = tkR t A l.length c k' bad' :: Γ := by
  refine Fn.enter Try.func68 rfl rfl rfl fun E => ?_
  cases bad with
  | true =>
    refine m_run ?_
    refine TK.drawE mixed rfl (tkR t A l.length c k true :: Γ) ?_
    refine m_take (At.mk : At 0) ?_; refine m_take (At.mk : At 1) ?_; refine m_take (At.mk : At 2) ?_; refine m_take (At.mk : At 3) ?_; refine m_take (At.mk : At 4) ?_; refine m_take (At.mk : At 5) ?_; refine m_take (At.mk : At 6) ?_; refine m_take (At.mk : At 7) ?_; refine m_take (At.mk : At 8) ?_; refine m_take (At.mk : At 9) ?_; refine m_take (At.mk : At 10) ?_; refine m_take (At.mk : At 11) ?_; refine m_take (At.mk : At 12) ?_; refine m_take (At.mk : At 13) ?_; refine m_take (At.mk : At 14) ?_; refine m_take (At.mk : At 15) ?_; refine m_take (At.mk : At 16) ?_; refine m_take (At.mk : At 17) ?_; refine m_take (At.mk : At 18) ?_; refine m_take (At.mk : At 19) ?_; refine m_take (At.mk : At 20) ?_; refine m_take (At.mk : At 21) ?_; refine m_take (At.mk : At 22) ?_; refine m_take (At.mk : At 23) ?_; refine m_take (At.mk : At 24) ?_; refine m_take (At.mk : At 25) ?_; refine m_take (At.mk : At 26) ?_; refine m_take (At.mk : At 27) ?_; refine m_take (At.mk : At 28) ?_; refine m_take (At.mk : At 29) ?_; refine m_take (At.mk : At 30) ?_
    refine TA.done (by kernel_rfl) ?_
    refine m_run ?_
    (apply TK.ret1; exact rfl; exact rfl; (exact m_val))
    exact ⟨_, rfl, 0, k, true, Nat.zero_le _, hk, rfl, rfl, rfl⟩
  | false =>
    by_cases hkl : k < l.length
    · obtain ⟨ch, hch⟩ : ∃ ch, l[k]? = some ch := ⟨l[k], List.getElem?_eq_getElem hkl⟩
      refine TK.mem fun m0 hm0 => ?_
      obtain ⟨b, o, rfl⟩ := src_some (has_tls hs m0 hm0) (by rw [bytesV_length]; omega)
      clear hm0 m0
      have hcell := has_byte hs hch
      have hc8 := ch.toNat_lt
      refine m_run ?_
      refine TK.drawE mixed rfl (tkR t (some ⟨b, o, none⟩) l.length c k false :: Γ) ?_
      refine m_take (At.mk : At 0) ?_; refine m_take (At.mk : At 1) ?_; refine m_take (At.mk : At 2) ?_; refine m_take (At.mk : At 3) ?_; refine m_take (At.mk : At 4) ?_; refine m_take (At.mk : At 5) ?_; refine m_take (At.mk : At 6) ?_; refine m_take (At.mk : At 7) ?_; refine m_take (At.mk : At 8) ?_; refine m_take (At.mk : At 9) ?_; refine m_take (At.mk : At 10) ?_; refine m_take (At.mk : At 11) ?_; refine m_take (At.mk : At 12) ?_; refine m_take (At.mk : At 13) ?_; refine m_take (At.mk : At 14) ?_
      refine TA.isF 19 rfl (decide_eq_false (by omega)) ?_
      refine m_take (At.mk : At 15) ?_; refine m_take (At.mk : At 16) ?_; refine m_take (At.mk : At 17) ?_; refine m_take (At.mk : At 18) ?_; refine m_take (At.mk : At 19) ?_; refine m_take (At.mk : At 20) ?_; refine m_take (At.mk : At 21) ?_; refine m_take (At.mk : At 22) ?_; refine m_take (At.mk : At 23) ?_; refine m_take (At.mk : At 24) ?_; refine m_take (At.mk : At 25) ?_; refine m_take (At.mk : At 26) ?_; refine m_take (At.mk : At 27) ?_
      refine TA.know (t := 32) (v := .int .i64 (ch.toNat : Int)) (congrArg (Value.int .i64) (i64_nat (by omega))) ?_
      refine m_take (At.mk : At 28) ?_; refine m_take (At.mk : At 29) ?_; refine m_take (At.mk : At 30) ?_
      refine TA.done (by kernel_rfl) ?_
      by_cases hm : ch.toNat ≤ most
      · have hS : octS most l k = some (ch.toNat, k + 1) := by unfold octS; rw [hch]; exact if_pos hm
        have hk1 : IntKind.i64.wrap ((k : Int) + 1) = ((k + 1 : Nat) : Int) := i64_succ k (by omega)
        refine m_run ?_
        refine TK.imp (Δ := tkR t (some ⟨b, o, none⟩) l.length c (k + 1) false :: Γ) (fun _ h => by show all (row t [.slice (some ⟨b, o, none⟩) l.length c, .int .i64 ((k + 1 : Nat) : Int), .bool false] 102 :: Γ) _; rw [← hk1]; exact h) ?_
        refine TK.drawE mixed rfl (tkR t (some ⟨b, o, none⟩) l.length c (k + 1) false :: Γ) ?_
        refine m_take (At.mk : At 0) ?_; refine m_take (At.mk : At 1) ?_; refine m_take (At.mk : At 2) ?_; refine m_take (At.mk : At 3) ?_; refine m_take (At.mk : At 4) ?_; refine m_take (At.mk : At 5) ?_; refine m_take (At.mk : At 6) ?_; refine m_take (At.mk : At 7) ?_; refine m_take (At.mk : At 8) ?_
        refine TA.know (t := 54) (v := .int .i64 (k : Int)) (congrArg (Value.int .i64) (by rw [i64_in (by omega) (by omega)]; omega)) ?_
        refine m_take (At.mk : At 9) ?_; refine m_take (At.mk : At 10) ?_; refine m_take (At.mk : At 11) ?_
        refine TA.know (t := 57) (v := .int .i64 (ch.toNat : Int)) (congrArg (Value.int .i64) (i64_nat (by omega))) ?_
        refine m_take (At.mk : At 12) ?_
        refine TA.done (by kernel_rfl) ?_
        refine m_run ?_
        (apply TK.ret1; exact rfl; exact rfl; (exact m_val))
        exact ⟨_, rfl, ch.toNat, k + 1, false, hm, by omega, by rw [hS]; exact ⟨rfl, rfl, rfl⟩, rfl, rfl⟩
      · have hS : octS most l k = none := by unfold octS; rw [hch]; exact if_neg hm
        refine m_run ?_
        (apply TK.ret1; exact rfl; exact rfl; (exact m_val))
        exact ⟨_, rfl, 0, k, true, Nat.zero_le _, hk, by rw [hS]; rfl, rfl, rfl⟩
    · have hS : octS most l k = none := by unfold octS; rw [List.getElem?_eq_none (by omega)]
      refine m_run ?_
      refine TK.drawE mixed rfl (tkR t A l.length c k false :: Γ) ?_
      refine m_take (At.mk : At 0) ?_; refine m_take (At.mk : At 1) ?_; refine m_take (At.mk : At 2) ?_; refine m_take (At.mk : At 3) ?_; refine m_take (At.mk : At 4) ?_; refine m_take (At.mk : At 5) ?_; refine m_take (At.mk : At 6) ?_; refine m_take (At.mk : At 7) ?_; refine m_take (At.mk : At 8) ?_; refine m_take (At.mk : At 9) ?_; refine m_take (At.mk : At 10) ?_; refine m_take (At.mk : At 11) ?_; refine m_take (At.mk : At 12) ?_; refine m_take (At.mk : At 13) ?_; refine m_take (At.mk : At 14) ?_
      refine TA.isT 19 rfl (decide_eq_true (by omega)) ?_
      refine m_take (At.mk : At 15) ?_; refine m_take (At.mk : At 16) ?_; refine m_take (At.mk : At 17) ?_; refine m_take (At.mk : At 18) ?_; refine m_take (At.mk : At 19) ?_; refine m_take (At.mk : At 20) ?_; refine m_take (At.mk : At 21) ?_; refine m_take (At.mk : At 22) ?_; refine m_take (At.mk : At 23) ?_; refine m_take (At.mk : At 24) ?_; refine m_take (At.mk : At 25) ?_; refine m_take (At.mk : At 26) ?_; refine m_take (At.mk : At 27) ?_; refine m_take (At.mk : At 28) ?_; refine m_take (At.mk : At 29) ?_; refine m_take (At.mk : At 30) ?_
      refine TA.done (by kernel_rfl) ?_
      refine m_run ?_
      (apply TK.ret1; exact rfl; exact rfl; (exact m_val))
      exact ⟨_, rfl, 0, k, true, Nat.zero_le _, hk, by rw [hS]; rfl, rfl, rfl⟩
set_option maxRecDepth 100000 in
theorem tover_t (t : Nat) (A : Option Addr) (n c k : Nat) (bad may : Bool) (Γ : List HP) :
    FnV Try.prog 69 [.pointer (some ⟨t, 0, none⟩), .bool may] (tkR t A n c k bad :: Γ) fun v Γ' => v = (if bad || !may then .tuple #[.int .i64 0, .int .i64 5] else .tuple #[.int .i64 (k : Int), .int .i64 0]) ∧ Γ' = tkR t A n c k bad :: Γ := by
  refine Fn.enter Try.func69 rfl rfl rfl fun E => ?_
  cases bad <;> cases may <;> (refine m_run ?_; (apply TK.ret2; exact rfl; exact rfl; (exact m_val); (exact m_val)); exact ⟨_, rfl, rfl, rfl⟩)
set_option maxRecDepth 100000 in
theorem tterm_t (t : Nat) (A : Option Addr) (c k : Nat) (l : List UInt8) (bad : Bool) (Γ : List HP) (hs : has Γ (srcAt 1 A l.length (bytesV l))) (hc : l.length ≤ c) (hl : l.length ≤ 1000000000) (hk : k ≤ l.length) :
    FnV Try.prog 115 [.pointer (some ⟨t, 0, none⟩)] (tkR t A l.length c k bad :: Γ) fun v Γ' => ∃ (x : Tm) (k' : Nat) (bad' : Bool), x.n ≤ 4294967295 ∧ k' ≤ l.length ∧ Tk (termS l k) bad x k' bad' ∧ v = .agg (tmC x).toArray ∧ Γ' = tkR t A l.length c k' bad' :: Γ := by
  refine Fn.enter Try.func115 rfl rfl rfl fun E => ?_
  refine m_run ?_
  (apply TL.alloc; exact rfl; exact tb rfl; (exact m_lst))
  intro b2
  refine TL.perm (List.Perm.swap _ _ _) ?_
  refine m_run ?_
  (apply TL.callV; exact rfl; exact callB_of (by kernel_rfl); exact rfl; exact fun _ h => h)
  exact tnumber_t t A c 8589934591 k l bad _ (has_tls hs) hc hl hk
  rintro _ _ ⟨n, k', bad', hn, hk', hT, rfl, rfl⟩
  refine m_run ?_
  refine TL.know (t := 8) (v := .bool (n % 2 == 1)) (congrArg Value.bool (odd_b n)) ?_
  refine TL.know (t := 11) (v := .int .u32 ((n / 2 : Nat) : Int)) (congrArg (Value.int .u32) (by rw [show (n : Int).tdiv 2 = ((n / 2 : Nat) : Int) from rfl, u64_nat (by omega)]; exact u32_nat (by omega))) ?_
  (apply TL.pv; exact rfl; (apply PV.build tabs; exact rfl; exact rfl; exact rfl; exact rfl; exact rfl; exact (rfl : _ = tmC (termOf n))))
  refine m_run ?_
  (apply TK.retRow (i := 1); exact rfl; exact rfl; exact rfl; exact rfl; exact tb rfl; exact rfl; (exact m_lst); exact rfl)
  · exact ⟨_, rfl, termOf n, k', bad', by show n / 2 ≤ _; omega, hk', Tk.map hT rfl, rfl, rfl⟩
  · (repeat (first | exact List.Sublist.refl _ | apply List.Sublist.cons_cons | apply List.Sublist.cons))
end
section
/- The document's taker: atom, say: walked. -/
attribute [local irreducible] TK TL TQ TA TB Fn PV
abbrev ownT (B : Option Addr) (kk : Nat) (xs : List Tm) : HP := own 54 2 (.slice B xs.length kk) xs.length (tmsC xs)
theorem tmsC_snoc (l : List Tm) (x : Tm) : tmsC l ++ tmC x = tmsC (l ++ [x]) := by simp [tmsC]
set_option maxRecDepth 100000 in
set_option maxHeartbeats 2000000 in
theorem tatom_t (t : Nat) (A : Option Addr) (c k : Nat) (l : List UInt8) (bad : Bool) (Γ : List HP) (hs : has Γ (srcAt 1 A l.length (bytesV l))) (hc : l.length ≤ c) (hl : l.length ≤ 1000000000) (hk : k ≤ l.length) :
    FnV Try.prog 79 [.pointer (some ⟨t, 0, none⟩)] (tkR t A l.length c k bad :: Γ) fun v Γ' => ∃ (p : Nat) (xs : List Tm) (k' : Nat) (bad' : Bool) (B : Option Addr) (kk : Nat), p ≤ 4294967295 ∧ (∀ x ∈ xs, x.n ≤ 4294967295) ∧ xs.length ≤ 6 ∧ xs.length ≤ kk ∧ k' ≤ l.length ∧ Tk (atmS l k) bad (p, xs) k' bad' ∧ v = .agg (Atm.cells ⟨p, B, kk, xs⟩).toArray ∧ Γ' = tkR t A l.length c k' bad' :: ownT B kk xs :: Γ := by
  refine Fn.enter Try.func79 rfl rfl rfl fun E => ?_
  refine m_run ?_
  (apply TL.alloc; exact rfl; exact tb rfl; (exact m_lst))
  intro b2
  refine TL.perm (List.Perm.swap _ _ _) ?_
  refine m_run ?_
  (apply TL.callV; exact rfl; exact callB_of (by kernel_rfl); exact rfl; exact fun _ h => h)
  exact tnumber_t t A c 4294967295 k l bad _ (has_tls hs) hc hl hk
  rintro _ _ ⟨p, k1, bad1, hp, hk1, hT1, rfl, rfl⟩
  refine m_run ?_
  refine TL.know (t := 9) (v := .int .u32 (p : Int)) (congrArg (Value.int .u32) (u32_nat (by omega))) ?_
  (apply TL.pv; exact rfl; (apply PV.build tabs; exact rfl; exact rfl; exact rfl; exact rfl; exact rfl; exact (rfl : _ = [Value.int .u32 (p : Int), .slice none 0 0])))
  (apply TL.alloc; exact rfl; exact tb rfl; exact (rfl : _ = [_, _]))
  intro b3
  refine TL.perm (List.Perm.swap _ _ _) ?_
  refine m_run ?_
  (apply TL.callV; exact rfl; exact callB_of (by kernel_rfl); exact rfl; exact fun _ h => h)
  exact toctet_t t A c 6 k1 l bad1 _ (has_tls (has_tls hs)) hc hl hk1
  rintro _ _ ⟨n, k2, bad2, hn, hk2, hT2, rfl, rfl⟩
  refine m_run ?_
  refine TK.imp (Δ := tkR t A l.length c k2 bad2 :: row b3 [.int .u32 (p : Int), .slice none 0 0] 42 :: row b2 [.int .u32 0, .slice none 0 0] 42 :: Γ) (fun _ h => h) ?_
  refine TK.free (H := ownT none 0 []) (fun m h => own_nil _ _ h) ?_
  refine TK.perm (List.Perm.swap _ _ _) ?_
  apply TK.iter (fun j ρ' Γ' => ∃ (i : Nat) (xs : List Tm) (k3 : Nat) (bad3 : Bool) (B : Option Addr) (kk : Nat), i + j = n ∧ xs.length = i ∧ (∀ x ∈ xs, x.n ≤ 4294967295) ∧ xs.length ≤ kk ∧ k3 ≤ l.length ∧ Tk (rep (termS l) i k2) bad2 xs k3 bad3 ∧ lk ρ' 0 = .pointer (some ⟨t, 0, none⟩) ∧ lk ρ' 2 = .pointer (some ⟨b2, 0, none⟩) ∧ lk ρ' 3 = .pointer (some ⟨b3, 0, none⟩) ∧ lk ρ' 4 = .int .i64 (n : Int) ∧ lk ρ' 5 = .int .i64 (i : Int) ∧ Γ' = tkR t A l.length c k3 bad3 :: ownT B kk xs :: row b3 [.int .u32 (p : Int), .slice B xs.length kk] 42 :: row b2 [.int .u32 0, .slice none 0 0] 42 :: Γ) n
  · exact ⟨0, [], k2, bad2, none, 0, Nat.zero_add _, rfl, by simp, Nat.le_refl _, hk2, Tk.rep0 _ _ _, rfl, rfl, rfl, rfl, rfl, rfl⟩
  rintro j IH ρ' _ ⟨i, xs, k3, bad3, B, kk, hij, hxi, hxs, hkk, hk3, hT3, e0, e2, e3, e4, e5, rfl⟩
  refine TK.know5 e0 e2 e3 e4 e5 ?_
  by_cases hi : i < n
  · refine m_run ?_
    (apply TL.callV; exact rfl; exact callB_of (by kernel_rfl); exact rfl; exact fun _ h => h)
    exact tterm_t t A c k3 l bad3 _ (has_tls (has_tls (has_tls hs))) hc hl hk3
    rintro _ _ ⟨x, k4, bad4, hx, hk4, hT4, rfl, rfl⟩
    refine m_run ?_
    (apply TL.alloc; exact rfl; exact tb rfl; (exact m_lst))
    intro b6
    refine m_run ?_
    refine TL.imp (Δ := row b6 (tmC x) 54 :: tkR t A l.length c k4 bad4 :: ownT B kk xs :: row b3 [.int .u32 (p : Int), .slice B xs.length kk] 42 :: row b2 [.int .u32 0, .slice none 0 0] 42 :: Γ) (fun _ h => h) ?_
    refine m_run ?_
    (apply TL.buildSlice (l := tmC x); exact rfl; exact tb rfl; exact rfl; exact tb rfl; exact rfl; exact rfl; exact rfl; exact rfl; exact rfl)
    intro b23
    refine m_run ?_
    (apply TL.append 3; exact rfl; exact rfl; exact tb rfl; exact rfl; exact tb rfl; exact rfl; exact rfl; exact rfl)
    · exact fun _ h => h
    · exact rfl
    · exact has_src_row 0 rfl rfl
    · exact one_of rfl
    · show (xs.length + 1) * 8 ≤ _; omega
    · show xs.length + 1 ≤ maxLen; unfold maxLen; omega
    · exact fun _ => (rfl : _ = _ :: _ :: _ :: _ :: _)
    intro B' kk' hkk'
    rw [tmsC_snoc]
    refine m_run ?_
    refine TK.sub (List.Sublist.cons _ (List.Sublist.cons _ (List.Sublist.refl _))) ?_
    have hxl : (xs ++ [x]).length = xs.length + 1 := by simp
    refine IH (j - 1) _ _ (by omega) ⟨i + 1, xs ++ [x], k4, bad4, B', kk', by omega, by omega, ?_, by omega, hk4, Tk.rep1 hT3 hT4, rfl, rfl, rfl, rfl, congrArg (Value.int .i64) (i64_succ i (by omega)), by rw [← hxl]⟩
    intro y hy
    rcases List.mem_append.1 hy with hy | hy
    · exact hxs y hy
    · rw [List.mem_singleton.1 hy]; exact hx
  obtain rfl : i = n := by omega
  refine m_run ?_
  refine TK.imp (Δ := tkR t A l.length c k3 bad3 :: ownT B kk xs :: row b3 [.int .u32 (p : Int), .slice B xs.length kk] 42 :: row b2 (Atm.cells ⟨p, B, kk, xs⟩) 42 :: Γ) (fun _ h => h) ?_
  (apply TK.retRow (i := 3); exact rfl; exact rfl; exact rfl; exact rfl; exact tb rfl; exact rfl; (exact m_lst); exact rfl)
  · exact ⟨_, rfl, p, xs, k3, bad3, B, kk, hp, hxs, by omega, hkk, hk3, Tk.bind hT1 (Tk.bind hT2 (Tk.map hT3 rfl)), rfl, rfl⟩
  · (repeat (first | exact List.Sublist.refl _ | apply List.Sublist.cons_cons | apply List.Sublist.cons))
end
section
/- The document's taker of what is said; its TakeFact: walked. -/
attribute [local irreducible] TK TL TQ TA TB Fn PV
theorem Tk.same {α : Type} (x : α) (k : Nat) (bad : Bool) : Tk (some (x, k)) bad x k bad := by cases bad <;> simp [Tk]
set_option maxRecDepth 100000 in
set_option maxHeartbeats 2000000 in
theorem tsay_t (t : Nat) (A : Option Addr) (c k : Nat) (l : List UInt8) (bad : Bool) (Γ : List HP) (hs : has Γ (srcAt 1 A l.length (bytesV l))) (hc : l.length ≤ c) (hl : l.length ≤ 1000000000) (hk : k ≤ l.length) :
    FnV Try.prog 89 [.pointer (some ⟨t, 0, none⟩)] (tkR t A l.length c k bad :: Γ) fun v Γ' => ∃ (s : Bool) (w : Tm) (p : Nat) (xs : List Tm) (k' : Nat) (bad' : Bool) (B : Option Addr) (kk : Nat), w.n ≤ 4294967295 ∧ p ≤ 4294967295 ∧ (∀ x ∈ xs, x.n ≤ 4294967295) ∧ xs.length ≤ 6 ∧ xs.length ≤ kk ∧ k' ≤ l.length ∧ Tk (sayS l k) bad (s, w, p, xs) k' bad' ∧ v = .agg (Sy.cells ⟨s, w, ⟨p, B, kk, xs⟩⟩).toArray ∧ Γ' = tkR t A l.length c k' bad' :: ownT B kk xs :: Γ := by
  refine Fn.enter Try.func89 rfl rfl rfl fun E => ?_
  refine m_run ?_
  (apply TL.alloc; exact rfl; exact tb rfl; (exact m_lst))
  intro b2
  refine m_run ?_
  (apply TL.alloc; exact rfl; exact tb rfl; (exact m_lst))
  intro b3
  refine TL.perm (List.Perm.trans (List.Perm.cons _ (List.Perm.swap _ _ _)) (List.Perm.swap _ _ _)) ?_
  refine TL.imp (Δ := tkR t A l.length c k bad :: row b3 [.bool false, .bool false, .int .u32 0, .int .u32 0, .slice none 0 0] 56 :: row b2 [.bool false, .bool false, .int .u32 0, .int .u32 0, .slice none 0 0] 56 :: Γ) (fun _ h => h) ?_
  refine m_run ?_
  (apply TL.callV; exact rfl; exact callB_of (by kernel_rfl); exact rfl; exact fun _ h => h)
  exact toctet_t t A c 1 k l bad _ (has_tls (has_tls hs)) hc hl hk
  rintro _ _ ⟨x, k1, bad1, hx, hk1, hT1, rfl, rfl⟩
  by_cases hx1 : x = 1
  · subst hx1
    refine m_run ?_
    (apply TL.callV; exact rfl; exact callB_of (by kernel_rfl); exact rfl; exact fun _ h => h)
    exact tterm_t t A c k1 l bad1 _ (has_tls (has_tls hs)) hc hl hk1
    rintro _ _ ⟨w, k2, bad2, hw, hk2, hT2, rfl, rfl⟩
    refine m_run ?_
    refine TL.imp (Δ := tkR t A l.length c k2 bad2 :: row b3 [.bool true, .bool w.v, .int .u32 (w.n : Int), .int .u32 0, .slice none 0 0] 56 :: row b2 [.bool false, .bool false, .int .u32 0, .int .u32 0, .slice none 0 0] 56 :: Γ) (fun _ h => h) ?_
    refine m_run ?_
    (apply TL.callV; exact rfl; exact callB_of (by kernel_rfl); exact rfl; exact fun _ h => h)
    exact tatom_t t A c k2 l bad2 _ (has_tls (has_tls hs)) hc hl hk2
    rintro _ _ ⟨p, xs, k3, bad3, B, kk, hp, hxs, hx6, hkk, hk3, hT3, rfl, rfl⟩
    refine m_run ?_
    refine TK.imp (Δ := tkR t A l.length c k3 bad3 :: ownT B kk xs :: row b3 (Sy.cells ⟨true, w, ⟨p, B, kk, xs⟩⟩) 56 :: row b2 (Sy.cells ⟨true, w, ⟨p, B, kk, xs⟩⟩) 56 :: Γ) (fun _ h => h) ?_
    (apply TK.retRow (i := 3); exact rfl; exact rfl; exact rfl; exact rfl; exact tb rfl; exact rfl; (exact m_lst); exact rfl)
    · exact ⟨_, rfl, true, w, p, xs, k3, bad3, B, kk, hw, hp, hxs, hx6, hkk, hk3, Tk.bind hT1 (Tk.bind (g := fun w => (atmS l w.2).map fun a => ((1 == 1, w.1, a.1), a.2)) (o := whoS 1 l k1) (by unfold whoS; exact hT2) (Tk.map hT3 rfl)), rfl, rfl⟩
    · (repeat (first | exact List.Sublist.refl _ | apply List.Sublist.cons_cons | apply List.Sublist.cons))
  · obtain rfl : x = 0 := by omega
    refine m_run ?_
    (apply TL.callV; exact rfl; exact callB_of (by kernel_rfl); exact rfl; exact fun _ h => h)
    exact tatom_t t A c k1 l bad1 _ (has_tls (has_tls hs)) hc hl hk1
    rintro _ _ ⟨p, xs, k3, bad3, B, kk, hp, hxs, hx6, hkk, hk3, hT3, rfl, rfl⟩
    refine m_run ?_
    refine TK.imp (Δ := tkR t A l.length c k3 bad3 :: ownT B kk xs :: row b3 (Sy.cells ⟨false, ⟨false, 0⟩, ⟨p, B, kk, xs⟩⟩) 56 :: row b2 (Sy.cells ⟨false, ⟨false, 0⟩, ⟨p, B, kk, xs⟩⟩) 56 :: Γ) (fun _ h => h) ?_
    (apply TK.retRow (i := 3); exact rfl; exact rfl; exact rfl; exact rfl; exact tb rfl; exact rfl; (exact m_lst); exact rfl)
    · exact ⟨_, rfl, false, ⟨false, 0⟩, p, xs, k3, bad3, B, kk, Nat.zero_le _, hp, hxs, hx6, hkk, hk3, Tk.bind hT1 (Tk.bind (g := fun w => (atmS l w.2).map fun a => ((0 == 1, w.1, a.1), a.2)) (o := whoS 0 l k1) (by unfold whoS; exact Tk.same _ _ _) (Tk.map hT3 rfl)), rfl, rfl⟩
    · (repeat (first | exact List.Sublist.refl _ | apply List.Sublist.cons_cons | apply List.Sublist.cons))
/-- What comes of a reading at a place. -/
def tookS {α : Type} (zero : α) (may : α → Bool) (f : Nat → Option (α × Nat)) (n : Nat) (at_ : Int) : α × Nat × Nat :=
  if 0 ≤ at_ ∧ at_ ≤ n then (match f at_.toNat with | some x => if may x.1 then (x.1, x.2, 0) else (zero, 0, 5) | none => (zero, 0, 5)) else (zero, 0, 1)
def tookF (l : List UInt8) (at_ : Int) : (Nat × List Nat) × Nat × Nat := tookS (0, []) (fun _ => true) (fctS l) l.length at_
def RF (Γ : List HP) (x : (Nat × List Nat) × Nat × Nat) : Value → List HP → Prop := fun v Γ' => ∃ B kk, x.1.2.length ≤ kk ∧ v = .tuple #[.agg (Fct.cells ⟨x.1.1, B, kk, x.1.2⟩).toArray, .int .i64 (x.2.1 : Int), .int .i64 (x.2.2 : Int)] ∧ Γ' = ownU B kk x.1.2 :: Γ
theorem tookS_out {α : Type} {zero : α} {may : α → Bool} {f : Nat → Option (α × Nat)} {n : Nat} {at_ : Int} (h : ¬ (0 ≤ at_ ∧ at_ ≤ n)) : tookS zero may f n at_ = (zero, 0, 1) := if_neg h
theorem tookS_bad {α : Type} {zero : α} {may : α → Bool} {f : Nat → Option (α × Nat)} {n k : Nat} (hk : k ≤ n) (h : f k = none) : tookS zero may f n (k : Int) = (zero, 0, 5) := by
  unfold tookS; rw [if_pos ⟨by omega, by omega⟩, Int.toNat_natCast, h]
theorem tookS_no {α : Type} {zero : α} {may : α → Bool} {f : Nat → Option (α × Nat)} {n k k' : Nat} {x : α} (hk : k ≤ n) (h : f k = some (x, k')) (hm : may x = false) : tookS zero may f n (k : Int) = (zero, 0, 5) := by
  unfold tookS; rw [if_pos ⟨by omega, by omega⟩, Int.toNat_natCast, h]; simp [hm]
theorem tookS_ok {α : Type} {zero : α} {may : α → Bool} {f : Nat → Option (α × Nat)} {n k k' : Nat} {x : α} (hk : k ≤ n) (h : f k = some (x, k')) (hm : may x = true) : tookS zero may f n (k : Int) = (x, k', 0) := by
  unfold tookS; rw [if_pos ⟨by omega, by omega⟩, Int.toNat_natCast, h]; simp [hm]
theorem Tk.out {α : Type} {o : Option (α × Nat)} {x : α} {k : Nat} {b : Bool} (h : Tk o false x k b) : (b = true ∧ o = none) ∨ (b = false ∧ o = some (x, k)) := by
  unfold Tk at h
  cases o with
  | none => exact .inl ⟨by simpa using h, rfl⟩
  | some z =>
    obtain ⟨z1, z2⟩ := z
    obtain ⟨h1, rfl, rfl⟩ := (by simpa using h : b = false ∧ x = z1 ∧ k = z2)
    exact .inr ⟨h1, rfl⟩
set_option maxRecDepth 100000 in
set_option maxHeartbeats 2000000 in
theorem rtakefact_t (A : Option Addr) (m c : Nat) (l : List UInt8) (at_ : Int) (Γ : List HP) (hs : has Γ (srcAt 1 A m (bytesV l))) (hc : m ≤ c) (hl : l.length ≤ 1000000000) :
    FnV Try.prog 21 [.slice A m c, .int .i64 at_] Γ (RF Γ (tookF l at_)) := by
  refine Fn.enter Try.func21 rfl rfl rfl fun E => ?_
  refine TK.mem fun m0 hm0 => ?_
  obtain rfl := src_lenB (hs m0 hm0)
  clear hm0 m0
  by_cases hat : 0 ≤ at_ ∧ at_ ≤ l.length
  · obtain ⟨k, rfl⟩ : ∃ k : Nat, at_ = (k : Int) := ⟨at_.toNat, by omega⟩
    have hk : k ≤ l.length := by omega
    refine m_run ?_
    (apply TL.alloc; exact rfl; exact tb rfl; (exact m_lst))
    intro b4
    refine m_run ?_
    (apply TL.build tabs; exact rfl; exact rfl; exact rfl; exact rfl; exact rfl; exact rfl; (exact m_lst))
    refine m_run ?_
    (apply TL.box; exact rfl; exact rfl; (exact m_lst))
    intro t
    refine TL.imp (Δ := tkR t A l.length c k false :: row b4 [.int .u32 0, .slice none 0 0] 26 :: Γ) (fun _ h => h) ?_
    refine m_run ?_
    (apply TL.callV; exact rfl; exact callB_of (by kernel_rfl); exact rfl; exact fun _ h => h)
    exact tnumber_t t A c 4294967295 k l false _ (has_tls hs) hc hl hk
    rintro _ _ ⟨p, k1, bad1, hp, hk1, hT1, rfl, rfl⟩
    refine m_run ?_
    refine TL.know (t := 29) (v := .int .u32 (p : Int)) (congrArg (Value.int .u32) (u32_nat (by omega))) ?_
    (apply TL.pv; exact rfl; (apply PV.build tabs; exact rfl; exact rfl; exact rfl; exact rfl; exact rfl; exact (rfl : _ = [Value.int .u32 (p : Int), .slice none 0 0])))
    (apply TL.alloc; exact rfl; exact tb rfl; exact (rfl : _ = [_, _]))
    intro b8
    refine TL.perm (List.Perm.swap _ _ _) ?_
    refine m_run ?_
    (apply TL.callV; exact rfl; exact callB_of (by kernel_rfl); exact rfl; exact fun _ h => h)
    exact toctet_t t A c 6 k1 l bad1 _ (has_tls (has_tls hs)) hc hl hk1
    rintro _ _ ⟨n, k2, bad2, hn, hk2, hT2, rfl, rfl⟩
    refine m_run ?_
    refine TK.imp (Δ := tkR t A l.length c k2 bad2 :: row b8 [.int .u32 (p : Int), .slice none 0 0] 26 :: row b4 [.int .u32 0, .slice none 0 0] 26 :: Γ) (fun _ h => h) ?_
    refine TK.free (H := ownU none 0 []) (fun m h => own_nil _ _ h) ?_
    refine TK.perm (List.Perm.swap _ _ _) ?_
    apply TK.iter (fun j ρ' Γ' => ∃ (i : Nat) (xs : List Nat) (k3 : Nat) (bad3 : Bool) (B : Option Addr) (kk : Nat), i + j = n ∧ xs.length = i ∧ xs.length ≤ kk ∧ k3 ≤ l.length ∧ Tk (rep (numS 4294967295 l) i k2) bad2 xs k3 bad3 ∧ lk ρ' 4 = .pointer (some ⟨b4, 0, none⟩) ∧ lk ρ' 7 = .pointer (some ⟨t, 0, none⟩) ∧ lk ρ' 8 = .pointer (some ⟨b8, 0, none⟩) ∧ lk ρ' 9 = .int .i64 (n : Int) ∧ lk ρ' 10 = .int .i64 (i : Int) ∧ Γ' = tkR t A l.length c k3 bad3 :: ownU B kk xs :: row b8 [.int .u32 (p : Int), .slice B xs.length kk] 26 :: row b4 [.int .u32 0, .slice none 0 0] 26 :: Γ) n
    · exact ⟨0, [], k2, bad2, none, 0, Nat.zero_add _, rfl, Nat.le_refl _, hk2, Tk.rep0 _ _ _, rfl, rfl, rfl, rfl, rfl, rfl⟩
    rintro j IH ρ' _ ⟨i, xs, k3, bad3, B, kk, hij, hxi, hkk, hk3, hT3, e4, e7, e8, e9, e10, rfl⟩
    refine TK.know5 e4 e7 e8 e9 e10 ?_
    by_cases hi : i < n
    · refine m_run ?_
      (apply TL.callV; exact rfl; exact callB_of (by kernel_rfl); exact rfl; exact fun _ h => h)
      exact tnumber_t t A c 4294967295 k3 l bad3 _ (has_tls (has_tls (has_tls hs))) hc hl hk3
      rintro _ _ ⟨x, k4, bad4, hx, hk4, hT4, rfl, rfl⟩
      refine m_run ?_
      refine TL.know (t := 43) (v := .int .u32 (x : Int)) (congrArg (Value.int .u32) (u32_nat (by omega))) ?_
      (apply TL.buildSlice (l := u32s [x]); exact rfl; exact tb rfl; exact rfl; exact tb rfl; exact rfl; exact rfl; exact rfl; exact rfl; exact rfl)
      intro b23
      refine m_run ?_
      (apply TL.append 2; exact rfl; exact rfl; exact tb rfl; exact rfl; exact tb rfl; exact rfl; exact rfl; exact rfl)
      · exact fun _ h => h
      · exact rfl
      · exact has_src_row 0 rfl rfl
      · exact one_of rfl
      · show (xs.length + 1) * 4 ≤ _; omega
      · show xs.length + 1 ≤ maxLen; unfold maxLen; omega
      · exact fun _ => (rfl : _ = _ :: _ :: _ :: _)
      intro B' kk' hkk'
      rw [show u32s xs ++ u32s [x] = u32s (xs ++ [x]) from u32s_snoc xs x]
      refine m_run ?_
      refine TK.drop ?_
      have hxl : (xs ++ [x]).length = xs.length + 1 := by simp
      exact IH (j - 1) _ _ (by omega) ⟨i + 1, xs ++ [x], k4, bad4, B', kk', by omega, by omega, by omega, hk4, Tk.rep1 hT3 hT4, rfl, rfl, rfl, rfl, congrArg (Value.int .i64) (i64_succ i (by omega)), by rw [← hxl]⟩
    obtain rfl : i = n := by omega
    have hT : Tk (fctS l k) false (p, xs) k3 bad3 := Tk.bind hT1 (Tk.bind hT2 (Tk.map hT3 rfl))
    refine m_run ?_
    (apply TL.callV; exact rfl; exact callB_of (by kernel_rfl); exact rfl; exact fun _ h => h)
    exact tover_t t A l.length c k3 bad3 true _
    rintro _ _ ⟨rfl, rfl⟩
    rcases hT.out with ⟨rfl, ho⟩ | ⟨rfl, ho⟩
    · have hR : tookF l (k : Int) = ((0, []), 0, 5) := tookS_bad hk ho
      rw [hR]
      refine m_run ?_
      (apply TL.build tabs; exact rfl; exact rfl; exact rfl; exact rfl; exact rfl; exact rfl; (exact m_lst))
      refine m_run ?_
      refine TK.imp (Δ := tkR t A l.length c k3 true :: ownU B kk xs :: row b8 [.int .u32 (p : Int), .slice B xs.length kk] 26 :: row b4 (Fct.cells ⟨0, none, 0, []⟩) 26 :: Γ) (fun _ h => h) ?_
      refine TK.sub (List.Sublist.cons _ (List.Sublist.cons _ (List.Sublist.cons _ (List.Sublist.refl _)))) ?_
      refine TK.free (H := ownU none 0 []) (fun m h => own_nil _ _ h) ?_
      exact TK.retSub (Δ := ownU none 0 [] :: Γ) (fun R' hR' => TK.rets rfl rfl (.cons (.agg rfl (tb rfl) rfl rfl (has_rows (vs := Fct.cells ⟨0, none, 0, []⟩) 1 rfl rfl)) (.cons (.tmp rfl) (.cons (.tmp rfl) .nil))) (hR' _ (by (repeat (first | exact List.Sublist.refl _ | apply List.Sublist.cons_cons | apply List.Sublist.cons))))) ⟨_, rfl, none, 0, Nat.le_refl _, rfl, rfl⟩
    · have hR : tookF l (k : Int) = ((p, xs), k3, 0) := tookS_ok hk ho rfl
      rw [hR]
      refine m_run ?_
      refine TK.imp (Δ := tkR t A l.length c k3 false :: ownU B kk xs :: row b8 [.int .u32 (p : Int), .slice B xs.length kk] 26 :: row b4 (Fct.cells ⟨p, B, kk, xs⟩) 26 :: Γ) (fun _ h => h) ?_
      exact TK.retSub (Δ := ownU B kk xs :: Γ) (fun R' hR' => TK.rets rfl rfl (.cons (.agg rfl (tb rfl) rfl rfl (has_rows (vs := Fct.cells ⟨p, B, kk, xs⟩) 3 rfl rfl)) (.cons (.tmp rfl) (.cons (.tmp rfl) .nil))) (hR' _ (by (repeat (first | exact List.Sublist.refl _ | apply List.Sublist.cons_cons | apply List.Sublist.cons))))) ⟨_, rfl, B, kk, hkk, rfl, rfl⟩
  · have hR : tookF l at_ = ((0, []), 0, 1) := tookS_out hat
    rw [hR]
    by_cases h0 : at_ < 0
    all_goals
      refine m_run ?_
      (apply TL.alloc; exact rfl; exact tb rfl; (exact m_lst))
      intro b4
      refine m_run ?_
      (apply TL.build tabs; exact rfl; exact rfl; exact rfl; exact rfl; exact rfl; exact rfl; (exact m_lst))
      refine m_run ?_
      refine TK.imp (Δ := row b4 (Fct.cells ⟨0, none, 0, []⟩) 26 :: Γ) (fun _ h => h) ?_
      refine TK.free (H := ownU none 0 []) (fun m h => own_nil _ _ h) ?_
      exact TK.retSub (Δ := ownU none 0 [] :: Γ) (fun R' hR' => TK.rets rfl rfl (.cons (.agg rfl (tb rfl) rfl rfl (has_rows (vs := Fct.cells ⟨0, none, 0, []⟩) 1 rfl rfl)) (.cons (.tmp rfl) (.cons (.tmp rfl) .nil))) (hR' _ (by (repeat (first | exact List.Sublist.refl _ | apply List.Sublist.cons_cons | apply List.Sublist.cons))))) ⟨_, rfl, none, 0, Nat.le_refl _, rfl, rfl⟩
end
end Go.Proofs.Ytokggdgagfmacaa.E
