/- slices.Grow of nothing, slices.Concat of two; PutBytes, TakeBytes, both: walked. -/
import Derived.Test.YtoccilnobgoncaaO5
namespace Go.Proofs.Ytoccilnobgoncaa.E
open Go Go.RowKit Go.Proofs
attribute [local irreducible] TK TL TQ TA Fn PV
set_option maxRecDepth 100000 in
theorem grow_t (n : Nat) (Γ : List HP) (hn : n ≤ 1000000000000) : FnV Try.prog 69 [.slice none 0 0, .int .i64 (n : Int)] Γ (fun v Γ' => ∃ A c, v = .slice A 0 c ∧ Γ' = bsA 5 (.slice A 0 c) [] :: Γ) := by
  refine Fn.enter Try.func69 rfl rfl rfl fun E => ?_
  have e1 : IntKind.i64.wrap ((n : Int) - IntKind.i64.wrap (((0 : Nat) : Int) - ((0 : Nat) : Int))) = (n : Int) := by
    rw [show ((0 : Nat) : Int) - ((0 : Nat) : Int) = 0 from rfl, i64_in (x := 0) (by decide) (by decide), i64_in (by omega) (by omega)]; omega
  rcases Nat.eq_zero_or_pos n with rfl | hp
  · refine m_run ?_
    refine TK.free (H := bsA 5 (.slice none 0 0) []) (fun m h => bs_nil _ h) ?_
    (apply TK.ret1; exact rfl; exact rfl; (exact m_val))
    exact ⟨_, rfl, _, _, rfl, rfl⟩
  · refine m_run ?_
    (apply TL.pv; exact rfl; (apply PV.sliceS (i := 0) (j := 0); exact rfl; exact tb rfl; exact rfl; exact tb rfl; exact .none; exact .some rfl; exact Nat.le_refl _; exact Nat.le_refl _))
    refine m_run ?_
    refine TL.know (t := 21) (v := .int .i64 (n : Int)) (congrArg (Value.int .i64) e1) ?_
    (apply TL.appZ (k := n); exact rfl; exact tb rfl; exact rfl; exact tb rfl; exact tb rfl; exact rfl; exact rfl; exact (by decide); exact rfl; exact rfl; exact rfl)
    · exact hp
    · omega
    intro A c hc
    refine m_run ?_
    (apply TL.sliceHi (i := 0); exact rfl; exact rfl; exact rfl; exact tb rfl; exact rfl; exact tb rfl; exact Int.le_refl _; omega)
    refine TL.imp (Δ := bsA 5 (.slice A 0 c) [] :: Γ) (fun m hm => sep_mono hm (fun q hq => own_shrink hq (Nat.zero_le _)) (fun _ => id)) ?_
    refine m_run ?_
    (apply TK.ret1; exact rfl; exact rfl; (exact m_val))
    exact ⟨_, rfl, _, _, rfl, rfl⟩
set_option maxRecDepth 100000 in
theorem concat_t (A B : Option Addr) (n c n' c' : Nat) (l s : List UInt8) (b : Nat) (Γ : List HP) (hr : has Γ (srcAt 1 (some ⟨b, 0, none⟩) 2 [.slice A n c, .slice B n' c'])) (h1 : has Γ (srcAt 1 A n (bytesV l))) (h2 : has Γ (srcAt 1 B n' (bytesV s))) (hl : l.length ≤ 100000000000) (hs : s.length ≤ 100000000000) :
    FnV Try.prog 64 [.slice (some ⟨b, 0, none⟩) 2 2] Γ (RB 5 Γ (l ++ s)) := by
  refine Fn.enter Try.func64 rfl rfl rfl fun E => ?_
  refine TK.mem fun m0 hm0 => ?_
  obtain rfl := src_lenB (h1 m0 hm0)
  obtain rfl := src_lenB (h2 m0 hm0)
  have c0 : has Γ (fun m => cellAt m b (0 + 0) (.slice A l.length c)) := has_imp hr fun m hm => by
    rcases hm.2 with h | ⟨_, _, e, h⟩
    · cases h
    · injection e with e; injection e with e1 e2 _; subst e1; subst e2; exact h 0 _ rfl
  have c1 : has Γ (fun m => cellAt m b (0 + 1) (.slice B s.length c')) := has_imp hr fun m hm => by
    rcases hm.2 with h | ⟨_, _, e, h⟩
    · cases h
    · injection e with e; injection e with e1 e2 _; subst e1; subst e2; exact h 1 _ rfl
  have e1 : IntKind.i64.wrap (0 + (l.length : Int)) = (l.length : Int) := by rw [Int.zero_add, i64_nat (by omega)]
  have e2 : IntKind.i64.wrap ((l.length : Int) + (s.length : Int)) = ((l.length + s.length : Nat) : Int) := by rw [← Int.natCast_add, i64_nat (by omega)]
  refine m_run ?_
  refine TK.loop ?_
  refine m_run ?_
  refine TK.inLoop ?_
  refine TK.know2 (t0 := 11) (v0 := .int .i64 1) (t1 := 3) (v1 := .int .i64 (l.length : Int)) rfl (congrArg (Value.int .i64) e1) ?_
  refine m_run ?_
  refine TK.inLoop ?_
  refine TK.know2 (t0 := 11) (v0 := .int .i64 2) (t1 := 3) (v1 := .int .i64 ((l.length + s.length : Nat) : Int)) rfl (congrArg (Value.int .i64) e2) ?_
  refine m_run ?_
  (apply TL.callV; exact rfl; exact callB_of (by kernel_rfl); exact rfl; exact fun _ h => h)
  exact grow_t (l.length + s.length) _ (by omega)
  rintro _ _ ⟨A2, c2, rfl, rfl⟩
  refine m_run ?_
  refine TK.loop ?_
  refine m_run ?_
  (apply TL.appB 0; exact rfl; exact rfl; exact tb rfl; exact rfl; exact tb rfl; exact rfl; exact rfl; exact rfl; exact rfl; exact fun _ h => h; exact rfl; (exact m_hsrc))
  · simp; omega
  · exact fun _ => (rfl : _ = _ :: _)
  intro A3 c3 hc3
  refine m_run ?_
  refine TK.inLoop ?_
  refine TK.know (t := 27) (v := .int .i64 1) rfl ?_
  refine m_run ?_
  (apply TL.appB 0; exact rfl; exact rfl; exact tb rfl; exact rfl; exact tb rfl; exact rfl; exact rfl; exact rfl; exact rfl; exact fun _ h => h; exact rfl; (exact m_hsrc))
  · simp; omega
  · exact fun _ => (rfl : _ = _ :: _)
  intro A4 c4 hc4
  refine m_run ?_
  refine TK.inLoop ?_
  refine TK.know (t := 27) (v := .int .i64 2) rfl ?_
  refine m_run ?_
  (apply TK.ret1; exact rfl; exact rfl; (exact m_val))
  exact ⟨_, rfl, A4, c4, rfl, hc4, rfl⟩
end Go.Proofs.Ytoccilnobgoncaa.E
