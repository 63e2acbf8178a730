/- bytes.Clone; the document's Var, PutVar, Same; small tests: walked. -/
import Derived.Test.YtoccilnobgoncaaSm
import Derived.Test.YtoccilnobgoncaaO0
namespace Go.Proofs.Ytoccilnobgoncaa.E
open Go Go.RowKit Go.Proofs
attribute [local irreducible] TK TL TQ TA Fn PV
set_option maxRecDepth 100000 in
theorem clone_t (A : Option Addr) (n c : Nat) (l : List UInt8) (Γ : List HP) (hs : has Γ (srcAt 1 A n (bytesV l))) (hlim : l.length ≤ 1099511627776) :
    FnV Try.prog 59 [.slice A n c] Γ (RB 5 Γ l) := by
  refine Fn.enter Try.func59 rfl rfl rfl fun E => ?_
  refine TK.mem fun m hm => ?_
  obtain rfl := src_lenB (hs m hm)
  cases A with
  | none =>
    have hl : l = [] := by
      rcases (hs m hm).2 with h | ⟨_, _, h, _⟩
      · exact List.map_eq_nil_iff.1 h
      · cases h
    subst hl
    refine m_run ?_
    refine TK.free (H := bsA 5 (.slice none 0 0) []) (fun m h => bs_nil _ h) ?_
    (apply TK.ret1; exact rfl; exact rfl; (exact m_val))
    exact ⟨_, rfl, _, _, rfl, Nat.le_refl _, rfl⟩
  | some a =>
    refine m_run ?_
    (apply TL.buildSlice; exact rfl; exact tb rfl; exact rfl; exact tb rfl; exact rfl; exact rfl; exact rfl; exact rfl; (exact m_lst))
    intro b
    refine m_run ?_
    (apply TL.appB 0; exact rfl; exact rfl; exact tb rfl; exact rfl; exact tb rfl; exact rfl; exact rfl; exact rfl; exact rfl; exact fun _ h => bs_row (l := []) rfl rfl (by decide) h; exact rfl; (exact m_hsrc))
    · simp; omega
    · exact fun _ => (rfl : _ = _ :: _)
    intro A' c' hc
    refine m_run ?_
    (apply TK.ret1; exact rfl; exact rfl; (exact m_val))
    exact ⟨_, rfl, _, _, rfl, hc, rfl⟩
theorem place_t (A : Option Addr) (n c : Nat) (at_ : Int) (Γ : List HP) : FnV Try.prog 62 [.slice A n c, .int .i64 at_] Γ fun v Γ' => v = .bool (decide (0 ≤ at_ ∧ at_ ≤ n)) ∧ Γ' = Γ := by
  refine Fn.enter Try.func62 rfl rfl rfl fun E => ?_
  by_cases h1 : 0 ≤ at_
  · by_cases h2 : at_ ≤ n
    · refine m_run ?_
      (apply TK.ret1; exact rfl; exact rfl; (exact m_val))
      exact ⟨_, rfl, by simp [h1, h2], rfl⟩
    · refine m_run ?_
      (apply TK.ret1; exact rfl; exact rfl; (exact m_val))
      exact ⟨_, rfl, by simp [h1, h2], rfl⟩
  · refine m_run ?_
    (apply TK.ret1; exact rfl; exact rfl; (exact m_val))
    exact ⟨_, rfl, by simp [h1], rfl⟩
theorem vast_t (A : Option Addr) (n c : Nat) (Γ : List HP) : FnV Try.prog 39 [.slice A n c] Γ fun v Γ' => v = .bool (decide (8192 < n)) ∧ Γ' = Γ := by
  refine Fn.enter Try.func39 rfl rfl rfl fun E => ?_
  refine m_run ?_
  (apply TK.ret1; exact rfl; exact rfl; (exact m_val))
  refine ⟨_, rfl, congrArg Value.bool ?_, rfl⟩
  exact decide_eq_decide.2 (by omega)
theorem same1_t (A B : Option Addr) (n c n' c' : Nat) (l l' : List UInt8) (Γ : List HP) (h1 : has Γ (srcAt 1 A n (bytesV l))) (h2 : has Γ (srcAt 1 B n' (bytesV l'))) :
    FnV Try.prog 44 [.slice A n c, .slice B n' c'] Γ fun v Γ' => v = .bool (decide (l = l')) ∧ Γ' = Γ := by
  refine Fn.enter Try.func44 rfl rfl rfl fun E => ?_
  refine m_run ?_
  (apply TK.ret1; exact rfl; exact rfl; (exact m_val))
  exact ⟨_, rfl, rfl, rfl⟩
end Go.Proofs.Ytoccilnobgoncaa.E
