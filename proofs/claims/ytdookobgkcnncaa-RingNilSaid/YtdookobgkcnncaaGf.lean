/- Where there is no ring: RingNil, walked. -/
import Derived.Test.YtdookobgkcnncaaGe
namespace Go.Proofs.Ytdookobgkcnncaa.E
open Go Go.RowKit Go.Proofs
attribute [local irreducible] TK TL TQ TA Fn PV
set_option maxRecDepth 100000
theorem put0_t (w : Int) (A : Option Addr) (n c : Nat) (Γ : List HP) : FnV Try.prog 11 [.pointer none, .int .u32 w, .slice A n c] Γ fun v Γ' => v = .int .i64 2 ∧ Γ' = Γ := by
  refine Fn.enter Try.func11 rfl rfl rfl fun E => ?_
  refine m_run ?_
  (apply TK.ret1; exact rfl; exact rfl; (exact m_val))
  exact ⟨_, rfl, rfl, rfl⟩
theorem drop0_t (w : Int) (Γ : List HP) : FnV Try.prog 9 [.pointer none, .int .u32 w] Γ fun v Γ' => v = .int .i64 2 ∧ Γ' = Γ := by
  refine Fn.enter Try.func9 rfl rfl rfl fun E => ?_
  refine m_run ?_
  (apply TK.ret1; exact rfl; exact rfl; (exact m_val))
  exact ⟨_, rfl, rfl, rfl⟩
theorem key0_t (w : Int) (Γ : List HP) : FnV Try.prog 13 [.pointer none, .int .u32 w] Γ fun v Γ' => v = .tuple #[.slice none 0 0, .bool false] ∧ Γ' = Γ := by
  refine Fn.enter Try.func13 rfl rfl rfl fun E => ?_
  refine m_run ?_
  (apply TK.ret2; exact rfl; exact rfl; (exact m_val); (exact m_val))
  exact ⟨_, rfl, rfl, rfl⟩
theorem list0_t (Γ : List HP) : FnV Try.prog 15 [.pointer none] Γ fun v Γ' => v = .slice none 0 0 ∧ Γ' = Γ := by
  refine Fn.enter Try.func15 rfl rfl rfl fun E => ?_
  refine m_run ?_
  (apply TK.ret1; exact rfl; exact rfl; (exact m_val))
  exact ⟨_, rfl, rfl, rfl⟩
theorem ringNil_t (w : Int) (A : Option Addr) (n c : Nat) (Γ : List HP) : FnV Try.prog 5 [.int .u32 w, .slice A n c] Γ fun v Γ' => v = .bool true ∧ Γ' = Γ := by
  refine Fn.enter Try.func5 rfl rfl rfl fun E => ?_
  by_cases hn : 300 < n
  · refine m_run ?_
    (apply TL.callV; exact rfl; exact callB_of (by kernel_rfl); exact rfl; exact fun _ h => h)
    exact works_t _
    rintro _ _ ⟨rfl, rfl⟩
    refine m_run ?_
    (apply TK.ret1; exact rfl; exact rfl; (exact m_val))
    exact ⟨_, rfl, rfl, rfl⟩
  · refine m_run ?_
    (apply TL.callV; exact rfl; exact callB_of (by kernel_rfl); exact rfl; exact fun _ h => h)
    exact key0_t w _
    rintro _ _ ⟨rfl, rfl⟩
    refine m_run ?_
    (apply TL.callV; exact rfl; exact callB_of (by kernel_rfl); exact rfl; exact fun _ h => h)
    exact put0_t w A n c _
    rintro _ _ ⟨rfl, rfl⟩
    refine m_run ?_
    (apply TL.callV; exact rfl; exact callB_of (by kernel_rfl); exact rfl; exact fun _ h => h)
    exact drop0_t w _
    rintro _ _ ⟨rfl, rfl⟩
    refine m_run ?_
    (apply TL.callV; exact rfl; exact callB_of (by kernel_rfl); exact rfl; exact fun _ h => h)
    exact list0_t _
    rintro _ _ ⟨rfl, rfl⟩
    refine m_run ?_
    (apply TL.callV; exact rfl; exact callB_of (by kernel_rfl); exact rfl; exact fun _ h => h)
    exact works_t _
    rintro _ _ ⟨rfl, rfl⟩
    refine m_run ?_
    (apply TK.ret1; exact rfl; exact rfl; (exact m_val))
    exact ⟨_, rfl, rfl, rfl⟩
end Go.Proofs.Ytdookobgkcnncaa.E
