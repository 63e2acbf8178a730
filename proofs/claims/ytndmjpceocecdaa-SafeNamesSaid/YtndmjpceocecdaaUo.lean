/- SafePlays, walked. -/
import Derived.Test.YtndmjpceocecdaaUn
namespace Go.Proofs.Ytndmjpceocecdaa.E
open Go Go.RowKit Go.Proofs
attribute [local irreducible] TK TL TQ TA Fn PV
theorem res_ok {l : List Cl} {n : Nat} (h : Res l n 0) : okTo l l.length ∧ n = 0 ∧ l.length ≤ 400 := by
  rcases h with ⟨_, _, h⟩ | ⟨h4, ⟨c, _, _, _, h⟩ | ⟨h1, h2, _⟩⟩
  · cases h
  · exact absurd rfl h
  · exact ⟨h1, h2, h4⟩
theorem res_cons {l : List Cl} {n : Nat} (h : Res l n 0) : Cons (atsL l) := by
  have := okTo_cons (res_ok h).1 (Nat.le_refl _)
  rwa [List.take_length] at this
theorem few_atoms {l : List Cl} {fs : List Fct} (h : FewOk l fs) : l.length ≤ 400 → (allA l).length ≤ 1000000 := fun h4 => by
  have h1 := few_all h.2.2.2.1
  have h2 := h.2.1
  omega
set_option maxRecDepth 100000 in
set_option maxHeartbeats 8000000 in
theorem safePlays_t (A F : Option Addr) (cc fc : Nat) (l : List Cl) (fs : List Fct) (Γ : List HP) (h : clsAt A l Γ) (hf : has Γ (srcAt 2 F fs.length (fcsC fs))) (hcc : l.length ≤ cc) :
    FnV Try.prog 3 [.slice A l.length cc, .slice F fs.length fc] Γ fun v Γ' => v = .bool true ∧ Γ' = Γ := by
  refine Fn.enter Try.func3 rfl rfl rfl fun E => ?_
  refine m_run ?_
  (apply TL.callV; exact rfl; exact callB_of (by kernel_rfl); exact rfl; exact fun _ h => h)
  exact few_t A F cc fc l fs _ h hf
  rintro _ Γ ⟨⟨B, rfl, hfew⟩, rfl⟩
  cases B with
  | false =>
    refine m_run ?_
    (apply TL.callV; exact rfl; exact callB_of (by kernel_rfl); exact rfl; exact fun _ h => h)
    exact works_t _
    rintro _ Γ ⟨rfl, rfl⟩
    refine m_run ?_
    (apply TK.ret1; exact rfl; exact rfl; (exact m_val))
    exact ⟨_, rfl, rfl, rfl⟩
  | true =>
  have hfw := hfew rfl
  have hok := few_cls h hfw.2.2.2.1
  have hl1 : l.length ≤ 1000000 := Nat.le_trans hfw.1 (by decide)
  have hf1 : fs.length ≤ 1000000 := Nat.le_trans hfw.2.2.1 (by decide)
  refine m_run ?_
  (apply TL.callV; exact rfl; exact callB_of (by kernel_rfl); exact rfl; exact fun _ h => h)
  exact right_t A cc l _ hok hl1
  rintro v Γ ⟨⟨n, e, rfl, hr⟩, rfl⟩
  refine m_run ?_
  (apply TL.callV; exact rfl; exact callB_of (by kernel_rfl); exact rfl; exact fun _ h => h)
  exact rright_t A cc l _ hok hcc hl1 (few_atoms hfw)
  rintro v Γ ⟨hv, rfl⟩
  have hv := rightIs_of hv hr
  subst hv
  by_cases he : e = 0
  · subst he
    have hC := res_cons hr
    have h4 := (res_ok hr).2.2
    refine m_run ?_
    (apply TL.callV; exact rfl; exact callB_of (by kernel_rfl); exact rfl; exact fun _ h => h)
    exact arities_t A F cc fc l fs _ hok hf hl1 hf1
    rintro v Γ ⟨⟨_, hv⟩, rfl⟩
    obtain ⟨n2, e2, rfl, hra⟩ := hv hC
    refine m_run ?_
    (apply TL.callV; exact rfl; exact callB_of (by kernel_rfl); exact rfl; exact fun _ h => h)
    exact rarities_t A F cc fc l fs _ hok hf hl1 hf1 (few_atoms hfw h4)
    rintro v Γ ⟨⟨n3, e3, rfl, hrb⟩, rfl⟩
    obtain ⟨rfl, rfl⟩ := resA_one hra hrb
    refine m_run ?_
    (apply TL.callV; exact rfl; exact callB_of (by kernel_rfl); exact rfl; exact fun _ h => h)
    exact works_t _
    rintro _ Γ ⟨rfl, rfl⟩
    refine m_run ?_
    (apply TK.ret1; exact rfl; exact rfl; (exact m_val))
    exact ⟨_, rfl, rfl, rfl⟩
  · refine m_run ?_
    (apply TL.callV; exact rfl; exact callB_of (by kernel_rfl); exact rfl; exact fun _ h => h)
    exact arities_t A F cc fc l fs _ hok hf hl1 hf1
    rintro v Γ ⟨⟨⟨n2, e2, rfl⟩, _⟩, rfl⟩
    refine m_run ?_
    (apply TL.callV; exact rfl; exact callB_of (by kernel_rfl); exact rfl; exact fun _ h => h)
    exact works_t _
    rintro _ Γ ⟨rfl, rfl⟩
    refine m_run ?_
    (apply TK.ret1; exact rfl; exact rfl; (exact m_val))
    exact ⟨_, rfl, rfl, rfl⟩
end Go.Proofs.Ytndmjpceocecdaa.E
