/- The table of names: Name, List, of no table; and the document's table: May, Find, Put, Same. -/
import Derived.Test.YtoccilnobgoncaaY3
namespace Go.Proofs.Ytoccilnobgoncaa.E
open Go Go.RowKit Go.Proofs
attribute [local irreducible] TK TL TQ TA Fn PV
theorem src_some1 {sz n : Nat} {A : Option Addr} {news : List Value} {m : Mem} (h : srcAt sz A n news m) (hn : 0 < news.length) : ∃ b o, A = some ⟨b, o, none⟩ := by
  rcases h.2 with h | ⟨b, o, e, _⟩
  · rw [h] at hn; simp at hn
  · exact ⟨b, o, e⟩
def nameM (L : List (List UInt8)) (n : Nat) : List UInt8 × Bool := match L[n]? with | some k => (k, true) | none => ([], false)
theorem name_tab (bt : Nat) (A : Option Addr) (c : Nat) (L : List (List UInt8)) (n : Nat) (Γ : List HP) (h : has Γ (fun m => cellAt m bt 0 (.slice A L.length c))) (hs : has Γ (srcAt 1 A L.length (strs L))) (hn : n ≤ 4294967295) (hL : L.length ≤ 1000000) :
    FnV Try.prog 31 [.pointer (some ⟨bt, 0, none⟩), numV n] Γ fun v Γ' => v = .tuple #[strV (nameM L n).1, .bool (nameM L n).2] ∧ Γ' = Γ := by
  refine Fn.enter Try.func31 rfl rfl rfl fun E => ?_
  have e1 : IntKind.u64.wrap (n : Int) = n := u64_in (by omega) (by omega)
  have e2 : IntKind.u64.wrap (L.length : Int) = L.length := u64_in (by omega) (by omega)
  by_cases hlt : n < L.length
  · have hx : L[n]? = some L[n] := by simp [hlt]
    have hm : nameM L n = (L[n], true) := by rw [nameM, hx]
    rw [hm]
    generalize L[n] = k at hx
    refine TK.fact (fun m hm => src_some1 (hs m hm) (by rw [strs_length]; omega)) ?_
    rintro ⟨b, o, rfl⟩
    have hc := has_str hs hx
    refine m_run ?_
    (apply TK.ret2; exact rfl; (exact m_val); (exact m_val))
    exact ⟨_, rfl, rfl, rfl⟩
  · have hm : nameM L n = ([], false) := by rw [nameM, List.getElem?_eq_none (by omega)]
    rw [hm]
    refine m_run ?_
    (apply TK.ret2; exact rfl; (exact m_val); (exact m_val))
    exact ⟨_, rfl, rfl, rfl⟩
theorem clone_str (A : Option Addr) (n c : Nat) (cs : List Value) (Γ : List HP) (h : has Γ (srcAt 1 A n cs)) (h1 : ∀ u ∈ cs, u.oneCell' = true) (hn : n ≤ 1000000) :
    FnV Try.prog 57 [.slice A n c] Γ fun v Γ' => ∃ A' c', n ≤ c' ∧ v = .slice A' n c' ∧ Γ' = own 9 1 v n cs :: Γ := by
  refine Fn.enter Try.func57 rfl rfl rfl fun E => ?_
  cases A with
  | none =>
    refine m_run ?_
    refine TK.mem fun m hm => ?_
    obtain ⟨h2, h3 | ⟨b, o, h3, _⟩⟩ := h m hm
    · subst h3
      obtain rfl : n = 0 := by simpa using h2.symm
      refine TK.free (own_nil 9 1 (m := ·)) ?_
      (apply TK.ret1; exact rfl; (exact m_val))
      exact ⟨_, rfl, none, 0, Nat.le_refl _, rfl, rfl⟩
    · cases h3
  | some a =>
    refine m_run ?_
    (apply TL.buildSlice; exact rfl; exact tb rfl; exact rfl; exact tb rfl; exact rfl; exact rfl; exact rfl; exact rfl; (exact m_lst))
    intro b
    refine m_run ?_
    (apply TL.appendE 0; exact rfl; exact rfl; exact tb rfl; exact rfl; exact tb rfl; exact rfl; exact rfl; exact rfl)
    exact fun m hm => own_row (n := 0) rfl (by decide) hm
    exact rfl
    exact m_hsrc
    exact h1
    · exact Nat.le_trans (Nat.mul_le_mul_right _ (by omega : 0 + n ≤ 1000000)) (by decide)
    · unfold maxLen; omega
    · exact Nat.zero_add _
    · exact List.nil_append _
    exact fun _ => (rfl : _ = _ :: _)
    intro A' c' hc
    refine m_run ?_
    (apply TK.ret1; exact rfl; (exact m_val))
    exact ⟨_, rfl, A', c', hc, rfl, rfl⟩
theorem list_tab (bt : Nat) (A : Option Addr) (c : Nat) (L : List (List UInt8)) (Γ : List HP) (h : has Γ (fun m => cellAt m bt 0 (.slice A L.length c))) (hs : has Γ (srcAt 1 A L.length (strs L))) (hL : L.length ≤ 1000000) :
    FnV Try.prog 32 [.pointer (some ⟨bt, 0, none⟩)] Γ fun v Γ' => ∃ A' c', L.length ≤ c' ∧ v = .slice A' L.length c' ∧ Γ' = own 9 1 v L.length (strs L) :: Γ := by
  refine Fn.enter Try.func32 rfl rfl rfl fun E => ?_
  refine m_run ?_
  (apply TL.callV; exact rfl; exact callB_of (by kernel_rfl); exact rfl; exact fun _ h => h)
  exact clone_str A L.length c (strs L) _ hs (strs_one L) hL
  rintro _ _ ⟨A', c', hc, rfl, rfl⟩
  refine m_run ?_
  (apply TK.ret1; exact rfl; (exact m_val))
  exact ⟨_, rfl, A', c', hc, rfl, rfl⟩
/-! ### of no table -/
theorem put_tnil (k : List UInt8) (Γ : List HP) : FnV Try.prog 27 [.pointer none, strV k] Γ fun v Γ' => v = .tuple #[numV 0, .int .i64 2] ∧ Γ' = Γ := by
  refine Fn.enter Try.func27 rfl rfl rfl fun E => ?_
  refine m_run ?_
  (apply TK.ret2; exact rfl; (exact m_val); (exact m_val))
  exact ⟨_, rfl, rfl, rfl⟩
theorem find_tnil (k : List UInt8) (Γ : List HP) : FnV Try.prog 30 [.pointer none, strV k] Γ fun v Γ' => v = .tuple #[numV 0, .bool false] ∧ Γ' = Γ := by
  refine Fn.enter Try.func30 rfl rfl rfl fun E => ?_
  refine m_run ?_
  (apply TK.ret2; exact rfl; (exact m_val); (exact m_val))
  exact ⟨_, rfl, rfl, rfl⟩
theorem name_tnil (n : Int) (Γ : List HP) : FnV Try.prog 31 [.pointer none, .int .u32 n] Γ fun v Γ' => v = .tuple #[strV [], .bool false] ∧ Γ' = Γ := by
  refine Fn.enter Try.func31 rfl rfl rfl fun E => ?_
  refine m_run ?_
  (apply TK.ret2; exact rfl; (exact m_val); (exact m_val))
  exact ⟨_, rfl, rfl, rfl⟩
theorem len_tnil (Γ : List HP) : FnV Try.prog 29 [.pointer none] Γ fun v Γ' => v = .int .i64 0 ∧ Γ' = Γ := by
  refine Fn.enter Try.func29 rfl rfl rfl fun E => ?_
  refine m_run ?_
  (apply TK.ret1; exact rfl; (exact m_val))
  exact ⟨_, rfl, rfl, rfl⟩
theorem list_tnil (Γ : List HP) : FnV Try.prog 32 [.pointer none] Γ fun v Γ' => v = .slice none 0 0 ∧ Γ' = Γ := by
  refine Fn.enter Try.func32 rfl rfl rfl fun E => ?_
  refine m_run ?_
  (apply TK.ret1; exact rfl; (exact m_val))
  exact ⟨_, rfl, rfl, rfl⟩
end Go.Proofs.Ytoccilnobgoncaa.E
