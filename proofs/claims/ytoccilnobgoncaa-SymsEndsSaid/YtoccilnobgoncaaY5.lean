/- The example 'works' of the names answers true. -/
import Derived.Test.YtoccilnobgoncaaY4
namespace Go.Proofs.Ytoccilnobgoncaa.E
open Go Go.RowKit Go.Proofs
attribute [local irreducible] TK TL TQ TA Fn PV
theorem put_at (bt mb : Nat) (v : Value) (L : List (List UInt8)) (k : List UInt8) (Γ : List HP) {n : Nat} {e : Int} {L' : List (List UInt8)} (hp : putM L k = (n, e, L')) (hk : k.length ≤ 1000000) (hL : L.length ≤ 4096) :
    FnV Try.prog 27 [.pointer (some ⟨bt, 0, none⟩), strV k] (tabAt bt mb v L Γ) fun r Γ' => ∃ v', r = .tuple #[numV n, .int .i64 e] ∧ Γ' = tabAt bt mb v' L' Γ := by
  have := put_tab bt mb v L k Γ hk hL
  rw [hp] at this
  exact this
theorem name_at (bt mb : Nat) (v : Value) (L : List (List UInt8)) (n : Nat) (Γ : List HP) (hn : n ≤ 4294967295) (hL : L.length ≤ 1000000) :
    FnV Try.prog 31 [.pointer (some ⟨bt, 0, none⟩), numV n] (tabAt bt mb v L Γ) fun r Γ' => r = .tuple #[strV (nameM L n).1, .bool (nameM L n).2] ∧ Γ' = tabAt bt mb v L Γ := by
  refine Fn.mem fun m hm => ?_
  obtain ⟨A, c, rfl, _⟩ := all_at 1 rfl (fun _ h => own_shape h) m hm
  exact name_tab bt A c L n _ (has_row 0 rfl rfl) (has_at (up_src _ _ _ _) 1 rfl fun m h => own_src h) hn hL
theorem find_at (bt mb : Nat) (v : Value) (L : List (List UInt8)) (k : List UInt8) (Γ : List HP) :
    FnV Try.prog 30 [.pointer (some ⟨bt, 0, none⟩), strV k] (tabAt bt mb v L Γ) fun r Γ' => r = .tuple #[numV ((findName L k).getD 0), .bool (findName L k).isSome] ∧ Γ' = tabAt bt mb v L Γ :=
  find_tab bt mb L k _ (has_row 0 rfl rfl) (has_at (up_map _ _ _ _) 2 rfl fun m h => mapA_at h)
theorem len_at (bt mb : Nat) (v : Value) (L : List (List UInt8)) (Γ : List HP) :
    FnV Try.prog 29 [.pointer (some ⟨bt, 0, none⟩)] (tabAt bt mb v L Γ) fun r Γ' => r = .int .i64 L.length ∧ Γ' = tabAt bt mb v L Γ := by
  refine Fn.mem fun m hm => ?_
  obtain ⟨A, c, rfl, _⟩ := all_at 1 rfl (fun _ h => own_shape h) m hm
  exact len_tab bt A L.length c _ (has_row 0 rfl rfl)
theorem list_at (bt mb : Nat) (v : Value) (L : List (List UInt8)) (Γ : List HP) (hL : L.length ≤ 1000000) :
    FnV Try.prog 32 [.pointer (some ⟨bt, 0, none⟩)] (tabAt bt mb v L Γ) fun r Γ' => ∃ A' c', L.length ≤ c' ∧ r = .slice A' L.length c' ∧ Γ' = own 9 1 r L.length (strs L) :: tabAt bt mb v L Γ := by
  refine Fn.mem fun m hm => ?_
  obtain ⟨A, c, rfl, _⟩ := all_at 1 rfl (fun _ h => own_shape h) m hm
  exact list_tab bt A c L _ (has_row 0 rfl rfl) (has_at (up_src _ _ _ _) 1 rfl fun m h => own_src h) hL
set_option maxRecDepth 100000 in
theorem works4_t (Γ : List HP) : FnV Try.prog 23 [] Γ fun v Γ' => v = .bool true ∧ Γ' = Γ := by
  refine Fn.enter Try.func23 rfl rfl rfl fun E => ?_
  refine m_run ?_
  (apply TL.callV; exact rfl; exact callB_of (by kernel_rfl); exact rfl; exact fun _ h => h)
  exact new_tab _
  rintro _ _ ⟨bt, mb, rfl, rfl⟩
  refine m_run ?_
  (apply TL.callV; exact rfl; exact callB_of (by kernel_rfl); exact rfl; exact fun _ h => h)
  exact put_at bt mb _ [] [97] _ (by decide +kernel : putM [] [97] = (0, 0, [[97]])) (by decide) (by decide)
  rintro _ _ ⟨v1, rfl, rfl⟩
  refine m_run ?_
  (apply TL.callV; exact rfl; exact callB_of (by kernel_rfl); exact rfl; exact fun _ h => h)
  exact put_at bt mb _ [[97]] [66, 95, 49] _ (by decide +kernel : putM [[97]] [66, 95, 49] = (1, 0, [[97], [66, 95, 49]])) (by decide) (by decide)
  rintro _ _ ⟨v2, rfl, rfl⟩
  refine m_run ?_
  (apply TL.callV; exact rfl; exact callB_of (by kernel_rfl); exact rfl; exact fun _ h => h)
  exact put_at bt mb _ [[97], [66, 95, 49]] [97] _ (by decide +kernel : putM [[97], [66, 95, 49]] [97] = (0, 0, [[97], [66, 95, 49]])) (by decide) (by decide)
  rintro _ _ ⟨v3, rfl, rfl⟩
  refine m_run ?_
  (apply TL.callV; exact rfl; exact callB_of (by kernel_rfl); exact rfl; exact fun _ h => h)
  exact name_at bt mb _ [[97], [66, 95, 49]] 1 _ (by decide) (by decide)
  rintro _ _ ⟨rfl, rfl⟩
  refine m_run ?_
  (apply TL.callV; exact rfl; exact callB_of (by kernel_rfl); exact rfl; exact fun _ h => h)
  exact find_at bt mb _ [[97], [66, 95, 49]] [99] _
  rintro _ _ ⟨rfl, rfl⟩
  refine m_run ?_
  (apply TL.callV; exact rfl; exact callB_of (by kernel_rfl); exact rfl; exact fun _ h => h)
  exact put_at bt mb _ [[97], [66, 95, 49]] [97, 32, 98] _ (by decide +kernel : putM [[97], [66, 95, 49]] [97, 32, 98] = (0, 8, [[97], [66, 95, 49]])) (by decide) (by decide)
  rintro _ _ ⟨v4, rfl, rfl⟩
  refine m_run ?_
  (apply TL.callV; exact rfl; exact callB_of (by kernel_rfl); exact rfl; exact fun _ h => h)
  exact put_at bt mb _ [[97], [66, 95, 49]] [] _ (by decide +kernel : putM [[97], [66, 95, 49]] [] = (0, 8, [[97], [66, 95, 49]])) (by decide) (by decide)
  rintro _ _ ⟨v5, rfl, rfl⟩
  refine m_run ?_
  (apply TK.retS1; exact rfl; (exact m_val))
  · refine ⟨_, rfl, ?_, rfl⟩
    rfl
  · (repeat (first | exact List.Sublist.refl _ | apply List.Sublist.cons_cons | apply List.Sublist.cons))
set_option maxRecDepth 100000 in
theorem symsnil_t (k : List UInt8) (n : Int) (Γ : List HP) : FnV Try.prog 6 [strV k, .int .u32 n] Γ fun v Γ' => v = .bool true ∧ Γ' = Γ := by
  refine Fn.enter Try.func6 rfl rfl rfl fun E => ?_
  by_cases h : 200 < k.length
  · refine m_run ?_
    (apply TL.callV; exact rfl; exact callB_of (by kernel_rfl); exact rfl; exact fun _ h => h)
    exact works4_t _
    rintro _ _ ⟨rfl, rfl⟩
    refine m_run ?_
    (apply TK.ret1; exact rfl; (exact m_val))
    exact ⟨_, rfl, rfl, rfl⟩
  · refine m_run ?_
    (apply TL.callV; exact rfl; exact callB_of (by kernel_rfl); exact rfl; exact fun _ h => h)
    exact put_tnil k _
    rintro _ _ ⟨rfl, rfl⟩
    refine m_run ?_
    (apply TL.callV; exact rfl; exact callB_of (by kernel_rfl); exact rfl; exact fun _ h => h)
    exact find_tnil k _
    rintro _ _ ⟨rfl, rfl⟩
    refine m_run ?_
    (apply TL.callV; exact rfl; exact callB_of (by kernel_rfl); exact rfl; exact fun _ h => h)
    exact name_tnil n _
    rintro _ _ ⟨rfl, rfl⟩
    refine m_run ?_
    (apply TL.callV; exact rfl; exact callB_of (by kernel_rfl); exact rfl; exact fun _ h => h)
    exact len_tnil _
    rintro _ _ ⟨rfl, rfl⟩
    refine m_run ?_
    (apply TL.callV; exact rfl; exact callB_of (by kernel_rfl); exact rfl; exact fun _ h => h)
    exact list_tnil _
    rintro _ _ ⟨rfl, rfl⟩
    refine m_run ?_
    (apply TL.callV; exact rfl; exact callB_of (by kernel_rfl); exact rfl; exact fun _ h => h)
    exact works4_t _
    rintro _ _ ⟨rfl, rfl⟩
    refine m_run ?_
    (apply TK.ret1; exact rfl; (exact m_val))
    exact ⟨_, rfl, rfl, rfl⟩
end Go.Proofs.Ytoccilnobgoncaa.E
