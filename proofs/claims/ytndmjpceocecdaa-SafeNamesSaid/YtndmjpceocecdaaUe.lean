/- What a clause holds, as the program finds it: literals (an iterator), held$1, walked. -/
import Derived.Test.YtndmjpceocecdaaUd
namespace Go.Proofs.Ytndmjpceocecdaa.E
open Go Go.RowKit Go.Proofs
attribute [local irreducible] TK TL TQ TA Fn PV
abbrev clRow (b : Nat) (c : Cl) : HP := row b [.int .u32 (c.h.p : Int), .slice c.h.A c.h.l.length c.h.c, .slice c.A c.l.length c.c] 36
theorem literals_t (c : Cl) (no : Bool) (Γ : List HP) : FnV Try.prog 63 [.agg c.cells.toArray, .bool no] Γ fun v Γ' => ∃ b b', v = .func (.func 82) #[] #[.pointer (some ⟨b, 0, none⟩), .pointer (some ⟨b', 0, none⟩)] ∧ Γ' = row b' [.bool no] 4 :: clRow b c :: Γ := by
  refine Fn.enter Try.func63 rfl rfl rfl fun E => ?_
  refine m_run ?_
  (apply TL.box; exact rfl; exact rfl; (exact m_lst))
  intro b
  refine m_run ?_
  (apply TL.box; exact rfl; exact rfl; (exact m_lst))
  intro b'
  refine m_run ?_
  (apply TL.pv; exact rfl; (apply PV.makeFunc; exact rfl; exact rfl))
  refine m_run ?_
  (apply TK.ret1; exact rfl; exact rfl; (exact m_val))
  exact ⟨_, rfl, b, b', rfl, rfl⟩
set_option maxRecDepth 100000 in
set_option maxHeartbeats 1000000 in
/-- The iterator, whatever the loop does: it goes on, or stops. -/
theorem literals1_t (l : Nat) (D : LD) (hD : D.ps.size = 1) (b b' : Nat) (c : Cl) (no : Bool) (S : List Lt → List HP → Prop) (Stop : List HP → Prop) (hn : c.l.length ≤ 1000000)
    (hS : ∀ pre Δ, S pre Δ → has Δ (srcAt 3 c.A c.l.length (ltsC c.l)))
    (round : ∀ i x Δ, c.l[i]? = some x → (x.no == no) = true → S (litsOf no (c.l.take i)) Δ → Rnd Try.prog l D [.agg x.a.cells.toArray] (loopA l D .ready none :: row b' [.bool no] 4 :: clRow b c :: Δ) fun t Γ' => (t = true ∧ ∃ Δ', S (litsOf no (c.l.take i) ++ [x]) Δ' ∧ Γ' = loopA l D .ready none :: row b' [.bool no] 4 :: clRow b c :: Δ') ∨ (t = false ∧ Stop Γ'))
    (Δ : List HP) (h0 : S [] Δ) :
    FnV Try.prog 82 [.func (.yield l) #[] #[], .pointer (some ⟨b, 0, none⟩), .pointer (some ⟨b', 0, none⟩)] (loopA l D .ready none :: row b' [.bool no] 4 :: clRow b c :: Δ)
      fun _ Γ' => (∃ Δ', S (litsOf no c.l) Δ' ∧ Γ' = loopA l D .ready none :: row b' [.bool no] 4 :: clRow b c :: Δ') ∨ Stop Γ' := by
  refine Fn.enterIn Try.func82 rfl rfl rfl fun E => ?_
  refine m_run ?_
  apply TK.iter (fun j ρ' Γ' => ∃ (i : Nat) (Δ' : List HP), c.l.length = i + j ∧ S (litsOf no (c.l.take i)) Δ' ∧ lk ρ' 0 = .func (.yield l) #[] #[] ∧ lk ρ' 2 = .pointer (some ⟨b', 0, none⟩) ∧ lk ρ' 7 = .slice c.A c.l.length c.c ∧ lk ρ' 8 = .int .i64 (c.l.length : Int) ∧ lk ρ' 9 = .int .i64 (i : Int) ∧ Γ' = loopA l D .ready none :: row b' [.bool no] 4 :: clRow b c :: Δ') c.l.length
  · exact ⟨0, Δ, by omega, h0, rfl, rfl, rfl, rfl, rfl, rfl⟩
  rintro j IH ρ' _ ⟨i, Δ', hj, hSi, e0, e2, e7, e8, e9, rfl⟩
  refine TK.know5 e0 e2 e7 e8 e9 ?_
  by_cases hi : i < c.l.length
  · obtain ⟨x, hx⟩ : ∃ x, c.l[i]? = some x := ⟨c.l[i], List.getElem?_eq_getElem hi⟩
    have hs0 := hS _ _ hSi
    refine TK.mem fun m0 hm0 => ?_
    obtain ⟨g, o, hA⟩ := src_some ((has_tls (has_tls (has_tls hs0)) : has (loopA l D .ready none :: row b' [.bool no] 4 :: clRow b c :: Δ') _) m0 hm0) (by rw [ltsC_len]; omega)
    clear hm0 m0
    rw [hA] at hs0
    refine TK.know (t := 7) (v := .slice (some ⟨g, o, none⟩) c.l.length c.c) (by rw [← hA]; rfl) ?_
    obtain ⟨hel, _, hat⟩ := has_lit hs0 hx
    have hsn := litsOf_snoc (no := no) hx
    refine m_run ?_
    (apply TL.alloc; exact rfl; exact tb rfl; exact (rfl : _ = [_, _, _]))
    intro b5
    cases hxn : (x.no == no) with
    | false =>
      rw [hxn] at hsn
      refine m_run ?_
      refine TK.drop ?_
      refine IH (j - 1) _ _ (by omega) ⟨i + 1, Δ', by omega, ?_, rfl, rfl, ?_, rfl, congrArg (Value.int .i64) (i64_succ i (by omega)), rfl⟩
      · rw [hsn]; exact hSi
      · rw [hA]; rfl
    | true =>
      rw [hxn, if_pos rfl] at hsn
      refine m_run ?_
      refine TL.drop ?_
      (apply TL.yield 0; exact rfl; exact rfl; exact rfl; exact rfl; exact rfl; exact (by simp [hD]); exact round i x Δ' hx hxn hSi)
      rintro t Γ' (⟨rfl, Δ2, hS2, rfl⟩ | ⟨rfl, hstop⟩)
      · refine m_run ?_
        refine IH (j - 1) _ _ (by omega) ⟨i + 1, Δ2, by omega, ?_, rfl, rfl, ?_, rfl, congrArg (Value.int .i64) (i64_succ i (by omega)), rfl⟩
        · rw [hsn]; exact hS2
        · rw [hA]; rfl
      · refine m_run ?_
        (apply TK.ret0; exact rfl; exact rfl)
        exact ⟨_, rfl, .inr hstop⟩
  · rw [List.take_of_length_le (by omega)] at hSi
    refine m_run ?_
    (apply TK.over0; exact rfl; exact rfl)
    exact ⟨_, rfl, .inl ⟨Δ', hSi, rfl⟩⟩
end Go.Proofs.Ytndmjpceocecdaa.E
