/- The program's PutVar: an iterator and a loop over it: walked. -/
import Derived.Test.YtoccilnobgoncaaO2
namespace Go.Proofs.Ytoccilnobgoncaa.E
open Go Go.RowKit Go.Proofs
attribute [local irreducible] TK TL TQ TA Fn PV
theorem parts_t (n : Nat) (Γ : List HP) : FnV Try.prog 60 [.int .u64 (n : Int)] Γ fun v Γ' => ∃ b, v = .func (.func 68) #[] #[.pointer (some ⟨b, 0, none⟩)] ∧ Γ' = row b [.int .u64 (n : Int)] 27 :: Γ := by
  refine Fn.enter Try.func60 rfl rfl rfl fun E => ?_
  refine m_run ?_
  (apply TL.box; exact rfl; exact rfl; (exact m_lst))
  intro b
  refine m_run ?_
  (apply TL.pv; exact rfl; (apply PV.makeFunc; exact rfl; exact rfl))
  refine m_run ?_
  (apply TK.ret1; exact rfl; exact rfl; (exact m_val))
  exact ⟨_, rfl, b, rfl, rfl⟩
theorem or128 : ∀ a, a < 256 → a ||| 128 = a % 128 + 128 := by decide +kernel
theorem b8_or (k : Nat) : bitsOf .or .u8 ((b8 k).toNat : Int) 128 = ((b8 (k % 128 + 128)).toNat : Int) := by
  have h1 : (b8 k).toNat = k % 256 := UInt8.toNat_ofNat'
  rw [show (128 : Int) = ((128 : Nat) : Int) from rfl, bits_or rfl (UInt8.toNat_lt _) (by decide), or128 _ (UInt8.toNat_lt _), h1, b8_nat (by omega)]
  congr 2; omega
/-- The iterator, whatever the loop does that goes on. -/
theorem parts1_t (l : Nat) (D : LD) (hD : D.ps.size = 1) (pb : Nat) (S : List UInt8 → List HP → Prop) (n : Nat) (hn : n < 18446744073709551616)
    (round : ∀ pre c x Δ, pre.length < (varM n).length → S pre Δ → Rnd Try.prog l D [.int .u8 (c.toNat : Int)] (loopA l D .ready none :: row pb [x] 27 :: Δ) fun t Γ' => t = true ∧ ∃ Δ', S (pre ++ [c]) Δ' ∧ Γ' = loopA l D .ready none :: row pb [x] 27 :: Δ')
    (Δ : List HP) (h0 : S [] Δ) :
    FnV Try.prog 68 [.func (.yield l) #[] #[], .pointer (some ⟨pb, 0, none⟩)] (loopA l D .ready none :: row pb [.int .u64 (n : Int)] 27 :: Δ) fun _ Γ' => ∃ x Δ', S (varM n) Δ' ∧ Γ' = loopA l D .ready none :: row pb [x] 27 :: Δ' := by
  refine Fn.enterIn Try.func68 rfl rfl rfl fun E => ?_
  refine m_run ?_
  apply TK.iter (fun j ρ' Γ' => ∃ (k : Nat) (o : List UInt8) (Δ' : List HP), k ≤ j ∧ k < 18446744073709551616 ∧ varM n = o ++ varM k ∧ S o Δ' ∧ lk ρ' 0 = .func (.yield l) #[] #[] ∧ lk ρ' 1 = .pointer (some ⟨pb, 0, none⟩) ∧ Γ' = loopA l D .ready none :: row pb [.int .u64 (k : Int)] 27 :: Δ') n
  · exact ⟨n, [], Δ, Nat.le_refl _, hn, rfl, h0, rfl, rfl, rfl⟩
  rintro j IH ρ' Γ' ⟨k, o, Δ', hkj, hk, hv, hS, e0, e1, rfl⟩
  refine TK.know2 e0 e1 ?_
  by_cases hlt : k < 128
  · refine m_run ?_
    refine TL.know (t := 15) (v := .int .u8 ((b8 k).toNat : Int)) (congrArg (Value.int .u8) (u8_wrap k)) ?_
    (apply TL.yield 0; exact rfl; exact rfl; exact rfl; exact rfl; exact rfl; exact (by simp [hD]); exact round o (b8 k) _ Δ' (by rw [hv, List.length_append]; have := varM_pos k; omega) hS)
    rintro _ _ ⟨rfl, Δ2, hS2, rfl⟩
    refine m_run ?_
    (apply TK.over0; exact rfl; exact rfl)
    refine ⟨_, rfl, _, Δ2, ?_, rfl⟩
    rw [hv, varM_lt hlt]; exact hS2
  · refine m_run ?_
    refine TL.know (t := 8) (v := .int .u8 ((b8 (k % 128 + 128)).toNat : Int)) (congrArg (Value.int .u8) ?_) ?_
    · rw [u8_wrap, b8_or]
    (apply TL.yield 0; exact rfl; exact rfl; exact rfl; exact rfl; exact rfl; exact (by simp [hD]); exact round o (b8 (k % 128 + 128)) _ Δ' (by rw [hv, List.length_append]; have := varM_pos k; omega) hS)
    rintro _ _ ⟨rfl, Δ2, hS2, rfl⟩
    refine m_run ?_
    refine IH (k / 2 ^ 7) _ _ (by omega) ⟨k / 2 ^ 7, o ++ [b8 (k % 128 + 128)], Δ2, Nat.le_refl _, by omega, ?_, hS2, rfl, rfl, rfl⟩
    rw [hv, varM_ge hlt, List.append_assoc]; rfl
set_option maxRecDepth 100000 in
theorem putvar_t (A : Option Addr) (m c : Nat) (l : List UInt8) (n : Nat) (Γ : List HP) (hs : has Γ (srcAt 1 A m (bytesV l))) (hn : n < 18446744073709551616) (hl : l.length ≤ 1000000000) :
    FnV Try.prog 42 [.slice A m c, .int .u64 (n : Int)] Γ (RB 5 Γ (l ++ varM n)) := by
  refine Fn.enter Try.func42 rfl rfl rfl fun E => ?_
  have hv := varM_len n hn
  refine m_run ?_
  (apply TL.callV; exact rfl; exact callB_of (by kernel_rfl); exact rfl; exact fun _ h => h)
  exact clone_t A m c l _ hs (by omega)
  rintro _ _ ⟨A2, c2, rfl, hc2, rfl⟩
  refine m_run ?_
  (apply TL.alloc; exact rfl; exact tb rfl; (exact m_lst))
  intro b5
  refine m_run ?_
  (apply TL.callV; exact rfl; exact callB_of (by kernel_rfl); exact rfl; exact fun _ h => h)
  exact parts_t n _
  rintro _ _ ⟨pb, rfl, rfl⟩
  refine m_run ?_
  apply TK.rangeF (first := []) (cap := [.pointer (some ⟨pb, 0, none⟩)]) (RI := fun l' r' D _ Γ' => ∃ x A3 c3, (l ++ varM n).length ≤ c3 ∧ Γ' = loopA l' D .ready none :: row pb [x] 27 :: [dfA r', row b5 [.slice A3 (l ++ varM n).length c3] 43, bsA 5 (.slice A3 (l ++ varM n).length c3) (l ++ varM n)] ++ Γ)
  · exact rfl
  · exact rfl
  · exact callB_of (by kernel_rfl)
  · intro l' r' D hD
    refine Fn.mono (Fn.imp (parts1_t l' D (by rw [hD]; rfl) pb (fun pre Δ => ∃ A3 c3, (l ++ pre).length ≤ c3 ∧ Δ = [dfA r', row b5 [.slice A3 (l ++ pre).length c3] 43, bsA 5 (.slice A3 (l ++ pre).length c3) (l ++ pre)] ++ Γ) n hn ?_ _ ⟨A2, c2, ?_, rfl⟩) ?_) ?_
    · rintro pre ch x _ hpl ⟨A3, c3, hc3, rfl⟩
      refine Rnd.enterD hD Try.func42 rfl fun E2 => ?_
      refine m_run ?_
      (apply TK.begin 0; exact rfl; exact rfl; exact (rfl : _ = _ :: _))
      refine m_run ?_
      (apply TL.buildSlice; exact rfl; exact tb rfl; exact rfl; exact tb rfl; exact rfl; exact rfl; exact rfl; exact rfl; (exact m_lst))
      intro b
      refine m_run ?_
      (apply TL.appB (s := [ ch]) 5; exact rfl; exact rfl; exact tb rfl; exact rfl; exact tb rfl; exact rfl; exact rfl; exact rfl; exact rfl; exact fun _ h => h; exact rfl; exact has_src_row 0 rfl rfl)
      · simp; omega
      · exact fun _ => (rfl : _ = _ :: _ :: _ :: _ :: _ :: _ :: _)
      intro A4 c4 hc4
      refine m_run ?_
      refine TK.drop ?_
      (apply TK.roundEnd 0; exact rfl; exact rfl)
      refine ⟨true, rfl, rfl, _, ⟨A4, c4, ?_, ?_⟩, rfl⟩
      · rw [← List.append_assoc]; exact hc4
      · rw [← List.append_assoc]; rfl
    · simpa using hc2
    · intro m hm
      have h1 := all_perm (List.Perm.cons _ (List.Perm.swap _ _ _)) hm
      rw [List.append_nil]
      exact h1
    · rintro e Γ' ⟨v, rfl, x, _, ⟨A3, c3, hc3, rfl⟩, rfl⟩
      exact ⟨v, rfl, x, A3, c3, hc3, rfl⟩
  · rintro l' r' D v Γ' hD ⟨x, A3, c3, hc3, rfl⟩
    refine ⟨0, _, _, rfl, by simp, ?_⟩
    refine m_run ?_
    (apply TK.unmark 1; exact rfl; (rintro _ ⟨_, h, _⟩; cases h); exact rfl)
    (apply TK.retS1; exact rfl; exact rfl; (exact m_val))
    · exact ⟨_, rfl, _, _, rfl, hc3, rfl⟩
    · (repeat (first | exact List.Sublist.refl _ | apply List.Sublist.cons_cons | apply List.Sublist.cons))
end Go.Proofs.Ytoccilnobgoncaa.E
