/- kept; works: walked. -/
import Derived.Test.YtoccilnobgoncaaO9
namespace Go.Proofs.Ytoccilnobgoncaa.E
open Go Go.RowKit Go.Proofs
attribute [local irreducible] TK TL TQ TA Fn PV
set_option maxRecDepth 100000 in
theorem kept_t (A B : Option Addr) (r m' c' : Nat) (l : List UInt8) (Γ : List HP) (h1 : has Γ (srcAt 1 A (l.length + r) (bytesV (l ++ List.replicate r 0)))) (h2 : has Γ (srcAt 1 B m' (bytesV l))) (hl : l.length + r ≤ 1000000000) :
    FnV Try.prog 43 [.slice A l.length (l.length + r), .slice B m' c'] Γ fun v Γ' => v = .bool true ∧ Γ' = Γ := by
  refine Fn.enter Try.func43 rfl rfl rfl fun E => ?_
  refine TK.mem fun m0 hm0 => ?_
  obtain rfl := src_lenB (h2 m0 hm0)
  have h3 : has Γ (srcAt 1 A l.length (bytesV l)) := has_imp h1 fun m hm => by
    have := src_take hm (show l.length ≤ l.length + r by omega)
    rwa [bytesV_append, Nat.mul_one, List.take_left' (bytesV_length l)] at this
  refine m_run ?_
  (apply TL.sliceHi (i := ((l.length + r : Nat) : Int)); exact rfl; exact rfl; exact rfl; exact tb rfl; exact rfl; exact tb rfl; omega; omega)
  rw [Int.toNat_natCast]
  refine m_run ?_
  apply TK.iter (fun j ρ' Γ' => ∃ (i : Nat), i + j = l.length + r ∧ l.length ≤ i ∧ lk ρ' 5 = .slice A (l.length + r) (l.length + r) ∧ lk ρ' 6 = .int .i64 (i : Int) ∧ Γ' = Γ) r
  · exact ⟨l.length, rfl, Nat.le_refl _, rfl, rfl, rfl⟩
  rintro j IH ρ' Γ ⟨i, hij, hil, e5, e6, rfl⟩
  refine TK.know2 e5 e6 ?_
  by_cases hi : i < l.length + r
  · have hz : (l ++ List.replicate r (0 : UInt8))[i]? = some 0 := by
      rw [List.getElem?_append_right hil, List.getElem?_replicate, if_pos (by omega)]
    refine TK.mem fun m1 hm1 => ?_
    obtain ⟨b, o, rfl⟩ := src_some (h1 m1 hm1) (by rw [bytesV_length, List.length_append, List.length_replicate]; omega)
    have hcell := has_byte h1 hz
    refine m_run ?_
    exact IH (j - 1) _ _ (by omega) ⟨i + 1, by omega, by omega, rfl, congrArg (Value.int .i64) (i64_succ i (by omega)), rfl⟩
  · refine m_run ?_
    (apply TK.ret1; exact rfl; exact rfl; (exact m_val))
    exact ⟨_, rfl, rfl, rfl⟩
set_option maxRecDepth 100000 in
theorem works1_t (Γ : List HP) : FnV Try.prog 40 [] Γ fun v Γ' => v = .bool true ∧ Γ' = Γ := by
  refine Fn.enter Try.func40 rfl rfl rfl fun E => ?_
  refine m_run ?_
  (apply TL.buildSlice; exact rfl; exact tb rfl; exact rfl; exact tb rfl; exact rfl; exact rfl; exact rfl; exact rfl; (exact m_lst))
  intro b1
  refine m_run ?_
  (apply TL.callV; exact rfl; exact callB_of (by kernel_rfl); exact rfl; exact fun _ h => h)
  exact takevar_t (some ⟨b1, 0, none⟩) 2 2 [128, 1] 0 _ (has_src_row 0 rfl rfl) (by decide) (by decide)
  rintro _ _ ⟨rfl, rfl⟩
  rw [show tkV (takeV [128, 1] 0) = .tuple #[.int .u64 128, .int .i64 2, .int .i64 0] by rw [show takeV [128, 1] 0 = (128, 2, 0) by decide +kernel]; rfl]
  refine m_run ?_
  (apply TL.buildSlice; exact rfl; exact tb rfl; exact rfl; exact tb rfl; exact rfl; exact rfl; exact rfl; exact rfl; (exact m_lst))
  intro b2
  refine m_run ?_
  (apply TL.callV; exact rfl; exact callB_of (by kernel_rfl); exact rfl; exact fun _ h => h)
  exact takevar_t (some ⟨b2, 0, none⟩) 2 2 [128, 0] 0 _ (has_src_row 0 rfl rfl) (by decide) (by decide)
  rintro _ _ ⟨rfl, rfl⟩
  rw [show tkV (takeV [128, 0] 0) = .tuple #[.int .u64 0, .int .i64 0, .int .i64 5] by rw [show takeV [128, 0] 0 = (0, 0, 5) by decide +kernel]; rfl]
  refine m_run ?_
  (apply TL.buildSlice; exact rfl; exact tb rfl; exact rfl; exact tb rfl; exact rfl; exact rfl; exact rfl; exact rfl; (exact m_lst))
  intro b3
  refine m_run ?_
  (apply TL.convConst 0; exact rfl; exact rfl; exact rfl; exact tb rfl; exact rfl; exact tb rfl; exact rfl; exact (rfl : _ = _ :: _))
  refine m_run ?_
  (apply TL.callV; exact rfl; exact callB_of (by kernel_rfl); exact rfl; exact fun _ h => h)
  exact takebytes_t (some ⟨b3, 0, none⟩) 4 4 [2, 97, 98, 99] 0 2 _ (has_roB 0 rfl rfl) (by decide) (by decide) (by decide) (by decide)
  rintro _ _ ⟨A1, c1, rfl, hc1, rfl⟩
  rw [show takeBy [2, 97, 98, 99] 0 2 = ([97, 98], 3, 0) by decide +kernel]
  refine m_run ?_
  (apply TL.buildSlice; exact rfl; exact tb rfl; exact rfl; exact tb rfl; exact rfl; exact rfl; exact rfl; exact rfl; (exact m_lst))
  intro b4
  refine m_run ?_
  (apply TL.convConst 0; exact rfl; exact rfl; exact rfl; exact tb rfl; exact rfl; exact tb rfl; exact rfl; exact (rfl : _ = _ :: _))
  refine m_run ?_
  (apply TL.callV; exact rfl; exact callB_of (by kernel_rfl); exact rfl; exact fun _ h => h)
  exact takebytes_t (some ⟨b4, 0, none⟩) 4 4 [2, 97, 98, 99] 0 1 _ (has_roB 0 rfl rfl) (by decide) (by decide) (by decide) (by decide)
  rintro _ _ ⟨A2, c2, rfl, hc2, rfl⟩
  rw [show takeBy [2, 97, 98, 99] 0 1 = ([], 0, 6) by decide +kernel]
  refine m_run ?_
  (apply TL.callV; exact rfl; exact callB_of (by kernel_rfl); exact rfl; exact fun _ h => h)
  exact putvar_t none 0 0 [] 300 _ (has_srcnil _ _) (by decide) (by decide)
  rintro _ _ ⟨A3, c3, rfl, hc3, rfl⟩
  rw [show [] ++ varM 300 = [172, 2] by rw [varM_ge (by decide), varM_lt (by decide)]; decide]
  refine m_run ?_
  (apply TL.callV; exact rfl; exact callB_of (by kernel_rfl); exact rfl; exact fun _ h => h)
  exact put_t none 0 0 [] 513 2 _ (has_srcnil _ _) (by decide) (by decide)
  rintro _ _ ⟨A4, c4, rfl, hc4, rfl⟩
  rw [show putM [] 513 2 = [2, 1] by decide +kernel]
  refine m_run ?_
  (apply TK.retS1; exact rfl; exact rfl; (exact m_val))
  · exact ⟨_, rfl, rfl, rfl⟩
  · (repeat (first | exact List.Sublist.refl _ | apply List.Sublist.cons_cons | apply List.Sublist.cons))
end Go.Proofs.Ytoccilnobgoncaa.E
