/- called: an atom with other numbers, walked. -/
import Derived.Test.YtndmjpceocecdaaUv
import Derived.Test.YtndmjpceocecdaaUs
namespace Go.Proofs.Ytndmjpceocecdaa.E
open Go Go.RowKit Go.Proofs
attribute [local irreducible] TK TL TQ TA TB Fn PV
theorem tmsC_one (l : List Tm) : ∀ u ∈ tmsC l, u.oneCell' = true := by
  intro u hu
  obtain ⟨p, _, hp⟩ := List.mem_flatMap.1 hu
  simp only [tmC, List.mem_cons, List.not_mem_nil, or_false] at hp
  rcases hp with rfl | rfl <;> rfl
theorem u32_add (a b : Nat) : IntKind.u32.wrap ((a : Int) + (b : Int)) = ((preN b a : Nat) : Int) := by
  rw [← Int.natCast_add, wrap_nat rfl]
  rfl
abbrev ownTm (A : Option Addr) (k : Nat) (T : List Tm) : HP := own 72 2 (.slice A T.length k) T.length (tmsC T)
set_option maxRecDepth 100000 in
set_option maxHeartbeats 4000000 in
theorem called_t (a : Atm) (mv y : Nat) (Γ : List HP) (h : a.ok Γ) (hn : a.l.length ≤ 1000000) (_ : y < 256) :
    FnV Try.prog 20 [.agg a.cells.toArray, .int .u32 (mv : Int), .int .u8 (y : Int)] Γ fun v Γ' => ∃ (B : Option Addr) (k : Nat), (a.l.map (renT y)).length ≤ k ∧ v = .agg (Atm.cells ⟨preN mv a.p, B, k, a.l.map (renT y)⟩).toArray ∧ Γ' = ownTm B k (a.l.map (renT y)) :: Γ := by
  refine Fn.enter Try.func20 rfl rfl rfl fun E => ?_
  obtain ⟨p, A, c, l⟩ := a
  have hs0 : has Γ (srcAt 2 A l.length (tmsC l)) := h.1
  replace hn : l.length ≤ 1000000 := hn
  refine m_run ?_
  (apply TL.box; exact rfl; exact rfl; (exact m_lst))
  intro b3
  refine m_run ?_
  (apply TL.alloc; exact rfl; exact tb rfl; exact (rfl : _ = [_, _]))
  intro b6
  refine TL.imp (Δ := row b6 [.int .u32 0, .slice none 0 0] 33 :: row b3 [.int .u32 (p : Int), .slice A l.length c] 33 :: Γ) (fun _ h => h) ?_
  refine m_run ?_
  refine TL.know (t := 13) (v := .int .u32 ((preN mv p : Nat) : Int)) (congrArg (Value.int .u32) (u32_add p mv)) ?_
  (apply TL.pv; exact rfl; (apply PV.build tabs; exact rfl; exact rfl; exact rfl; exact rfl; exact rfl; exact (rfl : _ = ([.int .u32 ((preN mv p : Nat) : Int), .slice none 0 0] : List Value))))
  (apply TL.alloc; exact rfl; exact tb rfl; exact (rfl : _ = [_, _]))
  intro b7
  refine m_run ?_
  refine TK.free (H := own 72 2 (.slice none 0 0) 0 []) (fun m hm => own_nil _ _ hm) ?_
  apply TK.iter (fun j ρ' Γ' => ∃ (i : Nat) (B : Option Addr) (k : Nat), l.length = i + j ∧ i ≤ k ∧ lk ρ' 2 = .int .u8 (y : Int) ∧ lk ρ' 3 = .pointer (some ⟨b3, 0, none⟩) ∧ lk ρ' 6 = .pointer (some ⟨b6, 0, none⟩) ∧ lk ρ' 7 = .pointer (some ⟨b7, 0, none⟩) ∧ lk ρ' 8 = .int .i64 (i : Int) ∧ Γ' = own 72 2 (.slice B i k) i (tmsC ((l.take i).map (renT y))) :: row b7 [.int .u32 ((preN mv p : Nat) : Int), .slice B i k] 33 :: row b6 [.int .u32 0, .slice none 0 0] 33 :: row b3 [.int .u32 (p : Int), .slice A l.length c] 33 :: Γ) l.length
  · exact ⟨0, none, 0, by omega, Nat.le_refl _, rfl, rfl, rfl, rfl, rfl, rfl⟩
  rintro j IH ρ' _ ⟨i, B, k, hj, hk, e2, e3, e6, e7, e8, rfl⟩
  refine TK.know5 e2 e3 e6 e7 e8 ?_
  by_cases hi : i < l.length
  · obtain ⟨⟨xv, xn⟩, hx⟩ : ∃ x, l[i]? = some x := ⟨l[i], List.getElem?_eq_getElem hi⟩
    refine TK.mem fun m0 hm0 => ?_
    obtain ⟨b, o, hA⟩ := src_some ((has_tls (has_tls (has_tls (has_tls hs0))) : has (_ :: _ :: _ :: _ :: Γ) _) m0 hm0) (by rw [tmsC_len]; omega)
    clear hm0 m0
    subst hA
    have hel : has Γ (fun m => cellsAt m b (o + i * 2) [.bool xv, .int .u32 (xn : Int)]) := has_el (f := tmC) (fun _ => rfl) (by decide) hs0 hx
    have hts : (l.take (i + 1)).map (renT y) = (l.take i).map (renT y) ++ [renT y ⟨xv, xn⟩] := by rw [List.take_add_one, hx]; simp
    have happ : tmsC ((l.take i).map (renT y)) ++ tmC (renT y ⟨xv, xn⟩) = tmsC ((l.take (i + 1)).map (renT y)) := by rw [hts]; simp [tmsC]
    refine m_run ?_
    (apply TL.alloc; exact rfl; exact tb rfl; exact (rfl : _ = [_, _]))
    intro b9
    cases xv with
    | false =>
      have happ2 : tmsC ((l.take i).map (renT y)) ++ [.bool false, .int .u32 (xn : Int)] = tmsC ((l.take (i + 1)).map (renT y)) := by rw [← happ]; rfl
      refine m_run ?_
      (apply TL.buildSlice (l := [.bool false, .int .u32 (xn : Int)]); exact rfl; exact tb rfl; exact rfl; exact tb rfl; exact rfl; exact rfl; exact rfl; exact rfl; exact rfl)
      intro b44
      refine m_run ?_
      (apply TL.append 2; exact rfl; exact rfl; exact tb rfl; exact rfl; exact tb rfl; exact rfl; exact rfl; exact rfl)
      · exact fun _ h => h
      · exact rfl
      · exact has_src_row 0 rfl rfl
      · exact by intro u hu; simp only [List.mem_cons, List.not_mem_nil, or_false] at hu; rcases hu with rfl | rfl <;> rfl
      · show (i + 1) * 8 ≤ _; omega
      · show i + 1 ≤ maxLen; unfold maxLen; omega
      · exact fun _ => (rfl : _ = _ :: _ :: _ :: _)
      intro B2 k2 hk2
      rw [happ2]
      refine m_run ?_
      refine TK.sub (Δ := own 72 2 (.slice B2 (i + 1) k2) (i + 1) (tmsC ((l.take (i + 1)).map (renT y))) :: row b7 [.int .u32 ((preN mv p : Nat) : Int), .slice B2 (i + 1) k2] 33 :: row b6 [.int .u32 0, .slice none 0 0] 33 :: row b3 [.int .u32 (p : Int), .slice (some ⟨b, o, none⟩) l.length c] 33 :: Γ) (by (repeat (first | exact List.Sublist.refl _ | apply List.Sublist.cons_cons | apply List.Sublist.cons))) ?_
      exact IH (j - 1) _ _ (by omega) ⟨i + 1, B2, k2, by omega, hk2, rfl, rfl, rfl, rfl, congrArg (Value.int .i64) (i64_succ i (by omega)), rfl⟩
    | true =>
    by_cases h16 : xn < 16
    · have hren : renT y ⟨true, xn⟩ = ⟨true, (xn + y) % 16⟩ := if_pos ⟨rfl, h16⟩
      have happ2 : tmsC ((l.take i).map (renT y)) ++ [.bool true, .int .u32 (((xn + y) % 16 : Nat) : Int)] = tmsC ((l.take (i + 1)).map (renT y)) := by rw [← happ, hren]; rfl
      have hraw : (xn + y % ((2 : Int) ^ IntKind.u32.bits).natAbs) % ((2 : Int) ^ IntKind.u32.bits).natAbs % 16 = (xn + y) % 16 := by
        rw [show ((2 : Int) ^ IntKind.u32.bits).natAbs = 4294967296 from rfl]
        omega
      refine m_run ?_
      rw [hraw]
      (apply TL.buildSlice (l := [.bool true, .int .u32 (((xn + y) % 16 : Nat) : Int)]); exact rfl; exact tb rfl; exact rfl; exact tb rfl; exact rfl; exact rfl; exact rfl; exact rfl; exact rfl)
      intro b44
      refine m_run ?_
      (apply TL.append 2; exact rfl; exact rfl; exact tb rfl; exact rfl; exact tb rfl; exact rfl; exact rfl; exact rfl)
      · exact fun _ h => h
      · exact rfl
      · exact has_src_row 0 rfl rfl
      · exact by intro u hu; simp only [List.mem_cons, List.not_mem_nil, or_false] at hu; rcases hu with rfl | rfl <;> rfl
      · show (i + 1) * 8 ≤ _; omega
      · show i + 1 ≤ maxLen; unfold maxLen; omega
      · exact fun _ => (rfl : _ = _ :: _ :: _ :: _)
      intro B2 k2 hk2
      rw [happ2]
      refine m_run ?_
      refine TK.sub (Δ := own 72 2 (.slice B2 (i + 1) k2) (i + 1) (tmsC ((l.take (i + 1)).map (renT y))) :: row b7 [.int .u32 ((preN mv p : Nat) : Int), .slice B2 (i + 1) k2] 33 :: row b6 [.int .u32 0, .slice none 0 0] 33 :: row b3 [.int .u32 (p : Int), .slice (some ⟨b, o, none⟩) l.length c] 33 :: Γ) (by (repeat (first | exact List.Sublist.refl _ | apply List.Sublist.cons_cons | apply List.Sublist.cons))) ?_
      exact IH (j - 1) _ _ (by omega) ⟨i + 1, B2, k2, by omega, hk2, rfl, rfl, rfl, rfl, congrArg (Value.int .i64) (i64_succ i (by omega)), rfl⟩
    · have hren : renT y ⟨true, xn⟩ = ⟨true, xn⟩ := if_neg (fun e => h16 e.2)
      have happ2 : tmsC ((l.take i).map (renT y)) ++ [.bool true, .int .u32 (xn : Int)] = tmsC ((l.take (i + 1)).map (renT y)) := by rw [← happ, hren]; rfl
      refine m_run ?_
      (apply TL.buildSlice (l := [.bool true, .int .u32 (xn : Int)]); exact rfl; exact tb rfl; exact rfl; exact tb rfl; exact rfl; exact rfl; exact rfl; exact rfl; exact rfl)
      intro b44
      refine m_run ?_
      (apply TL.append 2; exact rfl; exact rfl; exact tb rfl; exact rfl; exact tb rfl; exact rfl; exact rfl; exact rfl)
      · exact fun _ h => h
      · exact rfl
      · exact has_src_row 0 rfl rfl
      · exact by intro u hu; simp only [List.mem_cons, List.not_mem_nil, or_false] at hu; rcases hu with rfl | rfl <;> rfl
      · show (i + 1) * 8 ≤ _; omega
      · show i + 1 ≤ maxLen; unfold maxLen; omega
      · exact fun _ => (rfl : _ = _ :: _ :: _ :: _)
      intro B2 k2 hk2
      rw [happ2]
      refine m_run ?_
      refine TK.sub (Δ := own 72 2 (.slice B2 (i + 1) k2) (i + 1) (tmsC ((l.take (i + 1)).map (renT y))) :: row b7 [.int .u32 ((preN mv p : Nat) : Int), .slice B2 (i + 1) k2] 33 :: row b6 [.int .u32 0, .slice none 0 0] 33 :: row b3 [.int .u32 (p : Int), .slice (some ⟨b, o, none⟩) l.length c] 33 :: Γ) (by (repeat (first | exact List.Sublist.refl _ | apply List.Sublist.cons_cons | apply List.Sublist.cons))) ?_
      exact IH (j - 1) _ _ (by omega) ⟨i + 1, B2, k2, by omega, hk2, rfl, rfl, rfl, rfl, congrArg (Value.int .i64) (i64_succ i (by omega)), rfl⟩
  · obtain rfl : i = l.length := by omega
    have hlen : (l.map (renT y)).length = l.length := List.length_map ..
    rw [List.take_length]
    refine m_run ?_
    (apply TK.retRow (i := 2) (Δ := own 72 2 (.slice B l.length k) l.length (tmsC (l.map (renT y))) :: Γ); exact rfl; exact rfl; exact rfl; exact rfl; exact tb rfl; exact rfl; exact (rfl : _ = [_, _]); exact rfl)
    · exact ⟨_, rfl, B, k, by rw [hlen]; exact hk, by simp only [Atm.cells, hlen], by unfold ownTm; rw [hlen]⟩
    · (repeat (first | exact List.Sublist.refl _ | apply List.Sublist.cons_cons | apply List.Sublist.cons))
end Go.Proofs.Ytndmjpceocecdaa.E
