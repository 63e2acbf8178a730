/- The document's ring: Drop and Put, walked. -/
import Derived.Test.YtdookobgkcnncaaGl
namespace Go.Proofs.Ytdookobgkcnncaa.E
open Go Go.RowKit Go.Proofs
attribute [local irreducible] TK TL TQ TA TB Fn PV
theorem entsC_erase (L : Kys) (i : Nat) : [] ++ ((entsC L).drop (0 * 2)).take ((i - 0) * 2) ++ ((entsC L).drop ((i + 1) * 2)).take ((L.length - (i + 1)) * 2) = entsC (L.eraseIdx i) := by
  rw [Nat.zero_mul, List.drop_zero, Nat.sub_zero, List.nil_append, ← flat_take (f := entC) (sz := 2) (fun _ => rfl), ← flat_drop (f := entC) (sz := 2) (fun _ => rfl), List.take_of_length_le (l := (L.drop (i + 1)).flatMap entC), List.eraseIdx_eq_take_drop_succ, entsC, List.flatMap_append]
  rw [entsC_len, List.length_drop]
  exact Nat.le_refl _
theorem entC_one (L : Kys) : ∀ u ∈ entsC L, u.oneCell' = true := by
  intro u hu
  obtain ⟨p, _, hp⟩ := List.mem_flatMap.1 hu
  simp only [entC, List.mem_cons, List.not_mem_nil, or_false] at hp
  rcases hp with rfl | rfl <;> rfl
theorem part_one (L : Kys) (i j : Nat) : ∀ u ∈ ((entsC L).drop i).take j, u.oneCell' = true := fun u hu => entC_one L u (List.mem_of_mem_drop (List.mem_of_mem_take hu))
set_option maxRecDepth 100000 in
set_option maxHeartbeats 2000000 in
theorem dropD_t (bd w : Nat) (A : Option Addr) (c : Nat) (L : Kys) (Γ : List HP) (hn : L.length ≤ 1000000) :
    FnV Try.prog 10 [.pointer (some ⟨bd, 0, none⟩), .int .u32 (w : Int)] (docA bd A c L Γ)
      fun v Γ' => v = .int .i64 (if (lookE L w).isSome then 0 else 4) ∧ ∃ A' c', Γ' = docA bd A' c' (dropE L w) Γ := by
  refine Fn.enter Try.func10 rfl rfl rfl fun E => ?_
  have hs := doc_src bd A c L Γ
  refine TK.mem fun m0 hm0 => ?_
  have hnc : L.length ≤ c := (all_at 1 rfl (fun _ h => (own_len h).2) : ∀ m, all (docA bd A c L Γ) m → L.length ≤ c) m0 hm0
  clear hm0 m0
  refine m_run ?_
  (apply TL.callV; exact rfl; exact callB_of (by kernel_rfl); exact rfl; exact fun _ h => h)
  exact place_t bd w A c L _ (has_row 0 rfl rfl) hs hn
  rintro _ _ ⟨⟨z, rfl, hz⟩, rfl⟩
  rcases hz with ⟨rfl, hl⟩ | ⟨i, k, rfl, hp, hl, hd⟩
  · refine m_run ?_
    (apply TK.ret1; exact rfl; exact rfl; (exact m_val))
    exact ⟨_, rfl, by rw [hl]; rfl, A, c, by rw [dropE_none hl]⟩
  · have hi : i < L.length := (List.getElem?_eq_some_iff.1 hp).1
    refine TL.free (H := own 43 2 (.slice none 0 0) 0 []) (fun m hm => own_nil _ _ hm) ?_
    have hs0 : has (own 43 2 (.slice none 0 0) 0 [] :: docA bd A c L Γ) (srcAt 2 A L.length (entsC L)) := has_tls hs
    refine m_run ?_
    (apply TL.sliceS (i := 0) (j := i) (news := entsC L); exact rfl; exact rfl; exact tb rfl; exact rfl; exact tb rfl; exact .none; exact .some rfl; exact hs0; exact Nat.zero_le _; exact Nat.le_of_lt hi; exact hnc)
    intro B hB
    refine m_run ?_
    (apply TL.append 0; exact rfl; exact rfl; exact tb rfl; exact rfl; exact tb rfl; exact rfl; exact rfl; exact rfl)
    · exact fun _ h => h
    · exact rfl
    · exact hB
    · exact part_one L _ _
    · show (0 + (i - 0)) * 24 ≤ _; omega
    · show 0 + (i - 0) ≤ maxLen; unfold maxLen; omega
    · exact fun _ => (rfl : _ = _ :: _)
    intro A1 c1 hc1
    have hs1 : has (own 43 2 (.slice A1 (0 + (i - 0)) c1) (0 + (i - 0)) ([] ++ ((entsC L).drop (0 * 2)).take ((i - 0) * 2)) :: docA bd A c L Γ) (srcAt 2 A L.length (entsC L)) := has_tls hs
    refine m_run ?_
    refine TL.know (t := 27) (v := .int .i64 ((i + 1 : Nat) : Int)) (congrArg (Value.int .i64) (i64_succ i (by omega))) ?_
    (apply TL.sliceS (i := i + 1) (j := L.length) (news := entsC L); exact rfl; exact rfl; exact tb rfl; exact rfl; exact tb rfl; exact .some rfl; exact .none; exact hs1; exact hi; exact Nat.le_refl _; exact hnc)
    intro B2 hB2
    refine m_run ?_
    (apply TL.append 0; exact rfl; exact rfl; exact tb rfl; exact rfl; exact tb rfl; exact rfl; exact rfl; exact rfl)
    · exact fun _ h => h
    · exact rfl
    · exact hB2
    · exact part_one L _ _
    · show (0 + (i - 0) + (L.length - (i + 1))) * 24 ≤ _; omega
    · show 0 + (i - 0) + (L.length - (i + 1)) ≤ maxLen; unfold maxLen; omega
    · exact fun _ => (rfl : _ = _ :: _)
    intro A2 c2 hc2
    rw [show (2 : Nat) = (2 : Nat) from rfl]
    have hcs := entsC_erase L i
    have hlen : 0 + (i - 0) + (L.length - (i + 1)) = (L.eraseIdx i).length := by rw [List.length_eraseIdx, if_pos hi]; omega
    rw [hlen]
    refine m_run ?_
    refine TK.imp (Δ := own 43 2 (.slice A2 (L.eraseIdx i).length c2) (L.eraseIdx i).length (entsC (L.eraseIdx i)) :: row bd [.slice A2 (L.eraseIdx i).length c2] 30 :: own 43 2 (.slice A L.length c) L.length (entsC L) :: Γ) (fun m hm => by rw [← hcs]; exact hm) ?_
    refine TK.perm (.swap _ _ _) ?_
    refine TK.sub (Δ := docA bd A2 c2 (L.eraseIdx i) Γ) (by (repeat (first | exact List.Sublist.refl _ | apply List.Sublist.cons_cons | apply List.Sublist.cons))) ?_
    (apply TK.ret1; exact rfl; exact rfl; (exact m_val))
    exact ⟨_, rfl, by rw [hl]; rfl, A2, c2, by rw [hd]⟩
end Go.Proofs.Ytdookobgkcnncaa.E
