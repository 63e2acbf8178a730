/- The table of names: Put, as the program does. -/
import Derived.Test.YtoccilnobgoncaaY2
namespace Go.Proofs.Ytoccilnobgoncaa.E
open Go Go.RowKit Go.Proofs
attribute [local irreducible] TK TL TQ TA Fn PV
theorem ents_snoc (L : List (List UInt8)) (k : List UInt8) : ents (L ++ [k]) = (ents L).take L.length ++ (k, L.length) :: (ents L).drop (L.length + 1) := by
  unfold ents
  rw [List.zipIdx_append, List.take_of_length_le (by simp), List.drop_of_length_le (by simp)]
  simp
theorem ents_length (L : List (List UInt8)) : (ents L).length = L.length := by simp [ents]
theorem own_snoc (e : Nat) (v : Value) (L : List (List UInt8)) (k : List UInt8) : own e 1 v (L.length + 1) (strs L ++ [strV k]) = own e 1 v (L ++ [k]).length (strs (L ++ [k])) := by simp [strs]
def tabCell (bt mb : Nat) : HP := fun m => ∃ v, row bt (tabCells v mb) 100 m
theorem put_tab (bt mb : Nat) (v : Value) (L : List (List UInt8)) (k : List UInt8) (Γ : List HP) (hk : k.length ≤ 1000000) (hL : L.length ≤ 4096) :
    FnV Try.prog 27 [.pointer (some ⟨bt, 0, none⟩), strV k] (tabAt bt mb v L Γ) fun r Γ' => ∃ v', r = .tuple #[numV (putM L k).1, .int .i64 (putM L k).2.1] ∧ Γ' = tabAt bt mb v' (putM L k).2.2 Γ := by
  refine Fn.enter Try.func27 rfl rfl rfl fun E => ?_
  refine m_run ?_
  (apply TL.callV; exact rfl; exact callB_of (by kernel_rfl); exact rfl; exact fun _ h => h)
  exact may_t k _ hk
  rintro _ _ ⟨rfl, rfl⟩
  cases hmay : mayB k with
  | false =>
    have hp : putM L k = (0, 8, L) := by rw [putM, hmay]; rfl
    rw [hp]
    refine m_run ?_
    (apply TK.ret2; exact rfl; (exact m_val); (exact m_val))
    exact ⟨_, rfl, v, rfl, rfl⟩
  | true =>
    have hm : has (tabAt bt mb v L Γ) (mapAt strV numV mb (ents L)) := has_at (up_map _ _ _ _) 2 rfl fun m h => mapA_at h
    cases hf : findName L k with
    | some n =>
      have hp : putM L k = (n, 0, L) := by rw [putM, hmay, hf]; rfl
      rw [hp]
      refine m_run ?_
      (apply TL.pv; exact rfl; (apply PV.look2S (keyS (tb rfl : TabOk Try.prog 9 _).1); exact tb rfl; exact rfl; exact ⟨_, (tb rfl : TabOk Try.prog 9 _).1⟩; exact (tb rfl : TabOk Try.prog 28 _); exact rfl; exact rfl; exact hm; exact hf))
      refine m_run ?_
      (apply TK.ret2; exact rfl; (exact m_val); (exact m_val))
      exact ⟨_, rfl, v, rfl, rfl⟩
    | none =>
      refine TL.fact (all_at 1 rfl fun m h => own_shape h) ?_
      rintro ⟨A, c, rfl, hLc⟩
      have hc0 : has (tabAt bt mb (.slice A L.length c) L Γ) (fun m => cellAt m bt 0 (.slice A L.length c)) := has_row 0 rfl rfl
      refine m_run ?_
      (apply TL.pv; exact rfl; (apply PV.look2N (keyS (tb rfl : TabOk Try.prog 9 _).1); exact tb rfl; exact rfl; exact ⟨_, (tb rfl : TabOk Try.prog 9 _).1⟩; exact (tb rfl : TabOk Try.prog 28 _); exact rfl; exact rfl; exact hm; exact hf))
      by_cases hfull : 4096 ≤ L.length
      · have hp : putM L k = (0, 6, L) := by rw [putM, hmay, hf]; exact if_pos hfull
        rw [hp]
        refine m_run ?_
        (apply TK.ret2; exact rfl; (exact m_val); (exact m_val))
        exact ⟨_, rfl, _, rfl, rfl⟩
      · have hp : putM L k = (L.length, 0, L ++ [k]) := by rw [putM, hmay, hf]; exact if_neg hfull
        rw [hp]
        refine m_run ?_
        refine TK.drawE mixed (tabCell bt mb :: Γ) ?_
        have hent : Ent (tabAt bt mb (.slice A L.length c) L Γ) (tabCell bt mb :: Γ) := .cons (fun m hm => ⟨_, hm⟩) (.tail (.tail (.refl _)))
        have hent2 : Ent (row bt (tabCells (.slice A L.length c) mb) 100 :: own 9 1 (.slice A L.length c) L.length (strs L) :: mapA strV numV mb (ents L) :: Γ) (tabCell bt mb :: Γ) := hent
        have hc1 : has (tabCell bt mb :: Γ) (fun m => cellAt m bt 1 (.map (some mb))) := has_at (up_cell _ _ _) 0 rfl fun m ⟨v, hm⟩ => has_row (Γ := [row bt (tabCells v mb) 100]) 0 rfl rfl m (sep_emp hm)
        refine m_take (At.mk : At 0) ?_; refine m_take (At.mk : At 1) ?_; refine m_take (At.mk : At 2) ?_; refine m_take (At.mk : At 3) ?_; refine m_take (At.mk : At 4) ?_; refine m_take (At.mk : At 5) ?_; refine m_take (At.mk : At 6) ?_; refine m_take (At.mk : At 7) ?_; refine m_take (At.mk : At 8) ?_; refine m_take (At.mk : At 10) ?_; refine m_take (At.mk : At 13) ?_
        (apply TA.two 9 11; kernel_rfl; exact rfl; exact rfl)
        · refine m_run ?_
          refine TL.back hent ?_
          (apply TA.one 11; kernel_rfl; exact rfl)
          (apply TL.buildSlice; exact rfl; exact tb rfl; exact rfl; exact tb rfl; exact rfl; exact rfl; exact rfl; exact rfl; (exact m_lst))
          intro b8
          refine TL.back (.tail hent) ?_
          (apply TA.one 12; kernel_rfl; exact rfl)
          (apply TL.appendE 2; exact rfl; exact rfl; exact tb rfl; exact rfl; exact tb rfl; exact rfl; exact rfl; exact rfl)
          exact fun m hm => hm
          exact rfl
          exact has_src_row 0 rfl rfl
          exact one_of rfl
          · exact Nat.le_trans (Nat.mul_le_mul_right _ (by omega : L.length + 1 ≤ 4096)) (by decide)
          · unfold maxLen; omega
          · exact rfl
          · exact (rfl : _ = strs L ++ [strV k])
          exact fun _ => (rfl : _ = _ :: _ :: _ :: _)
          intro A2 c2 hc2
          have hent3 : Ent (row bt (tabCells (.slice A L.length c) mb) 100 :: own 9 1 (.slice A2 (L.length + 1) c2) (L.length + 1) (strs L ++ [strV k]) :: mapA strV numV mb (ents L) :: Γ) (tabCell bt mb :: Γ) := .cons (fun m hm => ⟨_, hm⟩) (.tail (.tail (.refl _)))
          refine TL.back (.tail hent3) ?_
          refine m_take (At.mk : At 14) ?_; refine m_take (At.mk : At 15) ?_
          (apply TA.one 16; kernel_rfl; exact rfl)
          refine m_run ?_
          refine TL.back (.tail (.cons (fun m hm => ⟨_, hm⟩) (.tail (.tail (.refl _))))) ?_
          (apply TA.one 17; kernel_rfl; exact rfl)
          have hent4 : ∀ s, Ent (row bt (tabCells (.slice A2 (L.length + 1) c2) mb) 100 :: own 9 1 (.slice A2 (L.length + 1) c2) (L.length + 1) (strs L ++ [strV k]) :: mapE strV numV mb (ents L) k (.int .u32 0) (ents L).length s :: Γ) (tabCell bt mb :: Γ) := fun s => .cons (fun m hm => ⟨_, hm⟩) (.tail (.tail (.refl _)))
          (apply TL.entryNew (kv := strV) (vv := numV) (k := k) 3; exact rfl; exact rfl; exact keyS (tb rfl : TabOk Try.prog 9 _).1; exact tb rfl; exact rfl; exact ⟨_, (tb rfl : TabOk Try.prog 9 _).1⟩; exact (tb rfl : TabOk Try.prog 28 _); exact rfl; exact rfl; exact hf)
          intro s
          replace hent4 := hent4 s
          refine TL.back (.tail hent4) ?_
          refine m_take (At.mk : At 18) ?_
          (apply TA.one 19; kernel_rfl; exact rfl)
          (apply TL.entryPut (kv := strV) (vv := numV) (nv := L.length) 3; exact rfl; exact rfl; exact rfl; exact rfl; exact congrArg (Value.int .u32) (u32_in (by omega) (by omega)))
          refine TL.back (.tail (.cons (fun m hm => ⟨_, hm⟩) (.tail (.tail (.refl _))))) ?_
          refine TA.done (by kernel_rfl) ?_
          refine m_run ?_
          refine TK.sub (Δ := row bt (tabCells (.slice A2 (L.length + 1) c2) mb) 100 :: own 9 1 (.slice A2 (L.length + 1) c2) (L.length + 1) (strs L ++ [strV k]) :: mapA strV numV mb ((ents L).take (ents L).length ++ (k, L.length) :: (ents L).drop ((ents L).length + 1)) :: Γ) (by (repeat (first | exact List.Sublist.refl _ | apply List.Sublist.cons_cons | apply List.Sublist.cons))) ?_
          rw [own_snoc, ents_length, ← ents_snoc]
          (apply TK.ret2; exact rfl; exact congrArg (Value.int .u32) (u32_in (x := (L.length : Int)) (by omega) (by omega)); (exact m_val))
          exact ⟨_, rfl, _, rfl, rfl⟩
        · (apply TL.buildSlice; exact rfl; exact tb rfl; exact rfl; exact tb rfl; exact rfl; exact rfl; exact rfl; exact rfl; (exact m_lst))
          intro b8
          refine TL.back (.tail hent) ?_
          (apply TA.one 9; kernel_rfl; exact rfl)
          refine m_run ?_
          refine TL.back (.tail hent) ?_
          (apply TA.one 12; kernel_rfl; exact rfl)
          (apply TL.appendE 2; exact rfl; exact rfl; exact tb rfl; exact rfl; exact tb rfl; exact rfl; exact rfl; exact rfl)
          exact fun m hm => hm
          exact rfl
          exact has_src_row 0 rfl rfl
          exact one_of rfl
          · exact Nat.le_trans (Nat.mul_le_mul_right _ (by omega : L.length + 1 ≤ 4096)) (by decide)
          · unfold maxLen; omega
          · exact rfl
          · exact (rfl : _ = strs L ++ [strV k])
          exact fun _ => (rfl : _ = _ :: _ :: _ :: _)
          intro A2 c2 hc2
          have hent3 : Ent (row bt (tabCells (.slice A L.length c) mb) 100 :: own 9 1 (.slice A2 (L.length + 1) c2) (L.length + 1) (strs L ++ [strV k]) :: mapA strV numV mb (ents L) :: Γ) (tabCell bt mb :: Γ) := .cons (fun m hm => ⟨_, hm⟩) (.tail (.tail (.refl _)))
          refine TL.back (.tail hent3) ?_
          refine m_take (At.mk : At 14) ?_; refine m_take (At.mk : At 15) ?_
          (apply TA.one 16; kernel_rfl; exact rfl)
          refine m_run ?_
          refine TL.back (.tail (.cons (fun m hm => ⟨_, hm⟩) (.tail (.tail (.refl _))))) ?_
          (apply TA.one 17; kernel_rfl; exact rfl)
          have hent4 : ∀ s, Ent (row bt (tabCells (.slice A2 (L.length + 1) c2) mb) 100 :: own 9 1 (.slice A2 (L.length + 1) c2) (L.length + 1) (strs L ++ [strV k]) :: mapE strV numV mb (ents L) k (.int .u32 0) (ents L).length s :: Γ) (tabCell bt mb :: Γ) := fun s => .cons (fun m hm => ⟨_, hm⟩) (.tail (.tail (.refl _)))
          (apply TL.entryNew (kv := strV) (vv := numV) (k := k) 3; exact rfl; exact rfl; exact keyS (tb rfl : TabOk Try.prog 9 _).1; exact tb rfl; exact rfl; exact ⟨_, (tb rfl : TabOk Try.prog 9 _).1⟩; exact (tb rfl : TabOk Try.prog 28 _); exact rfl; exact rfl; exact hf)
          intro s
          replace hent4 := hent4 s
          refine TL.back (.tail hent4) ?_
          refine m_take (At.mk : At 18) ?_
          (apply TA.one 19; kernel_rfl; exact rfl)
          (apply TL.entryPut (kv := strV) (vv := numV) (nv := L.length) 3; exact rfl; exact rfl; exact rfl; exact rfl; exact congrArg (Value.int .u32) (u32_in (by omega) (by omega)))
          refine TL.back (.tail (.cons (fun m hm => ⟨_, hm⟩) (.tail (.tail (.refl _))))) ?_
          refine TA.done (by kernel_rfl) ?_
          refine m_run ?_
          refine TK.sub (Δ := row bt (tabCells (.slice A2 (L.length + 1) c2) mb) 100 :: own 9 1 (.slice A2 (L.length + 1) c2) (L.length + 1) (strs L ++ [strV k]) :: mapA strV numV mb ((ents L).take (ents L).length ++ (k, L.length) :: (ents L).drop ((ents L).length + 1)) :: Γ) (by (repeat (first | exact List.Sublist.refl _ | apply List.Sublist.cons_cons | apply List.Sublist.cons))) ?_
          rw [own_snoc, ents_length, ← ents_snoc]
          (apply TK.ret2; exact rfl; exact congrArg (Value.int .u32) (u32_in (x := (L.length : Int)) (by omega) (by omega)); (exact m_val))
          exact ⟨_, rfl, _, rfl, rfl⟩
end Go.Proofs.Ytoccilnobgoncaa.E
