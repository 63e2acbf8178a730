/- The closures of the takers: walked. -/
import Derived.Test.YtokggdgagfmacaaXg
namespace Go.Proofs.Ytokggdgagfmacaa.E
open Go Go.RowKit Go.Proofs
section
/- TakeFact's own part: walked. -/
attribute [local irreducible] TK TL TQ TA TB Fn PV RP
/-- After a panic: the reader stands somewhere, and what was being read is anything. -/
def panF (r : Nat) (A : Option Addr) (n c pf sz e : Nat) (Γ Γ' : List HP) : Prop := ∃ (k : Nat) (vs : List Value), vs.length = sz ∧ Ent Γ' (rdR r A n c k :: row pf vs e :: Γ)
theorem panR.to {r : Nat} {A : Option Addr} {n c pf sz e : Nat} {vs : List Value} {Γ Δ Γ' : List HP} (h : panR r A n c Δ Γ') (hs : (row pf vs e :: Γ).Sublist Δ) (hv : vs.length = sz) : panF r A n c pf sz e Γ Γ' := by
  obtain ⟨k, h⟩ := h.sub hs
  exact ⟨k, vs, hv, h⟩
theorem merge2 {α : Type} {f : α → HP} {l : List α} {x : α} {a b : HP} {Γ : List HP} {m : Mem} (h : all (a :: f x :: b :: alls f l :: Γ) m) : all (a :: b :: alls f (l ++ [x]) :: Γ) m := by
  have h1 := all_perm (List.Perm.cons a (List.perm_middle (a := f x) (l₁ := [b]) (l₂ := alls f l :: Γ)).symm) h
  refine sep_mono h1 (fun _ h => h) fun _ h => sep_mono h (fun _ h => h) fun _ h => ?_
  have h2 := sep_assoc' h
  exact sep_mono h2 (fun _ h => alls_append.2 (sep_comm (sep_mono h (fun _ h => alls_one.2 h) fun _ h => h))) fun _ h => h
def okS {α : Type} (may : α → Bool) (o : Option (α × Nat)) : Option (α × Nat) := o.bind fun z => if may z.1 then some z else none
theorem tookS_okS {α : Type} {zero : α} {may : α → Bool} {f : Nat → Option (α × Nat)} {n : Nat} {at_ : Int} : tookS zero may f n at_ = tookS zero (fun _ => true) (fun k => okS may (f k)) n at_ := by
  unfold tookS okS
  split
  · cases hf : f at_.toNat with
    | none => simp [hf]
    | some z =>
      obtain ⟨x, k⟩ := z
      cases hm : may x <;> simp [hf, hm]
  · rfl
set_option maxRecDepth 100000 in
set_option maxHeartbeats 4000000 in
theorem cfact_t (r pf : Nat) (A : Option Addr) (c k : Nat) (l : List UInt8) (Γ : List HP) (hs : has Γ (srcAt 1 A l.length (bytesV l))) (hc : l.length ≤ c) (hl : l.length ≤ 1000000000) :
    Fn Try.prog 64 [.pointer (some ⟨r, 0, none⟩), .pointer (some ⟨pf, 0, none⟩)] (rdR r A l.length c k :: row pf [.int .u32 0, .slice none 0 0] 26 :: Γ) (RP (fctS l k) (fun x k' _ Γ' => ∃ B kk, x.2.length ≤ kk ∧ Γ' = rdR r A l.length c k' :: ownU B kk x.2 :: row pf (Fct.cells ⟨x.1, B, kk, x.2⟩) 26 :: Γ) (panF r A l.length c pf 2 26 Γ)) := by
  refine Fn.enter Try.func64 rfl rfl rfl fun E => ?_
  cases hp : numS 4294967295 l k with
  | none =>
    have hS : fctS l k = none := by unfold fctS; rw [hp]; rfl
    refine m_run ?_
    (apply TL.callN; exact rfl; exact callB_of (by kernel_rfl); exact rfl; exact fun _ h => h; exact rsymbol_t r A c k l _ (has_tls hs) hc hl; exact hp; exact rfl)
    intro Γ' h
    exact RP.lost hS (h.to (List.Sublist.refl _) rfl)
  | some z =>
    obtain ⟨p, k1⟩ := z
    obtain ⟨hp1, hk1⟩ := numS_le hp
    refine m_run ?_
    (apply TL.callV; exact rfl; exact callB_of (by kernel_rfl); exact rfl; exact fun _ h => h)
    exact (rsymbol_t r A c k l _ (has_tls hs) hc hl).got hp
    rintro _ _ ⟨rfl, rfl⟩
    refine m_run ?_
    cases hn : octS 6 l k1 with
    | none =>
      have hS : fctS l k = none := by unfold fctS; rw [hp]; simp only [Option.bind_some]; rw [hn]; rfl
      (apply TL.callN; exact rfl; exact callB_of (by kernel_rfl); exact rfl; exact fun _ h => h; exact roctet_t r A c 6 k1 l _ (has_tls hs) hc hl hk1 (by decide); exact hn; exact rfl)
      intro Γ' h
      exact RP.lost hS (h.to (List.Sublist.refl _) rfl)
    | some z =>
      obtain ⟨n, k2⟩ := z
      obtain ⟨hn6, hk2⟩ := octS_le hn
      have hSe : ∀ {xs k3}, rep (numS 4294967295 l) n k2 = some (xs, k3) → fctS l k = some ((p, xs), k3) := fun h => by unfold fctS; rw [hp]; simp only [Option.bind_some]; rw [hn]; simp only [Option.bind_some]; rw [h]; rfl
      have hSn : rep (numS 4294967295 l) n k2 = none → fctS l k = none := fun h => by unfold fctS; rw [hp]; simp only [Option.bind_some]; rw [hn]; simp only [Option.bind_some]; rw [h]; rfl
      (apply TL.callV; exact rfl; exact callB_of (by kernel_rfl); exact rfl; exact fun _ h => h)
      exact (roctet_t r A c 6 k1 l _ (has_tls hs) hc hl hk1 (by decide)).got hn
      rintro _ _ ⟨rfl, rfl⟩
      refine m_run ?_
      refine TK.free (H := ownU none 0 []) (fun m h => own_nil _ _ h) ?_
      refine TK.perm (List.Perm.swap _ _ _) ?_
      apply TK.iter (fun j ρ' Γ' => ∃ (i : Nat) (xs : List Nat) (k3 : Nat) (B : Option Addr) (kk : Nat), i + j = n ∧ xs.length = i ∧ xs.length ≤ kk ∧ k3 ≤ l.length ∧ rep (numS 4294967295 l) i k2 = some (xs, k3) ∧ lk ρ' 0 = .pointer (some ⟨r, 0, none⟩) ∧ lk ρ' 1 = .pointer (some ⟨pf, 0, none⟩) ∧ lk ρ' 7 = .int .i64 (n : Int) ∧ lk ρ' 8 = .int .i64 (i : Int) ∧ Γ' = rdR r A l.length c k3 :: ownU B kk xs :: row pf [.int .u32 (p : Int), .slice B xs.length kk] 26 :: Γ) n
      · exact ⟨0, [], k2, none, 0, Nat.zero_add _, rfl, Nat.le_refl _, hk2, rfl, rfl, rfl, rfl, rfl, rfl⟩
      rintro j IH ρ' _ ⟨i, xs, k3, B, kk, hij, hxi, hkk, hk3, hrep, e0, e2, e7, e8, rfl⟩
      refine TK.know4 e0 e2 e7 e8 ?_
      by_cases hi : i < n
      · refine m_run ?_
        refine TK.drawB mixed rfl 7 (row pf [.int .u32 (p : Int), .slice B xs.length kk] 26 :: Γ) Γ ?_
        refine m_bake (At.mk : At 0) ?_; refine m_bake (At.mk : At 1) ?_; refine m_bake (At.mk : At 2) ?_
        (apply TB.one 3; kernel_rfl; exact rfl; exact rfl)
        cases ht : numS 4294967295 l k3 with
        | none =>
          (apply TL.callN; exact rfl; exact callB_of (by kernel_rfl); exact rfl; exact fun _ h => h; exact rsymbol_t r A c k3 l _ (has_tls (has_tls hs)) hc hl; exact ht; exact rfl)
          intro Γ' h
          exact RP.lost (hSn (rep_stop hi hrep ht)) (h.to (List.Sublist.cons _ (List.Sublist.refl _)) rfl)
        | some z =>
          obtain ⟨x, k4⟩ := z
          obtain ⟨hx, hk4⟩ := numS_le ht
          (apply TL.callV; exact rfl; exact callB_of (by kernel_rfl); exact rfl; exact fun _ h => h)
          exact (rsymbol_t r A c k3 l _ (has_tls (has_tls hs)) hc hl).got ht
          rintro _ _ ⟨rfl, rfl⟩
          refine TL.backB (by (focus ((repeat (first | assumption | exact Ent.refl _ | apply Ent.tail)); done))) ?_
          (apply TB.one 4; kernel_rfl; exact rfl; exact rfl)
          (apply TL.buildSlice (l := u32s [x]); exact rfl; exact tb rfl; exact rfl; exact tb rfl; exact rfl; exact rfl; exact rfl; exact rfl; exact rfl)
          intro b23
          refine TL.backB (by (focus ((repeat (first | assumption | exact Ent.refl _ | apply Ent.tail)); done))) ?_
          (apply TB.one 5; kernel_rfl; exact rfl; exact rfl)
          (apply TL.append 2; exact rfl; exact rfl; exact tb rfl; exact rfl; exact tb rfl; exact rfl; exact rfl; exact rfl)
          · exact fun _ h => h
          · exact rfl
          · exact has_src_row 0 rfl rfl
          · exact one_of rfl
          · show (xs.length + 1) * 4 ≤ _; omega
          · show xs.length + 1 ≤ maxLen; unfold maxLen; omega
          · exact fun _ => (rfl : _ = _ :: _ :: _ :: _)
          intro B' kk' hkk'
          rw [show u32s xs ++ u32s [x] = u32s (xs ++ [x]) from u32s_snoc xs x]
          refine TL.backB (by (focus ((repeat (first | assumption | exact Ent.refl _ | apply Ent.tail)); done))) ?_
          refine m_bake (At.mk : At 6) ?_
          (apply TB.last; kernel_rfl; exact rfl)
          refine m_rrun ?_
          refine TL.back (by (focus ((repeat (first | assumption | exact Ent.refl _ | apply Ent.tail)); done))) ?_
          refine TA.done (by kernel_rfl) ?_
          refine m_run ?_
          refine TK.drop ?_
          have hxl : (xs ++ [x]).length = xs.length + 1 := by simp
          exact IH (j - 1) _ _ (by omega) ⟨i + 1, xs ++ [x], k4, B', kk', by omega, by omega, by omega, hk4, rep_app hrep ht, rfl, rfl, rfl, congrArg (Value.int .i64) (i64_succ i (by omega)), by rw [← hxl]⟩
      obtain rfl : i = n := by omega
      refine m_run ?_
      (apply TK.over0; exact rfl; exact rfl)
      exact RP.got (hSe hrep) ⟨B, kk, hkk, rfl⟩
end
section
/- TakeClause's own part: walked. -/
attribute [local irreducible] TK TL TQ TA TB Fn PV RP
set_option maxRecDepth 100000 in
set_option maxHeartbeats 8000000 in
theorem cclause_t (r pf : Nat) (A : Option Addr) (c k : Nat) (l : List UInt8) (Γ : List HP) (hs : has Γ (srcAt 1 A l.length (bytesV l))) (hc : l.length ≤ c) (hl : l.length ≤ 1000000000) (hk : k ≤ l.length) :
    Fn Try.prog 75 [.pointer (some ⟨r, 0, none⟩), .pointer (some ⟨pf, 0, none⟩)] (rdR r A l.length c k :: row pf [.int .u32 0, .slice none 0 0, .slice none 0 0] 45 :: Γ) (RP (okS mayCV (clS l k)) (fun x k' _ Γ' => ∃ C : Cl, clVal C = x ∧ C.good ∧ Γ' = rdR r A l.length c k' :: own 86 3 (.slice C.A C.l.length C.c) C.l.length (ltsC C.l) :: alls litH C.l :: row pf C.cells 45 :: ownT C.h.A C.h.c C.h.l :: Γ) (panF r A l.length c pf 3 45 Γ)) := by
  refine Fn.enter Try.func75 rfl rfl rfl fun E => ?_
  cases hp : atmS l k with
  | none =>
    have hS : okS mayCV (clS l k) = none := by unfold okS clS; rw [hp]; rfl
    refine m_run ?_
    (apply TL.callN; exact rfl; exact callB_of (by kernel_rfl); exact rfl; exact fun _ h => h; exact ratom_t2 r A c k l _ (has_tls hs) hc hl hk; exact hp; exact rfl)
    intro Γ' h
    exact RP.lost hS (h.to (List.Sublist.refl _) rfl)
  | some z =>
    obtain ⟨⟨p, hx⟩, k1⟩ := z
    obtain ⟨hp1, hxs, hx6, hk1⟩ := atmS_le hp
    refine m_run ?_
    (apply TL.callV; exact rfl; exact callB_of (by kernel_rfl); exact rfl; exact fun _ h => h)
    exact (ratom_t2 r A c k l _ (has_tls hs) hc hl hk).got hp
    rintro _ _ ⟨hA, hc0, hxc, rfl, rfl⟩
    have hgood : Atm.good ⟨p, hA, hc0, hx⟩ := ⟨⟨hp1, hxs⟩, hxc, hx6⟩
    refine m_run ?_
    refine TL.imp (Δ := rdR r A l.length c k1 :: row pf [.int .u32 (p : Int), .slice hA hx.length hc0, .slice none 0 0] 45 :: ownT hA hc0 hx :: Γ) (fun m hm => all_perm (List.Perm.cons _ (List.Perm.swap _ _ _)) hm) ?_
    refine m_run ?_
    cases hn : octS 8 l k1 with
    | none =>
      have hS : okS mayCV (clS l k) = none := by unfold okS clS; rw [hp]; simp only [Option.bind_some]; rw [hn]; rfl
      (apply TL.callN; exact rfl; exact callB_of (by kernel_rfl); exact rfl; exact fun _ h => h; exact roctet_t r A c 8 k1 l _ (has_tls (has_tls hs)) hc hl hk1 (by decide); exact hn; exact rfl)
      intro Γ' h
      exact RP.lost hS (h.to (vs := [.int .u32 (p : Int), .slice hA hx.length hc0, .slice none 0 0]) (List.Sublist.cons_cons _ (List.Sublist.cons _ (List.Sublist.refl _))) rfl)
    | some z =>
      obtain ⟨n, k2⟩ := z
      obtain ⟨hn8, hk2⟩ := octS_le hn
      have hSe : ∀ {xs k3}, rep (litS l) n k2 = some (xs, k3) → clS l k = some (((p, hx), xs), k3) := fun h => by unfold clS; rw [hp]; simp only [Option.bind_some]; rw [hn]; simp only [Option.bind_some]; rw [h]; rfl
      have hSn : rep (litS l) n k2 = none → okS mayCV (clS l k) = none := fun h => by unfold okS clS; rw [hp]; simp only [Option.bind_some]; rw [hn]; simp only [Option.bind_some]; rw [h]; rfl
      (apply TL.callV; exact rfl; exact callB_of (by kernel_rfl); exact rfl; exact fun _ h => h)
      exact (roctet_t r A c 8 k1 l _ (has_tls (has_tls hs)) hc hl hk1 (by decide)).got hn
      rintro _ _ ⟨rfl, rfl⟩
      refine m_run ?_
      refine TK.free (H := alls litH []) (fun m h => alls_nil h) ?_
      refine TK.perm (List.Perm.swap _ _ _) ?_
      refine TK.free (H := own 86 3 (.slice none 0 0) 0 []) (fun m h => own_nil _ _ h) ?_
      refine TK.perm (List.Perm.swap _ _ _) ?_
      apply TK.iter (fun j ρ' Γ' => ∃ (i : Nat) (xs : List Lt) (k3 : Nat) (B : Option Addr) (kk : Nat), i + j = n ∧ xs.length = i ∧ xs.length ≤ kk ∧ k3 ≤ l.length ∧ (∀ x ∈ xs, x.a.good) ∧ rep (litS l) i k2 = some (xs.map litVal, k3) ∧ lk ρ' 0 = .pointer (some ⟨r, 0, none⟩) ∧ lk ρ' 1 = .pointer (some ⟨pf, 0, none⟩) ∧ lk ρ' 8 = .int .i64 (n : Int) ∧ lk ρ' 9 = .int .i64 (i : Int) ∧ Γ' = rdR r A l.length c k3 :: own 86 3 (.slice B xs.length kk) xs.length (ltsC xs) :: alls litH xs :: row pf [.int .u32 (p : Int), .slice hA hx.length hc0, .slice B xs.length kk] 45 :: ownT hA hc0 hx :: Γ) n
      · exact ⟨0, [], k2, none, 0, Nat.zero_add _, rfl, Nat.le_refl _, hk2, by simp, rfl, rfl, rfl, rfl, rfl, rfl⟩
      rintro j IH ρ' _ ⟨i, xs, k3, B, kk, hij, hxi, hkk, hk3, hgx, hrep, e0, e1, e8, e9, rfl⟩
      refine TK.know4 e0 e1 e8 e9 ?_
      by_cases hi : i < n
      · refine m_run ?_
        cases hz : octS 1 l k3 with
        | none =>
          have ht : litS l k3 = none := by unfold litS; rw [hz]; rfl
          (apply TL.callN; exact rfl; exact callB_of (by kernel_rfl); exact rfl; exact fun _ h => h; exact rflag_t r A c k3 l _ (has_tls (has_tls (has_tls (has_tls hs)))) hc hl hk3; exact hz; exact rfl)
          intro Γ' h
          exact RP.lost (hSn (rep_stop hi hrep ht)) (h.to (vs := [.int .u32 (p : Int), .slice hA hx.length hc0, .slice B xs.length kk]) (List.Sublist.cons _ (List.Sublist.cons _ (List.Sublist.cons_cons _ (List.Sublist.cons _ (List.Sublist.refl _))))) rfl)
        | some z =>
          obtain ⟨z, k4⟩ := z
          obtain ⟨hz1, hk4⟩ := octS_le hz
          (apply TL.callV; exact rfl; exact callB_of (by kernel_rfl); exact rfl; exact fun _ h => h)
          exact (rflag_t r A c k3 l _ (has_tls (has_tls (has_tls (has_tls hs)))) hc hl hk3).got hz
          rintro _ _ ⟨rfl, rfl⟩
          refine m_run ?_
          refine TK.drawB mixed rfl 9 (row pf [.int .u32 (p : Int), .slice hA hx.length hc0, .slice B xs.length kk] 45 :: ownT hA hc0 hx :: Γ) Γ ?_
          refine m_bake (At.mk : At 0) ?_; refine m_bake (At.mk : At 1) ?_; refine m_bake (At.mk : At 2) ?_; refine m_bake (At.mk : At 3) ?_
          (apply TB.one 4; kernel_rfl; exact rfl; exact rfl)
          cases ha : atmS l k4 with
          | none =>
            have ht : litS l k3 = none := by unfold litS; rw [hz]; simp only [Option.bind_some]; rw [ha]; rfl
            (apply TL.callN; exact rfl; exact callB_of (by kernel_rfl); exact rfl; exact fun _ h => h; exact ratom_t2 r A c k4 l _ (has_tls (has_tls (has_tls (has_tls hs)))) hc hl hk4; exact ha; exact rfl)
            intro Γ' h
            exact RP.lost (hSn (rep_stop hi hrep ht)) (h.to (vs := [.int .u32 (p : Int), .slice hA hx.length hc0, .slice B xs.length kk]) (List.Sublist.cons _ (List.Sublist.cons _ (List.Sublist.cons_cons _ (List.Sublist.cons _ (List.Sublist.refl _))))) rfl)
          | some y =>
            obtain ⟨⟨ep, ex⟩, k5⟩ := y
            obtain ⟨hep, hexs, hex6, hk5⟩ := atmS_le ha
            (apply TL.callV; exact rfl; exact callB_of (by kernel_rfl); exact rfl; exact fun _ h => h)
            exact (ratom_t2 r A c k4 l _ (has_tls (has_tls (has_tls (has_tls hs)))) hc hl hk4).got ha
            rintro _ _ ⟨eB, ek, hexc, rfl, rfl⟩
            have ht : litS l k3 = some (litVal ⟨z == 1, ⟨ep, eB, ek, ex⟩⟩, k5) := by unfold litS; rw [hz]; simp only [Option.bind_some]; rw [ha]; rfl
            obtain ⟨x, hx0⟩ : ∃ x : Lt, x = ⟨z == 1, ⟨ep, eB, ek, ex⟩⟩ := ⟨_, rfl⟩
            have hxg : x.a.good := by rw [hx0]; exact ⟨⟨hep, hexs⟩, hexc, hex6⟩
            refine TL.backB (by (focus ((repeat (first | assumption | exact Ent.refl _ | apply Ent.tail)); done))) ?_
            (apply TB.takeA (At.mk : At 5); exact rfl; exact rfl; kernel_rfl; exact rfl; ((focus ((repeat (first | assumption | exact Ent.refl _ | apply Ent.tail)); done))); (apply PV.build tabs; exact rfl; exact rfl; exact rfl; exact rfl; exact rfl; exact (rfl : _ = (Lt.cells ⟨z == 1, ⟨ep, eB, ek, ex⟩⟩))))
            (apply TB.one 6; kernel_rfl; exact rfl; exact rfl)
            (apply TL.buildSlice (l := (Lt.cells ⟨z == 1, ⟨ep, eB, ek, ex⟩⟩)); exact rfl; exact tb rfl; exact rfl; exact tb rfl; exact rfl; exact rfl; exact rfl; exact rfl; exact rfl)
            intro b23
            refine TL.backB (by (focus ((repeat (first | assumption | exact Ent.refl _ | apply Ent.tail)); done))) ?_
            (apply TB.one 7; kernel_rfl; exact rfl; exact rfl)
            (apply TL.append 3; exact rfl; exact rfl; exact tb rfl; exact rfl; exact tb rfl; exact rfl; exact rfl; exact rfl)
            · exact fun _ h => h
            · exact rfl
            · exact has_src_row 0 rfl rfl
            · exact one_of rfl
            · show (xs.length + 1) * 40 ≤ _; omega
            · show xs.length + 1 ≤ maxLen; unfold maxLen; omega
            · exact fun _ => (rfl : _ = _ :: _ :: _ :: _ :: _)
            intro B' kk' hkk'
            rw [show ltsC xs ++ (Lt.cells ⟨z == 1, ⟨ep, eB, ek, ex⟩⟩) = ltsC (xs ++ [x]) by rw [hx0]; exact lits_snoc _ _]
            refine TL.backB (by (focus ((repeat (first | assumption | exact Ent.refl _ | apply Ent.tail)); done))) ?_
            refine m_bake (At.mk : At 8) ?_
            (apply TB.last; kernel_rfl; exact rfl)
            refine m_rrun ?_
            refine TL.back (by (focus ((repeat (first | assumption | exact Ent.refl _ | apply Ent.tail)); done))) ?_
            refine TA.done (by kernel_rfl) ?_
            refine m_run ?_
            refine TK.drop ?_
            refine TK.imp (Δ := rdR r A l.length c k5 :: own 86 3 (.slice B' (xs.length + 1) kk') (xs.length + 1) (ltsC (xs ++ [x])) :: alls litH (xs ++ [x]) :: row pf [.int .u32 (p : Int), .slice hA hx.length hc0, .slice B' (xs.length + 1) kk'] 45 :: ownT hA hc0 hx :: Γ) (fun m hm => merge2 (by rw [hx0]; rw [hx0] at hm; exact hm)) ?_
            have hxl : (xs ++ [x]).length = xs.length + 1 := by simp
            refine IH (j - 1) _ _ (by omega) ⟨i + 1, xs ++ [x], k5, B', kk', by omega, by omega, by omega, hk5, ?_, ?_, rfl, rfl, rfl, congrArg (Value.int .i64) (i64_succ i (by omega)), by rw [← hxl]⟩
            · intro y hy
              rcases List.mem_append.1 hy with hy | hy
              · exact hgx y hy
              · rw [List.mem_singleton.1 hy]; exact hxg
            · rw [List.map_append, hx0]
              exact rep_app hrep ht
      obtain rfl : i = n := by omega
      obtain ⟨C, hC⟩ : ∃ C : Cl, C = ⟨⟨p, hA, hc0, hx⟩, B, kk, xs⟩ := ⟨_, rfl⟩
      have hT : clS l k = some (clVal C, k3) := by rw [hC]; exact hSe hrep
      have hg : C.good := by rw [hC]; exact ⟨hkk, by show xs.length ≤ 8; omega, hgood, hgx⟩
      refine TK.imp (Δ := rdR r A l.length c k3 :: own 86 3 (.slice C.A C.l.length C.c) C.l.length (ltsC C.l) :: alls litH C.l :: row pf [.int .u32 (C.h.p : Int), .slice C.h.A C.h.l.length C.h.c, .slice C.A C.l.length C.c] 45 :: ownT C.h.A C.h.c C.h.l :: Γ) (fun _ h => by rw [hC]; exact h) ?_
      clear hSe hSn hrep hC
      have hok : C.ok (rdR r A l.length c k3 :: own 86 3 (.slice C.A C.l.length C.c) C.l.length (ltsC C.l) :: alls litH C.l :: row pf [.int .u32 (C.h.p : Int), .slice C.h.A C.h.l.length C.h.c, .slice C.A C.l.length C.c] 45 :: ownT C.h.A C.h.c C.h.l :: Γ) := cl_own 1 2 4 rfl rfl rfl hg
      refine m_run ?_
      (apply TL.callV; exact rfl; exact callB_of (by kernel_rfl); exact rfl; exact fun _ h => h)
      exact may_t C _ hok hg.small
      rintro _ _ ⟨rfl, rfl⟩
      have hme := mayCV_eq C
      cases hm : mayC C with
      | true =>
        have hS : okS mayCV (clS l k) = some (clVal C, k3) := by unfold okS; rw [hT]; simp only [Option.bind_some]; rw [← hme, hm]; rfl
        refine m_run ?_
        (apply TL.callV; exact rfl; exact callB_of (by kernel_rfl); exact rfl; exact fun _ h => h)
        exact need_yes _
        rintro _ _ rfl
        refine m_run ?_
        (apply TK.over0; exact rfl; exact rfl)
        exact RP.got hS ⟨C, rfl, hg, rfl⟩
      | false =>
        have hS : okS mayCV (clS l k) = none := by unfold okS; rw [hT]; simp only [Option.bind_some]; rw [← hme, hm]; rfl
        refine m_run ?_
        (apply TL.callN; exact rfl; exact callB_of (by kernel_rfl); exact rfl; exact fun _ h => h; exact need_t false _; exact rfl; exact rfl)
        rintro _ rfl
        exact RP.lost hS ⟨k3, [.int .u32 (C.h.p : Int), .slice C.h.A C.h.l.length C.h.c, .slice C.A C.l.length C.c], rfl, Ent.sub (List.Sublist.cons_cons _ (List.Sublist.cons _ (List.Sublist.cons _ (List.Sublist.cons_cons _ (List.Sublist.cons _ (List.Sublist.refl _))))))⟩
end
section
/- TakeRule's own part: walked. -/
attribute [local irreducible] TK TL TQ TA TB Fn PV RP
set_option maxRecDepth 100000 in
set_option maxHeartbeats 8000000 in
theorem crule_t (r pf : Nat) (A : Option Addr) (c k : Nat) (l : List UInt8) (Γ : List HP) (hs : has Γ (srcAt 1 A l.length (bytesV l))) (hc : l.length ≤ c) (hl : l.length ≤ 1000000000) (hk : k ≤ l.length) :
    Fn Try.prog 87 [.pointer (some ⟨r, 0, none⟩), .pointer (some ⟨pf, 0, none⟩)] (rdR r A l.length c k :: row pf [.bool false, .bool false, .int .u32 0, .int .u32 0, .slice none 0 0, .slice none 0 0] 59 :: Γ) (RP (okS mayRV (rlS l k)) (fun x k' _ Γ' => ∃ C : Rl, rlVal C = x ∧ C.good ∧ Γ' = rdR r A l.length c k' :: own 111 6 (.slice C.A C.l.length C.c) C.l.length (cdsC C.l) :: alls cdH C.l :: row pf C.cells 59 :: ownT C.h.a.A C.h.a.c C.h.a.l :: Γ) (panF r A l.length c pf 6 59 Γ)) := by
  refine Fn.enter Try.func87 rfl rfl rfl fun E => ?_
  cases hp : sayS l k with
  | none =>
    have hS : okS mayRV (rlS l k) = none := by unfold okS rlS; rw [hp]; rfl
    refine m_run ?_
    (apply TL.callN; exact rfl; exact callB_of (by kernel_rfl); exact rfl; exact fun _ h => h; exact rsay_t2 r A c k l _ (has_tls hs) hc hl hk; exact hp; exact rfl)
    intro Γ' h
    exact RP.lost hS (h.to (List.Sublist.refl _) rfl)
  | some z =>
    obtain ⟨⟨s, w, p, hx⟩, k1⟩ := z
    obtain ⟨hw, hp1, hxs, hx6, hk1⟩ := sayS_le hp
    refine m_run ?_
    (apply TL.callV; exact rfl; exact callB_of (by kernel_rfl); exact rfl; exact fun _ h => h)
    exact (rsay_t2 r A c k l _ (has_tls hs) hc hl hk).got hp
    rintro _ _ ⟨hA, hc0, hxc, rfl, rfl⟩
    have hgood : Sy.good ⟨s, w, ⟨p, hA, hc0, hx⟩⟩ := ⟨hw, ⟨hp1, hxs⟩, hxc, hx6⟩
    refine m_run ?_
    refine TL.imp (Δ := rdR r A l.length c k1 :: row pf [.bool s, .bool w.v, .int .u32 (w.n : Int), .int .u32 (p : Int), .slice hA hx.length hc0, .slice none 0 0] 59 :: ownT hA hc0 hx :: Γ) (fun m hm => all_perm (List.Perm.cons _ (List.Perm.swap _ _ _)) hm) ?_
    refine m_run ?_
    cases hn : octS 8 l k1 with
    | none =>
      have hS : okS mayRV (rlS l k) = none := by unfold okS rlS; rw [hp]; simp only [Option.bind_some]; rw [hn]; rfl
      (apply TL.callN; exact rfl; exact callB_of (by kernel_rfl); exact rfl; exact fun _ h => h; exact roctet_t r A c 8 k1 l _ (has_tls (has_tls hs)) hc hl hk1 (by decide); exact hn; exact rfl)
      intro Γ' h
      exact RP.lost hS (h.to (vs := [.bool s, .bool w.v, .int .u32 (w.n : Int), .int .u32 (p : Int), .slice hA hx.length hc0, .slice none 0 0]) (List.Sublist.cons_cons _ (List.Sublist.cons _ (List.Sublist.refl _))) rfl)
    | some z =>
      obtain ⟨n, k2⟩ := z
      obtain ⟨hn8, hk2⟩ := octS_le hn
      have hSe : ∀ {xs k3}, rep (cdS l) n k2 = some (xs, k3) → rlS l k = some (((s, w, p, hx), xs), k3) := fun h => by unfold rlS; rw [hp]; simp only [Option.bind_some]; rw [hn]; simp only [Option.bind_some]; rw [h]; rfl
      have hSn : rep (cdS l) n k2 = none → okS mayRV (rlS l k) = none := fun h => by unfold okS rlS; rw [hp]; simp only [Option.bind_some]; rw [hn]; simp only [Option.bind_some]; rw [h]; rfl
      (apply TL.callV; exact rfl; exact callB_of (by kernel_rfl); exact rfl; exact fun _ h => h)
      exact (roctet_t r A c 8 k1 l _ (has_tls (has_tls hs)) hc hl hk1 (by decide)).got hn
      rintro _ _ ⟨rfl, rfl⟩
      refine m_run ?_
      refine TK.free (H := alls cdH []) (fun m h => alls_nil h) ?_
      refine TK.perm (List.Perm.swap _ _ _) ?_
      refine TK.free (H := own 111 6 (.slice none 0 0) 0 []) (fun m h => own_nil _ _ h) ?_
      refine TK.perm (List.Perm.swap _ _ _) ?_
      apply TK.iter (fun j ρ' Γ' => ∃ (i : Nat) (xs : List Cd) (k3 : Nat) (B : Option Addr) (kk : Nat), i + j = n ∧ xs.length = i ∧ xs.length ≤ kk ∧ k3 ≤ l.length ∧ (∀ x ∈ xs, x.y.good) ∧ rep (cdS l) i k2 = some (xs.map cdVal, k3) ∧ lk ρ' 0 = .pointer (some ⟨r, 0, none⟩) ∧ lk ρ' 1 = .pointer (some ⟨pf, 0, none⟩) ∧ lk ρ' 8 = .int .i64 (n : Int) ∧ lk ρ' 9 = .int .i64 (i : Int) ∧ Γ' = rdR r A l.length c k3 :: own 111 6 (.slice B xs.length kk) xs.length (cdsC xs) :: alls cdH xs :: row pf [.bool s, .bool w.v, .int .u32 (w.n : Int), .int .u32 (p : Int), .slice hA hx.length hc0, .slice B xs.length kk] 59 :: ownT hA hc0 hx :: Γ) n
      · exact ⟨0, [], k2, none, 0, Nat.zero_add _, rfl, Nat.le_refl _, hk2, by simp, rfl, rfl, rfl, rfl, rfl, rfl⟩
      rintro j IH ρ' _ ⟨i, xs, k3, B, kk, hij, hxi, hkk, hk3, hgx, hrep, e0, e1, e8, e9, rfl⟩
      refine TK.know4 e0 e1 e8 e9 ?_
      by_cases hi : i < n
      · refine m_run ?_
        cases hz : octS 1 l k3 with
        | none =>
          have ht : cdS l k3 = none := by unfold cdS; rw [hz]; rfl
          (apply TL.callN; exact rfl; exact callB_of (by kernel_rfl); exact rfl; exact fun _ h => h; exact rflag_t r A c k3 l _ (has_tls (has_tls (has_tls (has_tls hs)))) hc hl hk3; exact hz; exact rfl)
          intro Γ' h
          exact RP.lost (hSn (rep_stop hi hrep ht)) (h.to (vs := [.bool s, .bool w.v, .int .u32 (w.n : Int), .int .u32 (p : Int), .slice hA hx.length hc0, .slice B xs.length kk]) (List.Sublist.cons _ (List.Sublist.cons _ (List.Sublist.cons_cons _ (List.Sublist.cons _ (List.Sublist.refl _))))) rfl)
        | some z =>
          obtain ⟨z, k4⟩ := z
          obtain ⟨hz1, hk4⟩ := octS_le hz
          (apply TL.callV; exact rfl; exact callB_of (by kernel_rfl); exact rfl; exact fun _ h => h)
          exact (rflag_t r A c k3 l _ (has_tls (has_tls (has_tls (has_tls hs)))) hc hl hk3).got hz
          rintro _ _ ⟨rfl, rfl⟩
          refine m_run ?_
          refine TK.drawB mixed rfl 9 (row pf [.bool s, .bool w.v, .int .u32 (w.n : Int), .int .u32 (p : Int), .slice hA hx.length hc0, .slice B xs.length kk] 59 :: ownT hA hc0 hx :: Γ) Γ ?_
          refine m_bake (At.mk : At 0) ?_; refine m_bake (At.mk : At 1) ?_; refine m_bake (At.mk : At 2) ?_; refine m_bake (At.mk : At 3) ?_
          (apply TB.one 4; kernel_rfl; exact rfl; exact rfl)
          cases ha : sayS l k4 with
          | none =>
            have ht : cdS l k3 = none := by unfold cdS; rw [hz]; simp only [Option.bind_some]; rw [ha]; rfl
            (apply TL.callN; exact rfl; exact callB_of (by kernel_rfl); exact rfl; exact fun _ h => h; exact rsay_t2 r A c k4 l _ (has_tls (has_tls (has_tls (has_tls hs)))) hc hl hk4; exact ha; exact rfl)
            intro Γ' h
            exact RP.lost (hSn (rep_stop hi hrep ht)) (h.to (vs := [.bool s, .bool w.v, .int .u32 (w.n : Int), .int .u32 (p : Int), .slice hA hx.length hc0, .slice B xs.length kk]) (List.Sublist.cons _ (List.Sublist.cons _ (List.Sublist.cons_cons _ (List.Sublist.cons _ (List.Sublist.refl _))))) rfl)
          | some y =>
            obtain ⟨⟨es, ew, ep, ex⟩, k5⟩ := y
            obtain ⟨hew, hep, hexs, hex6, hk5⟩ := sayS_le ha
            (apply TL.callV; exact rfl; exact callB_of (by kernel_rfl); exact rfl; exact fun _ h => h)
            exact (rsay_t2 r A c k4 l _ (has_tls (has_tls (has_tls (has_tls hs)))) hc hl hk4).got ha
            rintro _ _ ⟨eB, ek, hexc, rfl, rfl⟩
            have ht : cdS l k3 = some (cdVal ⟨z == 1, ⟨es, ew, ⟨ep, eB, ek, ex⟩⟩⟩, k5) := by unfold cdS; rw [hz]; simp only [Option.bind_some]; rw [ha]; rfl
            obtain ⟨x, hx0⟩ : ∃ x : Cd, x = ⟨z == 1, ⟨es, ew, ⟨ep, eB, ek, ex⟩⟩⟩ := ⟨_, rfl⟩
            have hxg : x.y.good := by rw [hx0]; exact ⟨hew, ⟨hep, hexs⟩, hexc, hex6⟩
            refine TL.backB (by (focus ((repeat (first | assumption | exact Ent.refl _ | apply Ent.tail)); done))) ?_
            (apply TB.takeA (At.mk : At 5); exact rfl; exact rfl; kernel_rfl; exact rfl; ((focus ((repeat (first | assumption | exact Ent.refl _ | apply Ent.tail)); done))); (apply PV.build tabs; exact rfl; exact rfl; exact rfl; exact rfl; exact rfl; exact (rfl : _ = (Cd.cells ⟨z == 1, ⟨es, ew, ⟨ep, eB, ek, ex⟩⟩⟩))))
            (apply TB.one 6; kernel_rfl; exact rfl; exact rfl)
            (apply TL.buildSlice (l := (Cd.cells ⟨z == 1, ⟨es, ew, ⟨ep, eB, ek, ex⟩⟩⟩)); exact rfl; exact tb rfl; exact rfl; exact tb rfl; exact rfl; exact rfl; exact rfl; exact rfl; exact rfl)
            intro b23
            refine TL.backB (by (focus ((repeat (first | assumption | exact Ent.refl _ | apply Ent.tail)); done))) ?_
            (apply TB.one 7; kernel_rfl; exact rfl; exact rfl)
            (apply TL.append 3; exact rfl; exact rfl; exact tb rfl; exact rfl; exact tb rfl; exact rfl; exact rfl; exact rfl)
            · exact fun _ h => h
            · exact rfl
            · exact has_src_row 0 rfl rfl
            · exact one_of rfl
            · show (xs.length + 1) * 56 ≤ _; omega
            · show xs.length + 1 ≤ maxLen; unfold maxLen; omega
            · exact fun _ => (rfl : _ = _ :: _ :: _ :: _ :: _)
            intro B' kk' hkk'
            rw [show cdsC xs ++ (Cd.cells ⟨z == 1, ⟨es, ew, ⟨ep, eB, ek, ex⟩⟩⟩) = cdsC (xs ++ [x]) by rw [hx0]; exact cds_snoc _ _]
            refine TL.backB (by (focus ((repeat (first | assumption | exact Ent.refl _ | apply Ent.tail)); done))) ?_
            refine m_bake (At.mk : At 8) ?_
            (apply TB.last; kernel_rfl; exact rfl)
            refine m_rrun ?_
            refine TL.back (by (focus ((repeat (first | assumption | exact Ent.refl _ | apply Ent.tail)); done))) ?_
            refine TA.done (by kernel_rfl) ?_
            refine m_run ?_
            refine TK.drop ?_
            refine TK.imp (Δ := rdR r A l.length c k5 :: own 111 6 (.slice B' (xs.length + 1) kk') (xs.length + 1) (cdsC (xs ++ [x])) :: alls cdH (xs ++ [x]) :: row pf [.bool s, .bool w.v, .int .u32 (w.n : Int), .int .u32 (p : Int), .slice hA hx.length hc0, .slice B' (xs.length + 1) kk'] 59 :: ownT hA hc0 hx :: Γ) (fun m hm => merge2 (by rw [hx0]; rw [hx0] at hm; exact hm)) ?_
            have hxl : (xs ++ [x]).length = xs.length + 1 := by simp
            refine IH (j - 1) _ _ (by omega) ⟨i + 1, xs ++ [x], k5, B', kk', by omega, by omega, by omega, hk5, ?_, ?_, rfl, rfl, rfl, congrArg (Value.int .i64) (i64_succ i (by omega)), by rw [← hxl]⟩
            · intro y hy
              rcases List.mem_append.1 hy with hy | hy
              · exact hgx y hy
              · rw [List.mem_singleton.1 hy]; exact hxg
            · rw [List.map_append, hx0]
              exact rep_app hrep ht
      obtain rfl : i = n := by omega
      obtain ⟨C, hC⟩ : ∃ C : Rl, C = ⟨⟨s, w, ⟨p, hA, hc0, hx⟩⟩, B, kk, xs⟩ := ⟨_, rfl⟩
      have hT : rlS l k = some (rlVal C, k3) := by rw [hC]; exact hSe hrep
      have hg : C.good := by rw [hC]; exact ⟨hkk, by show xs.length ≤ 8; omega, hgood, hgx⟩
      refine TK.imp (Δ := rdR r A l.length c k3 :: own 111 6 (.slice C.A C.l.length C.c) C.l.length (cdsC C.l) :: alls cdH C.l :: row pf [.bool C.h.s, .bool C.h.w.v, .int .u32 (C.h.w.n : Int), .int .u32 (C.h.a.p : Int), .slice C.h.a.A C.h.a.l.length C.h.a.c, .slice C.A C.l.length C.c] 59 :: ownT C.h.a.A C.h.a.c C.h.a.l :: Γ) (fun _ h => by rw [hC]; exact h) ?_
      clear hSe hSn hrep hC
      have hok : C.ok (rdR r A l.length c k3 :: own 111 6 (.slice C.A C.l.length C.c) C.l.length (cdsC C.l) :: alls cdH C.l :: row pf [.bool C.h.s, .bool C.h.w.v, .int .u32 (C.h.w.n : Int), .int .u32 (C.h.a.p : Int), .slice C.h.a.A C.h.a.l.length C.h.a.c, .slice C.A C.l.length C.c] 59 :: ownT C.h.a.A C.h.a.c C.h.a.l :: Γ) := rl_own 1 2 4 rfl rfl rfl hg
      refine m_run ?_
      (apply TL.callV; exact rfl; exact callB_of (by kernel_rfl); exact rfl; exact fun _ h => h)
      exact wmay_t C _ hok hg.small
      rintro _ _ ⟨rfl, rfl⟩
      have hme := mayRV_eq C
      cases hm : mayR C with
      | true =>
        have hS : okS mayRV (rlS l k) = some (rlVal C, k3) := by unfold okS; rw [hT]; simp only [Option.bind_some]; rw [← hme, hm]; rfl
        refine m_run ?_
        (apply TL.callV; exact rfl; exact callB_of (by kernel_rfl); exact rfl; exact fun _ h => h)
        exact need_yes _
        rintro _ _ rfl
        refine m_run ?_
        (apply TK.over0; exact rfl; exact rfl)
        exact RP.got hS ⟨C, rfl, hg, rfl⟩
      | false =>
        have hS : okS mayRV (rlS l k) = none := by unfold okS; rw [hT]; simp only [Option.bind_some]; rw [← hme, hm]; rfl
        refine m_run ?_
        (apply TL.callN; exact rfl; exact callB_of (by kernel_rfl); exact rfl; exact fun _ h => h; exact need_t false _; exact rfl; exact rfl)
        rintro _ rfl
        exact RP.lost hS ⟨k3, [.bool C.h.s, .bool C.h.w.v, .int .u32 (C.h.w.n : Int), .int .u32 (C.h.a.p : Int), .slice C.h.a.A C.h.a.l.length C.h.a.c, .slice C.A C.l.length C.c], rfl, Ent.sub (List.Sublist.cons_cons _ (List.Sublist.cons _ (List.Sublist.cons _ (List.Sublist.cons_cons _ (List.Sublist.cons _ (List.Sublist.refl _))))))⟩
end
end Go.Proofs.Ytokggdgagfmacaa.E
