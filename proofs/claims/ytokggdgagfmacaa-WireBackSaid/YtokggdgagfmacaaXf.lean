/- The document's TakeClause, TakeRule: walked. -/
import Derived.Test.YtokggdgagfmacaaXe
namespace Go.Proofs.Ytokggdgagfmacaa.E
open Go Go.RowKit Go.Proofs
section
/- Clauses and rules that were read: walked. -/
attribute [local irreducible] TK TL TQ TA TB Fn PV
def litVal (x : Lt) : Bool × PA := (x.no, x.a.p, x.a.l)
def clVal (c : Cl) : PA × List (Bool × PA) := ((c.h.p, c.h.l), c.l.map litVal)
def mayCV (v : PA × List (Bool × PA)) : Bool := decide (v.2.length ≤ 8) && mayA v.1.2 && !(v.2.any fun x => !mayA x.2.2)
theorem mayCV_eq (c : Cl) : mayC c = mayCV (clVal c) := by simp [mayC, mayCV, clVal, litVal, List.any_map, Function.comp_def]
def syVal (y : Sy) : PY := (y.s, y.w, y.a.p, y.a.l)
def cdVal (x : Cd) : Bool × PY := (x.no, syVal x.y)
def rlVal (r : Rl) : PY × List (Bool × PY) := (syVal r.h, r.l.map cdVal)
def mayYV (v : PY) : Bool := mayY ⟨v.1, v.2.1, ⟨v.2.2.1, none, 0, v.2.2.2⟩⟩
def mayRV (v : PY × List (Bool × PY)) : Bool := !(v.2.any fun x => !mayYV x.2) && (mayYV v.1 && decide (v.2.length ≤ 8))
theorem mayRV_eq (r : Rl) : mayR r = mayRV (rlVal r) := by
  rw [mayR_eq]
  have h : ∀ y, mayYV (syVal y) = mayY y := fun _ => rfl
  unfold mayRV rlVal
  simp only [List.any_map, Function.comp_def, cdVal, h, List.length_map]
def litH (x : Lt) : HP := ownT x.a.A x.a.c x.a.l
def cdH (x : Cd) : HP := ownT x.y.a.A x.y.a.c x.y.a.l
def Atm.good (a : Atm) : Prop := a.fit ∧ a.l.length ≤ a.c ∧ a.l.length ≤ 6
def Sy.good (y : Sy) : Prop := y.w.n ≤ 4294967295 ∧ y.a.good
def Cl.good (c : Cl) : Prop := c.l.length ≤ c.c ∧ c.l.length ≤ 8 ∧ c.h.good ∧ ∀ x ∈ c.l, x.a.good
def Rl.good (r : Rl) : Prop := r.l.length ≤ r.c ∧ r.l.length ≤ 8 ∧ r.h.good ∧ ∀ x ∈ r.l, x.y.good
theorem Cl.good.small {c : Cl} (h : c.good) : c.small := ⟨Nat.le_trans h.2.1 (by decide), Nat.le_trans h.2.2.1.2.2 (by decide), fun x hx => Nat.le_trans (h.2.2.2 x hx).2.2 (by decide)⟩
theorem Rl.good.small {c : Rl} (h : c.good) : c.small := ⟨Nat.le_trans h.2.1 (by decide), Nat.le_trans h.2.2.1.2.2.2 (by decide), fun x hx => Nat.le_trans (h.2.2.2 x hx).2.2.2 (by decide)⟩
theorem Cl.good.fits {c : Cl} (h : c.good) : c.fit := ⟨h.2.2.1.1, fun x hx => (h.2.2.2 x hx).1⟩
theorem Rl.good.fits {c : Rl} (h : c.good) : c.fit := ⟨⟨h.2.2.1.1, h.2.2.1.2.1⟩, fun x hx => ⟨(h.2.2.2 x hx).1, (h.2.2.2 x hx).2.1⟩⟩
theorem atm_own {a : Atm} {Γ : List HP} (i : Nat) (hi : Γ[i]? = some (ownT a.A a.c a.l)) (h : a.l.length ≤ a.c) : a.ok Γ := ⟨has_at (up_src _ _ _ _) i hi fun _ h => own_src h, h⟩
theorem lit_own {l : List Lt} {x : Lt} {Γ : List HP} (i : Nat) (hi : Γ[i]? = some (alls litH l)) (hx : x ∈ l) (h : x.a.l.length ≤ x.a.c) : x.a.ok Γ := ⟨has_alls i hi (up_src _ _ _ _) hx fun _ h => own_src h, h⟩
theorem cd_own {l : List Cd} {x : Cd} {Γ : List HP} (i : Nat) (hi : Γ[i]? = some (alls cdH l)) (hx : x ∈ l) (h : x.y.a.l.length ≤ x.y.a.c) : x.y.a.ok Γ := ⟨has_alls i hi (up_src _ _ _ _) hx fun _ h => own_src h, h⟩
theorem cl_own {c : Cl} {Γ : List HP} (i j k : Nat) (hi : Γ[i]? = some (own 86 3 (.slice c.A c.l.length c.c) c.l.length (ltsC c.l))) (hj : Γ[j]? = some (alls litH c.l)) (hk : Γ[k]? = some (ownT c.h.A c.h.c c.h.l)) (h : c.good) : c.ok Γ :=
  ⟨atm_own k hk h.2.2.1.2.1, has_at (up_src _ _ _ _) i hi fun _ h => own_src h, h.1, fun x hx => lit_own j hj hx (h.2.2.2 x hx).2.1⟩
theorem rl_own {c : Rl} {Γ : List HP} (i j k : Nat) (hi : Γ[i]? = some (own 111 6 (.slice c.A c.l.length c.c) c.l.length (cdsC c.l))) (hj : Γ[j]? = some (alls cdH c.l)) (hk : Γ[k]? = some (ownT c.h.a.A c.h.a.c c.h.a.l)) (h : c.good) : c.ok Γ :=
  ⟨atm_own k hk h.2.2.1.2.2.1, has_at (up_src _ _ _ _) i hi fun _ h => own_src h, h.1, fun x hx => cd_own j hj hx (h.2.2.2 x hx).2.2.1⟩
section
variable {cx : Cx} {k : List Item} {ρ : Env} {ds : List Deferred} {Γ : List HP} {ops : Array Oper} {K : Act → World → Prop} {rest : List Oper}
theorem merge_all {α : Type} {f : α → HP} {l : List α} {x : α} {a b c d : HP} {m : Mem} (h : all (a :: f x :: b :: c :: d :: alls f l :: Γ) m) : all (a :: b :: c :: d :: alls f (l ++ [x]) :: Γ) m := by
  have h1 := all_perm (List.Perm.cons a (List.perm_middle (a := f x) (l₁ := [b, c, d]) (l₂ := alls f l :: Γ)).symm) h
  refine sep_mono h1 (fun _ h => h) fun _ h => sep_mono h (fun _ h => h) fun _ h => sep_mono h (fun _ h => h) fun _ h => sep_mono h (fun _ h => h) fun _ h => ?_
  have h2 := sep_assoc' h
  exact sep_mono h2 (fun _ h => alls_append.2 (sep_comm (sep_mono h (fun _ h => alls_one.2 h) fun _ h => h))) fun _ h => h
end
theorem lits_snoc (l : List Lt) (x : Lt) : ltsC l ++ x.cells = ltsC (l ++ [x]) := by simp [ltsC]
theorem cds_snoc (l : List Cd) (x : Cd) : cdsC l ++ x.cells = cdsC (l ++ [x]) := by simp [cdsC]
theorem one_b {x : Nat} : ((x : Int) == 1) = (x == 1) := by
  by_cases h : x = 1
  · subst h; rfl
  · rw [show (x == 1) = false from beq_eq_false_iff_ne.2 h, show ((x : Int) == 1) = false from beq_eq_false_iff_ne.2 (by omega)]
def tookC (l : List UInt8) (at_ : Int) : (PA × List (Bool × PA)) × Nat × Nat := tookS ((0, []), []) mayCV (clS l) l.length at_
def tookR (l : List UInt8) (at_ : Int) : (PY × List (Bool × PY)) × Nat × Nat := tookS ((false, ⟨false, 0⟩, 0, []), []) mayRV (rlS l) l.length at_
def RC (Γ : List HP) (x : (PA × List (Bool × PA)) × Nat × Nat) : Value → List HP → Prop := fun v Γ' => ∃ c : Cl, clVal c = x.1 ∧ c.good ∧ v = .tuple #[.agg c.cells.toArray, .int .i64 (x.2.1 : Int), .int .i64 (x.2.2 : Int)] ∧ Γ' = own 86 3 (.slice c.A c.l.length c.c) c.l.length (ltsC c.l) :: alls litH c.l :: ownT c.h.A c.h.c c.h.l :: Γ
def RR (Γ : List HP) (x : (PY × List (Bool × PY)) × Nat × Nat) : Value → List HP → Prop := fun v Γ' => ∃ c : Rl, rlVal c = x.1 ∧ c.good ∧ v = .tuple #[.agg c.cells.toArray, .int .i64 (x.2.1 : Int), .int .i64 (x.2.2 : Int)] ∧ Γ' = own 111 6 (.slice c.A c.l.length c.c) c.l.length (cdsC c.l) :: alls cdH c.l :: ownT c.h.a.A c.h.a.c c.h.a.l :: Γ
theorem atm0 : Atm.good ⟨0, none, 0, []⟩ := ⟨⟨Nat.zero_le _, by simp⟩, Nat.le_refl _, Nat.zero_le _⟩
def cl0 : Cl := ⟨⟨0, none, 0, []⟩, none, 0, []⟩
theorem cl0_good : cl0.good := ⟨Nat.le_refl _, Nat.zero_le _, atm0, by simp [cl0]⟩
def rl0 : Rl := ⟨⟨false, ⟨false, 0⟩, ⟨0, none, 0, []⟩⟩, none, 0, []⟩
theorem rl0_good : rl0.good := ⟨Nat.le_refl _, Nat.zero_le _, ⟨Nat.zero_le _, atm0⟩, by simp [rl0]⟩
end
section
/- The document's TakeClause: walked. -/
attribute [local irreducible] TK TL TQ TA TB Fn PV
set_option maxRecDepth 100000 in
set_option maxHeartbeats 4000000 in
theorem rtakeclause_t (A : Option Addr) (m c : Nat) (l : List UInt8) (at_ : Int) (Γ : List HP) (hs : has Γ (srcAt 1 A m (bytesV l))) (hc : m ≤ c) (hl : l.length ≤ 1000000000) :
    FnV Try.prog 28 [.slice A m c, .int .i64 at_] Γ (RC Γ (tookC l at_)) := by
  refine Fn.enter Try.func28 rfl rfl rfl fun E => ?_
  refine TK.mem fun m0 hm0 => ?_
  obtain rfl := src_lenB (hs m0 hm0)
  clear hm0 m0
  by_cases hat : 0 ≤ at_ ∧ at_ ≤ l.length
  · obtain ⟨k, rfl⟩ : ∃ k : Nat, at_ = (k : Int) := ⟨at_.toNat, by omega⟩
    have hk : k ≤ l.length := by omega
    refine m_run ?_
    (apply TL.alloc; exact rfl; exact tb rfl; (exact m_lst))
    intro b4
    refine m_run ?_
    (apply TL.build tabs; exact rfl; exact rfl; exact rfl; exact rfl; exact rfl; exact rfl; (exact m_lst))
    refine m_run ?_
    (apply TL.box; exact rfl; exact rfl; (exact m_lst))
    intro t
    refine TL.imp (Δ := tkR t A l.length c k false :: row b4 [.int .u32 0, .slice none 0 0, .slice none 0 0] 45 :: Γ) (fun _ h => h) ?_
    refine m_run ?_
    (apply TL.callV; exact rfl; exact callB_of (by kernel_rfl); exact rfl; exact fun _ h => h)
    exact tatom_t t A c k l false _ (has_tls hs) hc hl hk
    rintro _ _ ⟨p, hx, k1, bad1, hA, hc0, hp, hxs, hx6, hxc, hk1, hT1, rfl, rfl⟩
    have hgood : Atm.good ⟨p, hA, hc0, hx⟩ := ⟨⟨hp, hxs⟩, hxc, hx6⟩
    refine m_run ?_
    (apply TL.pv; exact rfl; (apply PV.build tabs; exact rfl; exact rfl; exact rfl; exact rfl; exact rfl; exact (rfl : _ = ([.int .u32 (p : Int), .slice hA hx.length hc0, .slice none 0 0] : List Value))))
    (apply TL.alloc; exact rfl; exact tb rfl; exact (rfl : _ = [_, _, _]))
    intro b8
    refine TL.perm (List.Perm.trans (List.Perm.swap _ _ _) (List.Perm.cons _ (List.Perm.cons _ (List.Perm.swap _ _ _)))) ?_
    refine m_run ?_
    refine TL.imp (Δ := tkR t A l.length c k1 bad1 :: row b8 [.int .u32 (p : Int), .slice hA hx.length hc0, .slice none 0 0] 45 :: row b4 [.int .u32 0, .slice none 0 0, .slice none 0 0] 45 :: ownT hA hc0 hx :: Γ) (fun m hm => hm) ?_
    (apply TL.callV; exact rfl; exact callB_of (by kernel_rfl); exact rfl; exact fun _ h => h)
    exact toctet_t t A c 8 k1 l bad1 _ (has_tls (has_tls (has_tls hs))) hc hl hk1
    rintro _ _ ⟨n, k2, bad2, hn, hk2, hT2, rfl, rfl⟩
    refine m_run ?_
    refine TK.free (H := own 86 3 (.slice none 0 0) 0 []) (fun m h => own_nil _ _ h) ?_
    refine TK.perm (List.Perm.swap _ _ _) ?_
    refine TK.free (H := alls litH []) (fun m h => alls_nil h) ?_
    refine TK.perm (List.perm_middle (l₁ := [_, _, _, _]) (l₂ := ownT hA hc0 hx :: Γ)).symm ?_
    apply TK.iter (fun j ρ' Γ' => ∃ (i : Nat) (xs : List Lt) (k3 : Nat) (bad3 : Bool) (B : Option Addr) (kk : Nat), i + j = n ∧ xs.length = i ∧ xs.length ≤ kk ∧ k3 ≤ l.length ∧ (∀ x ∈ xs, x.a.good) ∧ Tk (rep (litS l) i k2) bad2 (xs.map litVal) k3 bad3 ∧ lk ρ' 4 = .pointer (some ⟨b4, 0, none⟩) ∧ lk ρ' 7 = .pointer (some ⟨t, 0, none⟩) ∧ lk ρ' 8 = .pointer (some ⟨b8, 0, none⟩) ∧ lk ρ' 9 = .int .i64 (n : Int) ∧ lk ρ' 10 = .int .i64 (i : Int) ∧ Γ' = tkR t A l.length c k3 bad3 :: own 86 3 (.slice B xs.length kk) xs.length (ltsC xs) :: row b8 [.int .u32 (p : Int), .slice hA hx.length hc0, .slice B xs.length kk] 45 :: row b4 [.int .u32 0, .slice none 0 0, .slice none 0 0] 45 :: alls litH xs :: ownT hA hc0 hx :: Γ) n
    · exact ⟨0, [], k2, bad2, none, 0, Nat.zero_add _, rfl, Nat.le_refl _, hk2, by simp, Tk.rep0 _ _ _, rfl, rfl, rfl, rfl, rfl, rfl⟩
    rintro j IH ρ' _ ⟨i, xs, k3, bad3, B, kk, hij, hxi, hkk, hk3, hgx, hT3, e4, e7, e8, e9, e10, rfl⟩
    refine TK.know5 e4 e7 e8 e9 e10 ?_
    by_cases hi : i < n
    · refine m_run ?_
      (apply TL.callV; exact rfl; exact callB_of (by kernel_rfl); exact rfl; exact fun _ h => h)
      exact toctet_t t A c 1 k3 l bad3 _ (has_tls (has_tls (has_tls (has_tls (has_tls hs))))) hc hl hk3
      rintro _ _ ⟨z, k4, bad4, hz, hk4, hT4, rfl, rfl⟩
      refine m_run ?_
      refine TL.know (t := 11) (v := .bool (z == 1)) (congrArg Value.bool one_b) ?_
      (apply TL.callV; exact rfl; exact callB_of (by kernel_rfl); exact rfl; exact fun _ h => h)
      exact tatom_t t A c k4 l bad4 _ (has_tls (has_tls (has_tls (has_tls (has_tls hs))))) hc hl hk4
      rintro _ _ ⟨ep, ex, k5, bad5, eB, ek, hep, hexs, hex6, hexc, hk5, hT5, rfl, rfl⟩
      obtain ⟨x, hx0⟩ : ∃ x : Lt, x = ⟨z == 1, ⟨ep, eB, ek, ex⟩⟩ := ⟨_, rfl⟩
      have hxg : x.a.good := by rw [hx0]; exact ⟨⟨hep, hexs⟩, hexc, hex6⟩
      refine TL.imp (Δ := tkR t A l.length c k5 bad5 :: own 86 3 (.slice B xs.length kk) xs.length (ltsC xs) :: row b8 [.int .u32 (p : Int), .slice hA hx.length hc0, .slice B xs.length kk] 45 :: row b4 [.int .u32 0, .slice none 0 0, .slice none 0 0] 45 :: alls litH (xs ++ [x]) :: ownT hA hc0 hx :: Γ) (fun m hm => merge_all (by rw [hx0]; exact hm)) ?_
      refine m_run ?_
      (apply TL.alloc; exact rfl; exact tb rfl; (exact m_lst))
      intro b12
      refine m_run ?_
      refine TL.imp (Δ := row b12 [.int .u32 (ep : Int), .slice eB ex.length ek] 42 :: _) (fun _ h => h) ?_
      refine m_run ?_
      (apply TL.pv; exact rfl; (apply PV.build tabs; exact rfl; exact rfl; exact rfl; exact rfl; exact rfl; exact (rfl : _ = (Lt.cells ⟨z == 1, ⟨ep, eB, ek, ex⟩⟩))))
      refine m_run ?_
      (apply TL.buildSlice (l := (Lt.cells ⟨z == 1, ⟨ep, eB, ek, ex⟩⟩)); exact rfl; exact tb rfl; exact rfl; exact tb rfl; exact rfl; exact rfl; exact rfl; exact rfl; exact rfl)
      intro b48
      refine m_run ?_
      (apply TL.append 3; exact rfl; exact rfl; exact tb rfl; exact rfl; exact tb rfl; exact rfl; exact rfl; exact rfl)
      · exact fun _ h => h
      · exact rfl
      · exact has_src_row 0 rfl rfl
      · exact one_of rfl
      · show (xs.length + 1) * 40 ≤ _; omega
      · show xs.length + 1 ≤ maxLen; unfold maxLen; omega
      · exact fun _ => (rfl : _ = _ :: _ :: _ :: _ :: _)
      intro B' kk' hkk'
      rw [show ltsC xs ++ (Lt.cells ⟨z == 1, ⟨ep, eB, ek, ex⟩⟩) = ltsC (xs ++ [x]) by rw [hx0]; exact lits_snoc _ _]
      refine m_run ?_
      refine TK.sub (List.Sublist.cons _ (List.Sublist.cons _ (List.Sublist.refl _))) ?_
      have hxl : (xs ++ [x]).length = xs.length + 1 := by simp
      refine IH (j - 1) _ _ (by omega) ⟨i + 1, xs ++ [x], k5, bad5, B', kk', by omega, by omega, by omega, hk5, ?_, ?_, rfl, rfl, rfl, rfl, congrArg (Value.int .i64) (i64_succ i (by omega)), by rw [← hxl]⟩
      · intro y hy
        rcases List.mem_append.1 hy with hy | hy
        · exact hgx y hy
        · rw [List.mem_singleton.1 hy]; exact hxg
      · rw [List.map_append, hx0]
        exact Tk.rep1 hT3 (Tk.bind hT4 (Tk.map hT5 rfl))
    obtain rfl : i = n := by omega
    obtain ⟨C, hC⟩ : ∃ C : Cl, C = ⟨⟨p, hA, hc0, hx⟩, B, kk, xs⟩ := ⟨_, rfl⟩
    have hT : Tk (clS l k) false (clVal C) k3 bad3 := by rw [hC]; exact Tk.bind hT1 (Tk.bind hT2 (Tk.map hT3 rfl))
    have hg : C.good := by rw [hC]; exact ⟨hkk, by show xs.length ≤ 8; omega, hgood, hgx⟩
    refine TK.imp (Δ := tkR t A l.length c k3 bad3 :: own 86 3 (.slice C.A C.l.length C.c) C.l.length (ltsC C.l) :: row b8 [.int .u32 (C.h.p : Int), .slice C.h.A C.h.l.length C.h.c, .slice C.A C.l.length C.c] 45 :: row b4 [.int .u32 0, .slice none 0 0, .slice none 0 0] 45 :: alls litH C.l :: ownT C.h.A C.h.c C.h.l :: Γ) (fun _ h => by rw [hC]; exact h) ?_
    clear hT1 hT2 hT3 hC
    have hok : C.ok (tkR t A l.length c k3 bad3 :: own 86 3 (.slice C.A C.l.length C.c) C.l.length (ltsC C.l) :: row b8 [.int .u32 (C.h.p : Int), .slice C.h.A C.h.l.length C.h.c, .slice C.A C.l.length C.c] 45 :: row b4 [.int .u32 0, .slice none 0 0, .slice none 0 0] 45 :: alls litH C.l :: ownT C.h.A C.h.c C.h.l :: Γ) := cl_own 1 4 5 rfl rfl rfl hg
    refine m_run ?_
    (apply TL.callV; exact rfl; exact callB_of (by kernel_rfl); exact rfl; exact fun _ h => h)
    exact rmay_t C _ hok hg.small
    rintro _ _ ⟨rfl, rfl⟩
    refine m_run ?_
    (apply TL.callV; exact rfl; exact callB_of (by kernel_rfl); exact rfl; exact fun _ h => h)
    exact tover_t t A l.length c k3 bad3 (mayC C) _
    rintro _ _ ⟨rfl, rfl⟩
    rcases hT.out with ⟨rfl, ho⟩ | ⟨rfl, ho⟩
    · have hR : tookC l (k : Int) = (((0, []), []), 0, 5) := tookS_bad hk ho
      rw [hR]
      refine m_run ?_
      (apply TL.build tabs; exact rfl; exact rfl; exact rfl; exact rfl; exact rfl; exact rfl; (exact m_lst))
      refine m_run ?_
      refine TK.imp (Δ := tkR t A l.length c k3 true :: own 86 3 (.slice C.A C.l.length C.c) C.l.length (ltsC C.l) :: row b8 [.int .u32 (C.h.p : Int), .slice C.h.A C.h.l.length C.h.c, .slice C.A C.l.length C.c] 45 :: row b4 cl0.cells 45 :: alls litH C.l :: ownT C.h.A C.h.c C.h.l :: Γ) (fun _ h => h) ?_
      refine TK.sub (Δ := row b4 cl0.cells 45 :: Γ) (by (repeat (first | exact List.Sublist.refl _ | apply List.Sublist.cons_cons | apply List.Sublist.cons))) ?_
      refine TK.free (H := ownT none 0 []) (fun m h => own_nil _ _ h) ?_
      refine TK.free (H := alls litH []) (fun m h => alls_nil h) ?_
      refine TK.free (H := own 86 3 (.slice none 0 0) 0 []) (fun m h => own_nil _ _ h) ?_
      exact TK.retSub (Δ := own 86 3 (.slice none 0 0) 0 [] :: alls litH [] :: ownT none 0 [] :: Γ) (fun R' hR' => TK.rets rfl rfl (.cons (.agg rfl (tb rfl) rfl rfl (has_rows (vs := cl0.cells) 3 rfl rfl)) (.cons (.tmp rfl) (.cons (.tmp rfl) .nil))) (hR' _ (by (repeat (first | exact List.Sublist.refl _ | apply List.Sublist.cons_cons | apply List.Sublist.cons))))) ⟨_, rfl, cl0, rfl, cl0_good, rfl, rfl⟩
    · have hme := mayCV_eq C
      cases hm : mayC C with
      | false =>
        have hR : tookC l (k : Int) = (((0, []), []), 0, 5) := tookS_no hk ho (by rw [← hme]; exact hm)
        rw [hR]
        refine m_run ?_
        (apply TL.build tabs; exact rfl; exact rfl; exact rfl; exact rfl; exact rfl; exact rfl; (exact m_lst))
        refine m_run ?_
        refine TK.imp (Δ := tkR t A l.length c k3 false :: own 86 3 (.slice C.A C.l.length C.c) C.l.length (ltsC C.l) :: row b8 [.int .u32 (C.h.p : Int), .slice C.h.A C.h.l.length C.h.c, .slice C.A C.l.length C.c] 45 :: row b4 cl0.cells 45 :: alls litH C.l :: ownT C.h.A C.h.c C.h.l :: Γ) (fun _ h => h) ?_
        refine TK.sub (Δ := row b4 cl0.cells 45 :: Γ) (by (repeat (first | exact List.Sublist.refl _ | apply List.Sublist.cons_cons | apply List.Sublist.cons))) ?_
        refine TK.free (H := ownT none 0 []) (fun m h => own_nil _ _ h) ?_
        refine TK.free (H := alls litH []) (fun m h => alls_nil h) ?_
        refine TK.free (H := own 86 3 (.slice none 0 0) 0 []) (fun m h => own_nil _ _ h) ?_
        exact TK.retSub (Δ := own 86 3 (.slice none 0 0) 0 [] :: alls litH [] :: ownT none 0 [] :: Γ) (fun R' hR' => TK.rets rfl rfl (.cons (.agg rfl (tb rfl) rfl rfl (has_rows (vs := cl0.cells) 3 rfl rfl)) (.cons (.tmp rfl) (.cons (.tmp rfl) .nil))) (hR' _ (by (repeat (first | exact List.Sublist.refl _ | apply List.Sublist.cons_cons | apply List.Sublist.cons))))) ⟨_, rfl, cl0, rfl, cl0_good, rfl, rfl⟩
      | true =>
        have hR : tookC l (k : Int) = (clVal C, k3, 0) := tookS_ok hk ho (by rw [← hme]; exact hm)
        rw [hR]
        refine m_run ?_
        refine TK.imp (Δ := tkR t A l.length c k3 false :: own 86 3 (.slice C.A C.l.length C.c) C.l.length (ltsC C.l) :: row b8 [.int .u32 (C.h.p : Int), .slice C.h.A C.h.l.length C.h.c, .slice C.A C.l.length C.c] 45 :: row b4 C.cells 45 :: alls litH C.l :: ownT C.h.A C.h.c C.h.l :: Γ) (fun _ h => h) ?_
        exact TK.retSub (Δ := own 86 3 (.slice C.A C.l.length C.c) C.l.length (ltsC C.l) :: alls litH C.l :: ownT C.h.A C.h.c C.h.l :: Γ) (fun R' hR' => TK.rets rfl rfl (.cons (.agg rfl (tb rfl) rfl rfl (has_rows (vs := C.cells) 3 rfl rfl)) (.cons (.tmp rfl) (.cons (.tmp rfl) .nil))) (hR' _ (by (repeat (first | exact List.Sublist.refl _ | apply List.Sublist.cons_cons | apply List.Sublist.cons))))) ⟨_, rfl, C, rfl, hg, rfl, rfl⟩
  · have hR : tookC l at_ = (((0, []), []), 0, 1) := tookS_out hat
    rw [hR]
    by_cases h0 : at_ < 0
    all_goals
      refine m_run ?_
      (apply TL.alloc; exact rfl; exact tb rfl; (exact m_lst))
      intro b4
      refine m_run ?_
      (apply TL.build tabs; exact rfl; exact rfl; exact rfl; exact rfl; exact rfl; exact rfl; (exact m_lst))
      refine m_run ?_
      refine TK.imp (Δ := row b4 cl0.cells 45 :: Γ) (fun _ h => h) ?_
      refine TK.free (H := ownT none 0 []) (fun m h => own_nil _ _ h) ?_
      refine TK.free (H := alls litH []) (fun m h => alls_nil h) ?_
      refine TK.free (H := own 86 3 (.slice none 0 0) 0 []) (fun m h => own_nil _ _ h) ?_
      exact TK.retSub (Δ := own 86 3 (.slice none 0 0) 0 [] :: alls litH [] :: ownT none 0 [] :: Γ) (fun R' hR' => TK.rets rfl rfl (.cons (.agg rfl (tb rfl) rfl rfl (has_rows (vs := cl0.cells) 3 rfl rfl)) (.cons (.tmp rfl) (.cons (.tmp rfl) .nil))) (hR' _ (by (repeat (first | exact List.Sublist.refl _ | apply List.Sublist.cons_cons | apply List.Sublist.cons))))) ⟨_, rfl, cl0, rfl, cl0_good, rfl, rfl⟩
end
section
/- The document's TakeRule: walked. -/
attribute [local irreducible] TK TL TQ TA TB Fn PV
set_option maxRecDepth 100000 in
set_option maxHeartbeats 4000000 in
theorem rtakerule_t (A : Option Addr) (m c : Nat) (l : List UInt8) (at_ : Int) (Γ : List HP) (hs : has Γ (srcAt 1 A m (bytesV l))) (hc : m ≤ c) (hl : l.length ≤ 1000000000) :
    FnV Try.prog 36 [.slice A m c, .int .i64 at_] Γ (RR Γ (tookR l at_)) := by
  refine Fn.enter Try.func36 rfl rfl rfl fun E => ?_
  refine TK.mem fun m0 hm0 => ?_
  obtain rfl := src_lenB (hs m0 hm0)
  clear hm0 m0
  by_cases hat : 0 ≤ at_ ∧ at_ ≤ l.length
  · obtain ⟨k, rfl⟩ : ∃ k : Nat, at_ = (k : Int) := ⟨at_.toNat, by omega⟩
    have hk : k ≤ l.length := by omega
    refine m_run ?_
    (apply TL.alloc; exact rfl; exact tb rfl; (exact m_lst))
    intro b4
    refine m_run ?_
    (apply TL.build tabs; exact rfl; exact rfl; exact rfl; exact rfl; exact rfl; exact rfl; (exact m_lst))
    refine m_run ?_
    (apply TL.box; exact rfl; exact rfl; (exact m_lst))
    intro t
    refine TL.imp (Δ := tkR t A l.length c k false :: row b4 [.bool false, .bool false, .int .u32 0, .int .u32 0, .slice none 0 0, .slice none 0 0] 59 :: Γ) (fun _ h => h) ?_
    refine m_run ?_
    (apply TL.callV; exact rfl; exact callB_of (by kernel_rfl); exact rfl; exact fun _ h => h)
    exact tsay_t t A c k l false _ (has_tls hs) hc hl hk
    rintro _ _ ⟨s, w, p, hx, k1, bad1, hA, hc0, hw, hp, hxs, hx6, hxc, hk1, hT1, rfl, rfl⟩
    have hgood : Sy.good ⟨s, w, ⟨p, hA, hc0, hx⟩⟩ := ⟨hw, ⟨hp, hxs⟩, hxc, hx6⟩
    refine m_run ?_
    (apply TL.pv; exact rfl; (apply PV.build tabs; exact rfl; exact rfl; exact rfl; exact rfl; exact rfl; exact (rfl : _ = ([.bool s, .bool w.v, .int .u32 (w.n : Int), .int .u32 (p : Int), .slice hA hx.length hc0, .slice none 0 0] : List Value))))
    (apply TL.alloc; exact rfl; exact tb rfl; exact (rfl : _ = [_, _, _, _, _, _]))
    intro b8
    refine TL.perm (List.Perm.trans (List.Perm.swap _ _ _) (List.Perm.cons _ (List.Perm.cons _ (List.Perm.swap _ _ _)))) ?_
    refine m_run ?_
    refine TL.imp (Δ := tkR t A l.length c k1 bad1 :: row b8 [.bool s, .bool w.v, .int .u32 (w.n : Int), .int .u32 (p : Int), .slice hA hx.length hc0, .slice none 0 0] 59 :: row b4 [.bool false, .bool false, .int .u32 0, .int .u32 0, .slice none 0 0, .slice none 0 0] 59 :: ownT hA hc0 hx :: Γ) (fun m hm => hm) ?_
    (apply TL.callV; exact rfl; exact callB_of (by kernel_rfl); exact rfl; exact fun _ h => h)
    exact toctet_t t A c 8 k1 l bad1 _ (has_tls (has_tls (has_tls hs))) hc hl hk1
    rintro _ _ ⟨n, k2, bad2, hn, hk2, hT2, rfl, rfl⟩
    refine m_run ?_
    refine TK.free (H := own 111 6 (.slice none 0 0) 0 []) (fun m h => own_nil _ _ h) ?_
    refine TK.perm (List.Perm.swap _ _ _) ?_
    refine TK.free (H := alls cdH []) (fun m h => alls_nil h) ?_
    refine TK.perm (List.perm_middle (l₁ := [_, _, _, _]) (l₂ := ownT hA hc0 hx :: Γ)).symm ?_
    apply TK.iter (fun j ρ' Γ' => ∃ (i : Nat) (xs : List Cd) (k3 : Nat) (bad3 : Bool) (B : Option Addr) (kk : Nat), i + j = n ∧ xs.length = i ∧ xs.length ≤ kk ∧ k3 ≤ l.length ∧ (∀ x ∈ xs, x.y.good) ∧ Tk (rep (cdS l) i k2) bad2 (xs.map cdVal) k3 bad3 ∧ lk ρ' 4 = .pointer (some ⟨b4, 0, none⟩) ∧ lk ρ' 7 = .pointer (some ⟨t, 0, none⟩) ∧ lk ρ' 8 = .pointer (some ⟨b8, 0, none⟩) ∧ lk ρ' 9 = .int .i64 (n : Int) ∧ lk ρ' 10 = .int .i64 (i : Int) ∧ Γ' = tkR t A l.length c k3 bad3 :: own 111 6 (.slice B xs.length kk) xs.length (cdsC xs) :: row b8 [.bool s, .bool w.v, .int .u32 (w.n : Int), .int .u32 (p : Int), .slice hA hx.length hc0, .slice B xs.length kk] 59 :: row b4 [.bool false, .bool false, .int .u32 0, .int .u32 0, .slice none 0 0, .slice none 0 0] 59 :: alls cdH xs :: ownT hA hc0 hx :: Γ) n
    · exact ⟨0, [], k2, bad2, none, 0, Nat.zero_add _, rfl, Nat.le_refl _, hk2, by simp, Tk.rep0 _ _ _, rfl, rfl, rfl, rfl, rfl, rfl⟩
    rintro j IH ρ' _ ⟨i, xs, k3, bad3, B, kk, hij, hxi, hkk, hk3, hgx, hT3, e4, e7, e8, e9, e10, rfl⟩
    refine TK.know5 e4 e7 e8 e9 e10 ?_
    by_cases hi : i < n
    · refine m_run ?_
      (apply TL.callV; exact rfl; exact callB_of (by kernel_rfl); exact rfl; exact fun _ h => h)
      exact toctet_t t A c 1 k3 l bad3 _ (has_tls (has_tls (has_tls (has_tls (has_tls hs))))) hc hl hk3
      rintro _ _ ⟨z, k4, bad4, hz, hk4, hT4, rfl, rfl⟩
      refine m_run ?_
      refine TL.know (t := 11) (v := .bool (z == 1)) (congrArg Value.bool one_b) ?_
      (apply TL.callV; exact rfl; exact callB_of (by kernel_rfl); exact rfl; exact fun _ h => h)
      exact tsay_t t A c k4 l bad4 _ (has_tls (has_tls (has_tls (has_tls (has_tls hs))))) hc hl hk4
      rintro _ _ ⟨es, ew, ep, ex, k5, bad5, eB, ek, hew, hep, hexs, hex6, hexc, hk5, hT5, rfl, rfl⟩
      obtain ⟨x, hx0⟩ : ∃ x : Cd, x = ⟨z == 1, ⟨es, ew, ⟨ep, eB, ek, ex⟩⟩⟩ := ⟨_, rfl⟩
      have hxg : x.y.good := by rw [hx0]; exact ⟨hew, ⟨hep, hexs⟩, hexc, hex6⟩
      refine TL.imp (Δ := tkR t A l.length c k5 bad5 :: own 111 6 (.slice B xs.length kk) xs.length (cdsC xs) :: row b8 [.bool s, .bool w.v, .int .u32 (w.n : Int), .int .u32 (p : Int), .slice hA hx.length hc0, .slice B xs.length kk] 59 :: row b4 [.bool false, .bool false, .int .u32 0, .int .u32 0, .slice none 0 0, .slice none 0 0] 59 :: alls cdH (xs ++ [x]) :: ownT hA hc0 hx :: Γ) (fun m hm => merge_all (by rw [hx0]; exact hm)) ?_
      refine m_run ?_
      (apply TL.alloc; exact rfl; exact tb rfl; (exact m_lst))
      intro b12
      refine m_run ?_
      refine TL.imp (Δ := row b12 [.bool es, .bool ew.v, .int .u32 (ew.n : Int), .int .u32 (ep : Int), .slice eB ex.length ek] 56 :: _) (fun _ h => h) ?_
      refine m_run ?_
      (apply TL.pv; exact rfl; (apply PV.build tabs; exact rfl; exact rfl; exact rfl; exact rfl; exact rfl; exact (rfl : _ = (Cd.cells ⟨z == 1, ⟨es, ew, ⟨ep, eB, ek, ex⟩⟩⟩))))
      refine m_run ?_
      (apply TL.buildSlice (l := (Cd.cells ⟨z == 1, ⟨es, ew, ⟨ep, eB, ek, ex⟩⟩⟩)); exact rfl; exact tb rfl; exact rfl; exact tb rfl; exact rfl; exact rfl; exact rfl; exact rfl; exact rfl)
      intro b48
      refine m_run ?_
      (apply TL.append 3; exact rfl; exact rfl; exact tb rfl; exact rfl; exact tb rfl; exact rfl; exact rfl; exact rfl)
      · exact fun _ h => h
      · exact rfl
      · exact has_src_row 0 rfl rfl
      · exact one_of rfl
      · show (xs.length + 1) * 56 ≤ _; omega
      · show xs.length + 1 ≤ maxLen; unfold maxLen; omega
      · exact fun _ => (rfl : _ = _ :: _ :: _ :: _ :: _)
      intro B' kk' hkk'
      rw [show cdsC xs ++ (Cd.cells ⟨z == 1, ⟨es, ew, ⟨ep, eB, ek, ex⟩⟩⟩) = cdsC (xs ++ [x]) by rw [hx0]; exact cds_snoc _ _]
      refine m_run ?_
      refine TK.sub (List.Sublist.cons _ (List.Sublist.cons _ (List.Sublist.refl _))) ?_
      have hxl : (xs ++ [x]).length = xs.length + 1 := by simp
      refine IH (j - 1) _ _ (by omega) ⟨i + 1, xs ++ [x], k5, bad5, B', kk', by omega, by omega, by omega, hk5, ?_, ?_, rfl, rfl, rfl, rfl, congrArg (Value.int .i64) (i64_succ i (by omega)), by rw [← hxl]⟩
      · intro y hy
        rcases List.mem_append.1 hy with hy | hy
        · exact hgx y hy
        · rw [List.mem_singleton.1 hy]; exact hxg
      · rw [List.map_append, hx0]
        exact Tk.rep1 hT3 (Tk.bind hT4 (Tk.map hT5 rfl))
    obtain rfl : i = n := by omega
    obtain ⟨C, hC⟩ : ∃ C : Rl, C = ⟨⟨s, w, ⟨p, hA, hc0, hx⟩⟩, B, kk, xs⟩ := ⟨_, rfl⟩
    have hT : Tk (rlS l k) false (rlVal C) k3 bad3 := by rw [hC]; exact Tk.bind hT1 (Tk.bind hT2 (Tk.map hT3 rfl))
    have hg : C.good := by rw [hC]; exact ⟨hkk, by show xs.length ≤ 8; omega, hgood, hgx⟩
    refine TK.imp (Δ := tkR t A l.length c k3 bad3 :: own 111 6 (.slice C.A C.l.length C.c) C.l.length (cdsC C.l) :: row b8 [.bool C.h.s, .bool C.h.w.v, .int .u32 (C.h.w.n : Int), .int .u32 (C.h.a.p : Int), .slice C.h.a.A C.h.a.l.length C.h.a.c, .slice C.A C.l.length C.c] 59 :: row b4 [.bool false, .bool false, .int .u32 0, .int .u32 0, .slice none 0 0, .slice none 0 0] 59 :: alls cdH C.l :: ownT C.h.a.A C.h.a.c C.h.a.l :: Γ) (fun _ h => by rw [hC]; exact h) ?_
    clear hT1 hT2 hT3 hC
    have hok : C.ok (tkR t A l.length c k3 bad3 :: own 111 6 (.slice C.A C.l.length C.c) C.l.length (cdsC C.l) :: row b8 [.bool C.h.s, .bool C.h.w.v, .int .u32 (C.h.w.n : Int), .int .u32 (C.h.a.p : Int), .slice C.h.a.A C.h.a.l.length C.h.a.c, .slice C.A C.l.length C.c] 59 :: row b4 [.bool false, .bool false, .int .u32 0, .int .u32 0, .slice none 0 0, .slice none 0 0] 59 :: alls cdH C.l :: ownT C.h.a.A C.h.a.c C.h.a.l :: Γ) := rl_own 1 4 5 rfl rfl rfl hg
    refine m_run ?_
    (apply TL.callV; exact rfl; exact callB_of (by kernel_rfl); exact rfl; exact fun _ h => h)
    exact rmayR_t C _ hok hg.small
    rintro _ _ ⟨rfl, rfl⟩
    refine m_run ?_
    (apply TL.callV; exact rfl; exact callB_of (by kernel_rfl); exact rfl; exact fun _ h => h)
    exact tover_t t A l.length c k3 bad3 (mayR C) _
    rintro _ _ ⟨rfl, rfl⟩
    rcases hT.out with ⟨rfl, ho⟩ | ⟨rfl, ho⟩
    · have hR : tookR l (k : Int) = (((false, ⟨false, 0⟩, 0, []), []), 0, 5) := tookS_bad hk ho
      rw [hR]
      refine m_run ?_
      (apply TL.build tabs; exact rfl; exact rfl; exact rfl; exact rfl; exact rfl; exact rfl; (exact m_lst))
      refine m_run ?_
      refine TK.imp (Δ := tkR t A l.length c k3 true :: own 111 6 (.slice C.A C.l.length C.c) C.l.length (cdsC C.l) :: row b8 [.bool C.h.s, .bool C.h.w.v, .int .u32 (C.h.w.n : Int), .int .u32 (C.h.a.p : Int), .slice C.h.a.A C.h.a.l.length C.h.a.c, .slice C.A C.l.length C.c] 59 :: row b4 rl0.cells 59 :: alls cdH C.l :: ownT C.h.a.A C.h.a.c C.h.a.l :: Γ) (fun _ h => h) ?_
      refine TK.sub (Δ := row b4 rl0.cells 59 :: Γ) (by (repeat (first | exact List.Sublist.refl _ | apply List.Sublist.cons_cons | apply List.Sublist.cons))) ?_
      refine TK.free (H := ownT none 0 []) (fun m h => own_nil _ _ h) ?_
      refine TK.free (H := alls cdH []) (fun m h => alls_nil h) ?_
      refine TK.free (H := own 111 6 (.slice none 0 0) 0 []) (fun m h => own_nil _ _ h) ?_
      exact TK.retSub (Δ := own 111 6 (.slice none 0 0) 0 [] :: alls cdH [] :: ownT none 0 [] :: Γ) (fun R' hR' => TK.rets rfl rfl (.cons (.agg rfl (tb rfl) rfl rfl (has_rows (vs := rl0.cells) 3 rfl rfl)) (.cons (.tmp rfl) (.cons (.tmp rfl) .nil))) (hR' _ (by (repeat (first | exact List.Sublist.refl _ | apply List.Sublist.cons_cons | apply List.Sublist.cons))))) ⟨_, rfl, rl0, rfl, rl0_good, rfl, rfl⟩
    · have hme := mayRV_eq C
      cases hm : mayR C with
      | false =>
        have hR : tookR l (k : Int) = (((false, ⟨false, 0⟩, 0, []), []), 0, 5) := tookS_no hk ho (by rw [← hme]; exact hm)
        rw [hR]
        refine m_run ?_
        (apply TL.build tabs; exact rfl; exact rfl; exact rfl; exact rfl; exact rfl; exact rfl; (exact m_lst))
        refine m_run ?_
        refine TK.imp (Δ := tkR t A l.length c k3 false :: own 111 6 (.slice C.A C.l.length C.c) C.l.length (cdsC C.l) :: row b8 [.bool C.h.s, .bool C.h.w.v, .int .u32 (C.h.w.n : Int), .int .u32 (C.h.a.p : Int), .slice C.h.a.A C.h.a.l.length C.h.a.c, .slice C.A C.l.length C.c] 59 :: row b4 rl0.cells 59 :: alls cdH C.l :: ownT C.h.a.A C.h.a.c C.h.a.l :: Γ) (fun _ h => h) ?_
        refine TK.sub (Δ := row b4 rl0.cells 59 :: Γ) (by (repeat (first | exact List.Sublist.refl _ | apply List.Sublist.cons_cons | apply List.Sublist.cons))) ?_
        refine TK.free (H := ownT none 0 []) (fun m h => own_nil _ _ h) ?_
        refine TK.free (H := alls cdH []) (fun m h => alls_nil h) ?_
        refine TK.free (H := own 111 6 (.slice none 0 0) 0 []) (fun m h => own_nil _ _ h) ?_
        exact TK.retSub (Δ := own 111 6 (.slice none 0 0) 0 [] :: alls cdH [] :: ownT none 0 [] :: Γ) (fun R' hR' => TK.rets rfl rfl (.cons (.agg rfl (tb rfl) rfl rfl (has_rows (vs := rl0.cells) 3 rfl rfl)) (.cons (.tmp rfl) (.cons (.tmp rfl) .nil))) (hR' _ (by (repeat (first | exact List.Sublist.refl _ | apply List.Sublist.cons_cons | apply List.Sublist.cons))))) ⟨_, rfl, rl0, rfl, rl0_good, rfl, rfl⟩
      | true =>
        have hR : tookR l (k : Int) = (rlVal C, k3, 0) := tookS_ok hk ho (by rw [← hme]; exact hm)
        rw [hR]
        refine m_run ?_
        refine TK.imp (Δ := tkR t A l.length c k3 false :: own 111 6 (.slice C.A C.l.length C.c) C.l.length (cdsC C.l) :: row b8 [.bool C.h.s, .bool C.h.w.v, .int .u32 (C.h.w.n : Int), .int .u32 (C.h.a.p : Int), .slice C.h.a.A C.h.a.l.length C.h.a.c, .slice C.A C.l.length C.c] 59 :: row b4 C.cells 59 :: alls cdH C.l :: ownT C.h.a.A C.h.a.c C.h.a.l :: Γ) (fun _ h => h) ?_
        exact TK.retSub (Δ := own 111 6 (.slice C.A C.l.length C.c) C.l.length (cdsC C.l) :: alls cdH C.l :: ownT C.h.a.A C.h.a.c C.h.a.l :: Γ) (fun R' hR' => TK.rets rfl rfl (.cons (.agg rfl (tb rfl) rfl rfl (has_rows (vs := C.cells) 3 rfl rfl)) (.cons (.tmp rfl) (.cons (.tmp rfl) .nil))) (hR' _ (by (repeat (first | exact List.Sublist.refl _ | apply List.Sublist.cons_cons | apply List.Sublist.cons))))) ⟨_, rfl, C, rfl, hg, rfl, rfl⟩
  · have hR : tookR l at_ = (((false, ⟨false, 0⟩, 0, []), []), 0, 1) := tookS_out hat
    rw [hR]
    by_cases h0 : at_ < 0
    all_goals
      refine m_run ?_
      (apply TL.alloc; exact rfl; exact tb rfl; (exact m_lst))
      intro b4
      refine m_run ?_
      (apply TL.build tabs; exact rfl; exact rfl; exact rfl; exact rfl; exact rfl; exact rfl; (exact m_lst))
      refine m_run ?_
      refine TK.imp (Δ := row b4 rl0.cells 59 :: Γ) (fun _ h => h) ?_
      refine TK.free (H := ownT none 0 []) (fun m h => own_nil _ _ h) ?_
      refine TK.free (H := alls cdH []) (fun m h => alls_nil h) ?_
      refine TK.free (H := own 111 6 (.slice none 0 0) 0 []) (fun m h => own_nil _ _ h) ?_
      exact TK.retSub (Δ := own 111 6 (.slice none 0 0) 0 [] :: alls cdH [] :: ownT none 0 [] :: Γ) (fun R' hR' => TK.rets rfl rfl (.cons (.agg rfl (tb rfl) rfl rfl (has_rows (vs := rl0.cells) 3 rfl rfl)) (.cons (.tmp rfl) (.cons (.tmp rfl) .nil))) (hR' _ (by (repeat (first | exact List.Sublist.refl _ | apply List.Sublist.cons_cons | apply List.Sublist.cons))))) ⟨_, rfl, rl0, rfl, rl0_good, rfl, rfl⟩
end
end Go.Proofs.Ytokggdgagfmacaa.E
