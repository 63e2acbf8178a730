/- taken, the takers, the anchor: walked. -/
import Derived.Test.YtokggdgagfmacaaXh
import Derived.Recover
namespace Go.Proofs.Ytokggdgagfmacaa.E
open Go Go.RowKit Go.Proofs
section
/- The closure that is deferred: it recovers what was bad in the bytes. -/
section
variable {cx : Cx} {ops : Array Oper} {ρ : Env} {ds : List Deferred} {Γ : List HP} {P : Program}
theorem region_wp {id : Nat} {l : List Oper} {K : Act → World → Prop} {Q : Exit → Act → World → Prop} {a : Act} {w : World} (hmd : cx.md = none) (hR : ∀ e Γ, ¬ cx.R e Γ) (h : TL cx l.toArray K l ρ [] Γ) (hr : Rp cx.n ρ [] a) (hs : Sat cx.E Γ w) (hQ : ∀ a w, K a w → Q .normal a w) : (Code.region id l.toArray false).wp cx.P Q a w := by
  have h1 := h a w hr hs
  unfold wpL at h1
  simp only [hmd] at h1
  refine wp_mono (wp_region_lit h1) ?_
  intro e a w hq
  cases e with
  | normal => exact hQ a w hq
  | panic ch =>
    obtain ⟨_, ⟨_, Γ', h, _⟩ | ⟨h, _⟩⟩ := hq
    · exact (hR _ _ h).elim
    · rw [hmd] at h; cases h
  | exit id => exact hq.elim
  | goto l => exact hq.elim
  | ret => exact hq.elim
  | outgrown => exact hq.elim
theorem TL.finR : TL cx ops (fun a w => Rp cx.n ρ ds a ∧ Sat cx.E Γ w) [] ρ ds Γ := fun a w hr hs => wpL_nil (show Qk cx _ .normal a w from ⟨hr, hs⟩)
theorem TL.finX : TL cx ops (fun a w => (∃ ρ, Rp cx.n ρ ds a) ∧ Sat cx.E Γ w) [] ρ ds Γ := fun a w hr hs => wpL_nil (show Qk cx _ .normal a w from ⟨⟨_, hr⟩, hs⟩)
theorem envOf_rp {n : Nat} {args : List Value} (hl : args.length ≤ n) : Rp n (envOf args 0) [] ⟨args.toArray ++ Array.replicate (n - args.length) undef, []⟩ := ⟨by simp; omega, fun t => by
    rw [lk_envOf]
    simp only [Nat.zero_le, if_true, Nat.sub_zero, Array.getD_eq_getD_getElem?, List.getD_eq_getElem?_getD]
    rcases Nat.lt_or_ge t args.length with ht | ht
    · rw [Array.getElem?_append_left (by simpa using ht)]; simp
    · rw [Array.getElem?_append_right (by simpa using ht), Array.getElem?_replicate, List.getElem?_eq_none ht]
      split <;> simp, rfl⟩
theorem opsS_none {Q : Exit → Act → List Frame → World → Prop} {i d : Nat} {rest : List Nat} {ty : TypeId} {pos : String} {after : Array Edge} {a : Act} {cs : List Frame} {w : World} (ho : ops[i]? = some ⟨some d, .call ⟨.builtin .recover, #[], #[]⟩, ty, pos, after, none⟩) (hn : recoverD cs = none) (h : wpOpsS P ops Q rest (a.put (some d) .nilIface) cs w) : wpOpsS P ops Q (i :: rest) a cs w := by
  have hx : (execOp a.eval ⟨some d, .call ⟨.builtin .recover, #[], #[]⟩, ty, pos, after, none⟩).run P w = .ok .recover w := by rfl
  simp only [wpOpsS, ho]
  rw [if_pos (show Region.wanted _ (yielded ops a.tmps) = true from rfl), hx]
  simp only [hn]
  exact h
theorem opsS_some {Q : Exit → Act → List Frame → World → Prop} {i d : Nat} {rest : List Nat} {ty : TypeId} {pos : String} {after : Array Edge} {a : Act} {cs cs' : List Frame} {w : World} {v : Value} (ho : ops[i]? = some ⟨some d, .call ⟨.builtin .recover, #[], #[]⟩, ty, pos, after, none⟩) (hn : recoverD cs = some (v, cs')) (h : wpOpsS P ops Q rest (a.put (some d) v) cs' w) : wpOpsS P ops Q (i :: rest) a cs w := by
  have hx : (execOp a.eval ⟨some d, .call ⟨.builtin .recover, #[], #[]⟩, ty, pos, after, none⟩).run P w = .ok .recover w := by rfl
  simp only [wpOpsS, ho]
  rw [if_pos (show Region.wanted _ (yielded ops a.tmps) = true from rfl), hx]
  simp only [hn]
  exact h
theorem opsS_value {Q : Exit → Act → List Frame → World → Prop} {i d : Nat} {op : Op} {rest : List Nat} {ty : TypeId} {pos : String} {after : Array Edge} {a : Act} {cs : List Frame} {w : World} {v : Value} (ho : ops[i]? = some ⟨some d, op, ty, pos, after, none⟩) (hx : (execOp a.eval ⟨some d, op, ty, pos, after, none⟩).run P w = .ok (.value v) w) (h : wpOpsS P ops Q rest (a.put (some d) v) cs w) : wpOpsS P ops Q (i :: rest) a cs w := by
  simp only [wpOpsS, ho]
  rw [if_pos (show Region.wanted _ (yielded ops a.tmps) = true from rfl), hx]
  exact h
theorem FnD.enter {f : FuncId} {fn : Func} {c : Code} {n : Nat} {args : List Value} {u : FrameMode} {R : Ending → FrameMode → List HP → Prop} (hfn : P.funcs[f]? = some fn) (hc : fn.body = some c) (hn : fn.ntmps = n) (hlen : Nat.ble args.length n = true)
    (h : ∀ E a w c₀ cs, Rp n (envOf args 0) [] a → Sat E Γ w → c₀.mode = u → c.wpS P (bodyPostS P fn c₀ cs fun e u' w' => ∃ Γ', R e u' Γ' ∧ Sat E Γ' w') a (c₀ :: cs) w) : FnD P f args u Γ R := by
  intro E w hs
  refine callsD_of_wpS hfn hc fun c₀ cs hu => h E _ w c₀ cs ?_ hs hu
  subst hn
  have := envOf_rp (n := fn.ntmps) (args := args) (by simpa using hlen)
  simpa using this
theorem opsS_assign {Q : Exit → Act → List Frame → World → Prop} {n i d : Nat} {x : Operand} {rest : List Nat} {ty : TypeId} {pos : String} {after : Array Edge} {a : Act} {cs : List Frame} {w : World} {v : Value} (hr : Rp n ρ [] a) (ho : ops[i]? = some ⟨some d, .assign x, ty, pos, after, none⟩) (hx : ev ρ x = v) (h : wpOpsS P ops Q rest (a.put (some d) v) cs w) : wpOpsS P ops Q (i :: rest) a cs w :=
  opsS_value ho (by rw [hr.ev]; simp [execOp, hx]) h
end
attribute [local irreducible] TK TL TQ TA TB PV RP
noncomputable abbrev dcx (E : World) : Cx := ⟨Try.prog, E, 11, 108, fun _ _ => False, Try.f108, Try.func108, none⟩
set_option maxRecDepth 100000 in
theorem takenD_go (bn be : Nat) (Γ : List HP) : FnD Try.prog 108 [.pointer (some ⟨bn, 0, none⟩), .pointer (some ⟨be, 0, none⟩)] .returning Γ fun e u' Γ' => (∃ v, e = .returned v) ∧ u' = .returning ∧ Γ' = Γ := by
  refine FnD.enter Try.func108 rfl rfl rfl fun E a w c₀ cs hr hs hu => ?_
  refine wpS_seq (wpS_region ?_)
  refine opsS_none rfl (by simp [recoverD, hu]) ?_
  refine opsS_assign (hr.put 3 .nilIface rfl) rfl rfl ?_
  refine wpS_of_wp ?_
  have hr2 := (hr.put 3 .nilIface rfl).put 2 .nilIface rfl
  refine wp_seq (region_wp (cx := dcx E) rfl (fun _ _ h => h) (K := fun a w => Rp 11 ((4, .nilIface) :: (2, .nilIface) :: (3, .nilIface) :: envOf [.pointer (some ⟨bn, 0, none⟩), .pointer (some ⟨be, 0, none⟩)] 0) [] a ∧ Sat E Γ w) ?_ hr2 hs fun a w h => ?_)
  · refine m_rrun ?_
    exact TL.finR
  obtain ⟨hr, hs⟩ := h
  refine wp_block ?_
  refine wp_seq (region_wp (cx := dcx E) rfl (fun _ _ h => h) (K := fun a w => Rp 11 ((6, .bool true) :: (7, .bool true) :: (4, .nilIface) :: (2, .nilIface) :: (3, .nilIface) :: envOf [.pointer (some ⟨bn, 0, none⟩), .pointer (some ⟨be, 0, none⟩)] 0) [] a ∧ Sat E Γ w) ?_ hr hs fun a w h => ?_)
  · (apply TL.pv; exact rfl; (apply PV.nilNil; exact rfl; exact tb rfl; exact rfl))
    refine m_rrun ?_
    exact TL.finR
  obtain ⟨hr, hs⟩ := h
  refine wp_cond_true (by rw [hr.ev]; rfl) (wp_skip ?_)
  refine ⟨hr.defers, c₀.mode, rfl, .tuple #[], (by simp [results, show Try.f108.results = #[] from rfl, go_sem]), Γ, ⟨⟨_, rfl⟩, hu, rfl⟩, hs⟩
set_option maxRecDepth 100000 in
theorem takenD_no (bn be : Nat) (vn ve : Value) (Γ : List HP) : FnD Try.prog 108 [.pointer (some ⟨bn, 0, none⟩), .pointer (some ⟨be, 0, none⟩)] (.panicking ERR) (row bn [vn] 3 :: row be [ve] 30 :: Γ) fun e u' Γ' => (∃ v, e = .returned v) ∧ settle u' = .returning ∧ Γ' = row bn [.int .i64 0] 3 :: row be [.int .i64 5] 30 :: Γ := by
  refine FnD.enter Try.func108 rfl rfl rfl fun E a w c₀ cs hr hs hu => ?_
  refine wpS_seq (wpS_region ?_)
  refine opsS_some rfl (v := .iface 30 (.int .i64 5)) (cs' := { c₀ with mode := .panicking [{ v := .iface 30 (.int .i64 5), recovered := true }] } :: cs) (by simp [recoverD, hu]) ?_
  refine opsS_assign (hr.put 3 (.iface 30 (.int .i64 5)) rfl) rfl rfl ?_
  refine wpS_of_wp ?_
  have hr2 := (hr.put 3 (.iface 30 (.int .i64 5)) rfl).put 2 (.iface 30 (.int .i64 5)) rfl
  refine wp_seq (region_wp (cx := dcx E) rfl (fun _ _ h => h) (K := fun a w => Rp 11 ((4, .iface 30 (.int .i64 5)) :: (2, .iface 30 (.int .i64 5)) :: (3, .iface 30 (.int .i64 5)) :: envOf [.pointer (some ⟨bn, 0, none⟩), .pointer (some ⟨be, 0, none⟩)] 0) [] a ∧ Sat E (row bn [vn] 3 :: row be [ve] 30 :: Γ) w) ?_ hr2 hs fun a w h => ?_)
  · refine m_rrun ?_
    exact TL.finR
  obtain ⟨hr, hs⟩ := h
  refine wp_block ?_
  refine wp_seq (region_wp (cx := dcx E) rfl (fun _ _ h => h) (K := fun a w => Rp 11 ((6, .bool false) :: (7, .bool false) :: (4, .iface 30 (.int .i64 5)) :: (2, .iface 30 (.int .i64 5)) :: (3, .iface 30 (.int .i64 5)) :: envOf [.pointer (some ⟨bn, 0, none⟩), .pointer (some ⟨be, 0, none⟩)] 0) [] a ∧ Sat E (row bn [vn] 3 :: row be [ve] 30 :: Γ) w) ?_ hr hs fun a w h => ?_)
  · (apply TL.pv; exact rfl; (apply PV.ifaceNil; exact rfl; exact tb rfl; exact rfl))
    refine m_rrun ?_
    exact TL.finR
  obtain ⟨hr, hs⟩ := h
  refine wp_cond_false (by rw [hr.ev]; rfl) ?_
  refine wp_seq (region_wp (cx := dcx E) rfl (fun _ _ h => h) (K := fun a w => Rp 11 ((8, .bool true) :: (10, .bool true) :: (9, .iface 30 (.int .i64 5)) :: (6, .bool false) :: (7, .bool false) :: (4, .iface 30 (.int .i64 5)) :: (2, .iface 30 (.int .i64 5)) :: (3, .iface 30 (.int .i64 5)) :: envOf [.pointer (some ⟨bn, 0, none⟩), .pointer (some ⟨be, 0, none⟩)] 0) [] a ∧ Sat E (row bn [vn] 3 :: row be [ve] 30 :: Γ) w) ?_ hr hs fun a w h => ?_)
  · (apply TL.pv; exact rfl; (apply PV.iface; exact rfl; exact tb rfl; exact rfl))
    (apply TL.pv; exact rfl; (apply PV.eqIface (c := true); exact rfl; exact rfl; exact fun w => Go.Lib.run_eql_iface_int (q := .i64) (ms := #[]) w 5 5 (by kernel_rfl) (by kernel_rfl) (by kernel_rfl)))
    refine m_rrun ?_
    exact TL.finR
  obtain ⟨hr, hs⟩ := h
  refine wp_cond_true (by rw [hr.ev]; rfl) ?_
  refine region_wp (cx := dcx E) rfl (fun _ _ h => h) (K := fun a w => (∃ ρ, Rp 11 ρ [] a) ∧ Sat E (row bn [.int .i64 0] 3 :: row be [.int .i64 5] 30 :: Γ) w) ?_ hr hs fun a w h => ?_
  · refine m_rrun ?_
    exact TL.finX
  obtain ⟨⟨ρ, hr⟩, hs⟩ := h
  exact ⟨hr.defers, _, rfl, .tuple #[], (by simp [results, show Try.f108.results = #[] from rfl, go_sem]), _, ⟨⟨_, rfl⟩, rfl, rfl⟩, hs⟩
end
section
/- The program's taken: a deferred closure recovers: walked; TakeFact. -/
section
variable {cx : Cx} {ρ : Env} {ds : List Deferred} {Γ : List HP}
theorem leave1 {f : FuncId} {vs cap all' : List Value} {u : FrameMode} {a : Act} {w : World} {R : Ending → FrameMode → List HP → Prop} (hu : u ≠ .run) (hc : Callable cx.P f) (ha : vs ++ cap = all') (hf : FnD cx.P f all' u Γ R) (hs : Sat cx.E Γ w) (hr : Rp cx.n ρ ds a)
    (h : ∀ e u' Γ', R e u' Γ' → (∃ v, e = .returned v) ∧ settle u' = .returning ∧ ∃ rvs ws Δ, cx.fn.results = List.toArray rvs ∧ RvsOk cx Γ' ρ rvs ws ∧ Ent Γ' Δ ∧ cx.R (.returned (oneOr ws)) Δ) :
    Leaves cx.P cx.fn a.tmps cx.post [⟨.fn (.func f) cap.toArray, vs.toArray⟩] u w := by
  obtain ⟨fn, h1, h2, h3⟩ := hc
  refine leaves_cons (f := f) (args := all'.toArray) hu ?_ (CallsD.mono (hf cx.E w hs) ?_)
  · rw [← ha]
    have h2' : ¬ fn.name = "runtime.NumGoroutine" := by simpa using h2
    have h3' : ¬ fn.body = none := by intro h; rw [h] at h3; cases h3
    simp [invoke, callFunc, h1, h2', h3', program, Sem.run]
  · rintro e u' w' ⟨Γ', hR, hs'⟩
    obtain ⟨⟨v, rfl⟩, hst, rvs, ws, Δ, hres, hv, hE, hcR⟩ := h _ _ _ hR
    have hr' : Rp cx.n ρ [] ⟨a.tmps, []⟩ := ⟨hr.size, hr.get, rfl⟩
    show Leaves cx.P cx.fn a.tmps cx.post [] (settle u') w'
    rw [hst]
    refine ⟨oneOr ws, ?_, Δ, hcR, hs'.weaken hE⟩
    have h1 := run_rvs hv hr' hs'
    simp only [results_eq, hres, Array.mapM_eq_mapM_toList, Sem.run_bind, Sem.run_map, h1, Result.andThen_ok, Sem.run_pure]
    congr 1
    match ws with
    | [] => simp [oneOr]
    | [v] => simp [oneOr]
    | v :: v' :: vs => simp [oneOr]
end
attribute [local irreducible] TK TL TQ TA TB Fn PV
set_option maxRecDepth 100000 in
set_option maxHeartbeats 4000000 in
theorem taken_t {α : Type} (F : FuncId) (hcF : Callable Try.prog F) (pf : Nat) (A : Option Addr) (m c : Nat) (l : List UInt8) (at_ : Int) (P0 : HP) (Γ : List HP) (o : Nat → Option (α × Nat)) (ret : α → List HP → Prop) (pan : HP → Prop) (hs : has Γ (srcAt 1 A m (bytesV l))) (hc : m ≤ c) (hl : l.length ≤ 1000000000)
    (hF : ∀ r k Γ, has Γ (srcAt 1 A m (bytesV l)) → k ≤ l.length → Fn Try.prog F [.pointer (some ⟨r, 0, none⟩), .pointer (some ⟨pf, 0, none⟩)] (rdR r A m c k :: P0 :: Γ) (RP (o k) (fun x k' _ Γ' => ∃ Ps : List HP, ret x Ps ∧ Γ' = rdR r A m c k' :: (Ps ++ Γ)) (fun Γ' => ∃ k' P1, pan P1 ∧ Ent Γ' (rdR r A m c k' :: P1 :: Γ)))) :
    FnV Try.prog 63 [.slice A m c, .int .i64 at_, .func (.func F) #[] #[.pointer (some ⟨pf, 0, none⟩)]] (P0 :: Γ) fun v Γ' =>
      (¬ (0 ≤ at_ ∧ at_ ≤ l.length) ∧ v = .tuple #[.int .i64 0, .int .i64 1] ∧ Γ' = P0 :: Γ) ∨
      ∃ k : Nat, at_ = (k : Int) ∧ k ≤ l.length ∧ ((∃ x k' Ps, o k = some (x, k') ∧ ret x Ps ∧ v = .tuple #[.int .i64 (k' : Int), .int .i64 0] ∧ Γ' = Ps ++ Γ) ∨ (o k = none ∧ ∃ P1, pan P1 ∧ v = .tuple #[.int .i64 0, .int .i64 5] ∧ Γ' = P1 :: Γ)) := by
  refine Fn.enterIn Try.func63 rfl rfl rfl fun E => ?_
  refine TK.mem fun m0 hm0 => ?_
  obtain rfl := src_lenB (has_tls hs m0 hm0)
  clear hm0 m0
  by_cases hat : 0 ≤ at_ ∧ at_ ≤ l.length
  · obtain ⟨k, rfl⟩ : ∃ k : Nat, at_ = (k : Int) := ⟨at_.toNat, by omega⟩
    have hk : k ≤ l.length := by omega
    refine m_run ?_
    (apply TL.alloc; exact rfl; exact tb rfl; (exact m_lst))
    intro b6
    refine m_run ?_
    (apply TL.alloc; exact rfl; exact tb rfl; (exact m_lst))
    intro b7
    refine TL.imp (Δ := row b7 [.int .i64 0] 30 :: row b6 [.int .i64 0] 3 :: P0 :: Γ) (fun _ h => h) ?_
    refine m_run ?_
    (apply TL.pv; exact rfl; (apply PV.makeFunc; exact rfl; exact rfl))
    (apply TL.defer (fs := []) (cs := [.pointer (some ⟨b6, 0, none⟩), .pointer (some ⟨b7, 0, none⟩)]); exact rfl; exact rfl; exact rfl)
    refine m_run ?_
    (apply TL.build tabs; exact rfl; exact rfl; exact rfl; exact rfl; exact rfl; exact rfl; (exact m_lst))
    refine m_run ?_
    (apply TL.box; exact rfl; exact rfl; (exact m_lst))
    intro r
    refine TL.imp (Δ := rdR r A l.length c k :: P0 :: row b7 [.int .i64 0] 30 :: row b6 [.int .i64 0] 3 :: Γ) (fun m hm => all_perm (List.Perm.cons _ (List.Perm.trans (List.Perm.cons _ (List.Perm.swap _ _ _)) (List.Perm.swap _ _ _))) hm) ?_
    refine m_run ?_
    have hFk := hF r k (row b7 [.int .i64 0] 30 :: row b6 [.int .i64 0] 3 :: Γ) (has_tls (has_tls hs)) hk
    cases ho : o k with
    | some z =>
      obtain ⟨x, k'⟩ := z
      (apply TL.callFV (fs := []) (cs := [.pointer (some ⟨pf, 0, none⟩)]); exact rfl; exact rfl; exact hcF; exact rfl; exact fun _ h => h)
      exact hFk.got ho
      rintro _ _ ⟨Ps, hret, rfl⟩
      refine TL.perm (List.Perm.cons _ (List.perm_append_comm_assoc Ps [row b7 [.int .i64 0] 30, row b6 [.int .i64 0] 3] Γ)) ?_
      refine TL.imp (Δ := rdR r A l.length c k' :: row b7 [.int .i64 0] 30 :: row b6 [.int .i64 0] 3 :: (Ps ++ Γ)) (fun m hm => hm) ?_
      refine m_run ?_
      refine TK.retD rfl fun a w hr hsat => ?_
      refine leave1 (by simp) (callB_of (by kernel_rfl)) rfl (takenD_go b6 b7 _) hsat hr ?_
      rintro e u' Γ' ⟨he, rfl, rfl⟩
      refine ⟨he, rfl, _, [.int .i64 (k' : Int), .int .i64 0], Ps ++ Γ, rfl, .cons (.cell rfl (tb rfl) rfl (has_row 2 rfl rfl)) (.cons (.cell rfl (tb rfl) rfl (has_row 1 rfl rfl)) .nil), ?_, ?_⟩
      · exact .tail (.tail (.tail (.refl _)))
      · exact ⟨_, rfl, .inr ⟨k, rfl, hk, .inl ⟨x, k', Ps, ho, hret, rfl, rfl⟩⟩⟩
    | none =>
      rw [ho] at hFk
      (apply TL.callF (fs := []) (cs := [.pointer (some ⟨pf, 0, none⟩)]); exact rfl; exact rfl; exact hcF; exact rfl; exact fun _ h => h)
      exact hFk
      · rintro ch Γ' ⟨hch, k', P1, hpan, hE⟩
        injection hch with hch
        subst hch
        refine ⟨rfl, .inr ⟨rfl, fun a w hr hsat => ?_⟩⟩
        have hE2 : Ent Γ' (row b6 [.int .i64 0] 3 :: row b7 [.int .i64 0] 30 :: P1 :: Γ) := hE.trans ((Ent.refl _).tail.trans fun m hm => ⟨m, Mem.sub_refl _, all_perm (List.Perm.trans (List.Perm.cons _ (List.Perm.swap _ _ _)) (List.Perm.trans (List.Perm.swap _ _ _) (List.Perm.cons _ (List.Perm.swap _ _ _)))) hm⟩)
        refine leave1 (by simp) (callB_of (by kernel_rfl)) rfl (takenD_no b6 b7 _ _ _) (hsat.weaken hE2) hr ?_
        rintro e u' Γ'' ⟨he, hst, rfl⟩
        refine ⟨he, hst, _, [.int .i64 0, .int .i64 5], P1 :: Γ, rfl, .cons (.cell rfl (tb rfl) rfl (has_row 0 rfl rfl)) (.cons (.cell rfl (tb rfl) rfl (has_row 1 rfl rfl)) .nil), ?_, ?_⟩
        · exact .tail (.tail (.refl _))
        · exact ⟨_, rfl, .inr ⟨k, rfl, hk, .inr ⟨ho, P1, hpan, rfl, rfl⟩⟩⟩
      · rintro Γ' ⟨h, _⟩; cases h
      · rintro v Γ' ⟨h, _⟩; cases h
  · by_cases h0 : at_ < 0
    all_goals
      refine m_run ?_
      (apply TL.alloc; exact rfl; exact tb rfl; (exact m_lst))
      intro b6
      refine m_run ?_
      (apply TL.alloc; exact rfl; exact tb rfl; (exact m_lst))
      intro b7
      refine TL.imp (Δ := row b7 [.int .i64 0] 30 :: row b6 [.int .i64 0] 3 :: P0 :: Γ) (fun _ h => h) ?_
      refine m_run ?_
      exact TK.retSub (Δ := P0 :: Γ) (fun R' hR' => TK.rets rfl rfl (.cons (.cell rfl (tb rfl) rfl (has_row 1 rfl rfl)) (.cons (.cell rfl (tb rfl) rfl (has_row 0 rfl rfl)) .nil)) (hR' _ (by (repeat (first | exact List.Sublist.refl _ | apply List.Sublist.cons_cons | apply List.Sublist.cons))))) ⟨_, rfl, .inl ⟨hat, rfl, rfl⟩⟩
end
section
/- TakeFact, TakeClause, TakeRule: walked. -/
theorem RP.mono {α : Type} {o : Option (α × Nat)} {ret ret' : α → Nat → Value → List HP → Prop} {pan pan' : List HP → Prop} {e : Ending} {Γ' : List HP} (h : RP o ret pan e Γ') (h1 : ∀ x k v Γ', ret x k v Γ' → ret' x k v Γ') (h2 : ∀ Γ', pan Γ' → pan' Γ') : RP o ret' pan' e Γ' := by
  cases o with
  | none => exact ⟨h.1, h2 _ h.2⟩
  | some z => obtain ⟨v, he, hr⟩ := h; exact ⟨v, he, h1 _ _ _ _ hr⟩
attribute [local irreducible] TK TL TQ TA TB Fn PV
set_option maxRecDepth 100000 in
set_option maxHeartbeats 4000000 in
theorem takefact_t (A : Option Addr) (m c : Nat) (l : List UInt8) (at_ : Int) (Γ : List HP) (hs : has Γ (srcAt 1 A m (bytesV l))) (hc : m ≤ c) (hl : l.length ≤ 1000000000) :
    FnV Try.prog 20 [.slice A m c, .int .i64 at_] Γ (RF Γ (tookF l at_)) := by
  refine Fn.enter Try.func20 rfl rfl rfl fun E => ?_
  refine TK.mem fun m0 hm0 => ?_
  obtain rfl := src_lenB (hs m0 hm0)
  clear hm0 m0
  refine m_run ?_
  (apply TL.alloc; exact rfl; exact tb rfl; (exact m_lst))
  intro pf
  refine TL.imp (Δ := row pf [.int .u32 0, .slice none 0 0] 26 :: Γ) (fun _ h => h) ?_
  refine m_run ?_
  (apply TL.pv; exact rfl; (apply PV.makeFunc; exact rfl; exact rfl))
  (apply TL.callV; exact rfl; exact callB_of (by kernel_rfl); exact rfl; exact fun _ h => h)
  exact taken_t 64 (callB_of (by kernel_rfl)) pf A l.length c l at_ _ _ (fctS l) (fun x Ps => ∃ B kk, x.2.length ≤ kk ∧ Ps = [ownU B kk x.2, row pf (Fct.cells ⟨x.1, B, kk, x.2⟩) 26]) (fun P1 => ∃ vs : List Value, vs.length = 2 ∧ P1 = row pf vs 26) hs hc hl fun r k Γ hs hk => Fn.mono (cfact_t r pf A c k l Γ hs hc hl) fun e Γ' h => h.mono (fun x k' v Γ' ⟨B, kk, h1, h2⟩ => ⟨_, ⟨B, kk, h1, rfl⟩, h2⟩) (fun Γ' ⟨k', vs, hv, hE⟩ => ⟨k', _, ⟨vs, hv, rfl⟩, hE⟩)
  rintro _ _ (⟨hat, rfl, rfl⟩ | ⟨k, rfl, hk, ⟨x, k', _, ho, ⟨B, kk, hkk, rfl⟩, rfl, rfl⟩ | ⟨ho, _, ⟨vs, hv, rfl⟩, rfl, rfl⟩⟩)
  · have hR : tookF l at_ = ((0, []), 0, 1) := tookS_out hat
    rw [hR]
    refine m_run ?_
    (apply TL.build tabs; exact rfl; exact rfl; exact rfl; exact rfl; exact rfl; exact rfl; (exact m_lst))
    refine m_run ?_
    refine TK.imp (Δ := row pf (Fct.cells ⟨0, none, 0, []⟩) 26 :: Γ) (fun _ h => h) ?_
    refine TK.free (H := ownU none 0 []) (fun m h => own_nil _ _ h) ?_
    exact TK.retSub (Δ := ownU none 0 [] :: Γ) (fun R' hR' => TK.rets rfl rfl (.cons (.agg rfl (tb rfl) rfl rfl (has_rows (vs := Fct.cells ⟨0, none, 0, []⟩) 1 rfl rfl)) (.cons (.tmp rfl) (.cons (.tmp rfl) .nil))) (hR' _ (by (repeat (first | exact List.Sublist.refl _ | apply List.Sublist.cons_cons | apply List.Sublist.cons))))) ⟨_, rfl, none, 0, Nat.le_refl _, rfl, rfl⟩
  · have hR : tookF l (k : Int) = (x, k', 0) := tookS_ok hk ho rfl
    rw [hR]
    refine TL.imp (Δ := ownU B kk x.2 :: row pf [.int .u32 (x.1 : Int), .slice B x.2.length kk] 26 :: Γ) (fun _ h => h) ?_
    refine m_run ?_
    refine TK.imp (Δ := ownU B kk x.2 :: row pf (Fct.cells ⟨x.1, B, kk, x.2⟩) 26 :: Γ) (fun _ h => h) ?_
    exact TK.retSub (Δ := ownU B kk x.2 :: Γ) (fun R' hR' => TK.rets rfl rfl (.cons (.agg rfl (tb rfl) rfl rfl (has_rows (vs := Fct.cells ⟨x.1, B, kk, x.2⟩) 1 rfl rfl)) (.cons (.tmp rfl) (.cons (.tmp rfl) .nil))) (hR' _ (by (repeat (first | exact List.Sublist.refl _ | apply List.Sublist.cons_cons | apply List.Sublist.cons))))) ⟨_, rfl, B, kk, hkk, rfl, rfl⟩
  · have hR : tookF l (k : Int) = ((0, []), 0, 5) := tookS_bad hk ho
    rw [hR]
    obtain ⟨u0, u1, rfl⟩ : ∃ u0 u1, vs = [u0, u1] := by
      match vs, hv with
      | [u0, u1], _ => exact ⟨u0, u1, rfl⟩
    refine m_run ?_
    (apply TL.build tabs; exact rfl; exact rfl; exact rfl; exact rfl; exact rfl; exact rfl; (exact m_lst))
    refine m_run ?_
    refine TK.imp (Δ := row pf (Fct.cells ⟨0, none, 0, []⟩) 26 :: Γ) (fun _ h => h) ?_
    refine TK.free (H := ownU none 0 []) (fun m h => own_nil _ _ h) ?_
    exact TK.retSub (Δ := ownU none 0 [] :: Γ) (fun R' hR' => TK.rets rfl rfl (.cons (.agg rfl (tb rfl) rfl rfl (has_rows (vs := Fct.cells ⟨0, none, 0, []⟩) 1 rfl rfl)) (.cons (.tmp rfl) (.cons (.tmp rfl) .nil))) (hR' _ (by (repeat (first | exact List.Sublist.refl _ | apply List.Sublist.cons_cons | apply List.Sublist.cons))))) ⟨_, rfl, none, 0, Nat.le_refl _, rfl, rfl⟩
set_option maxRecDepth 100000 in
set_option maxHeartbeats 4000000 in
theorem takeclause_t (A : Option Addr) (m c : Nat) (l : List UInt8) (at_ : Int) (Γ : List HP) (hs : has Γ (srcAt 1 A m (bytesV l))) (hc : m ≤ c) (hl : l.length ≤ 1000000000) :
    FnV Try.prog 27 [.slice A m c, .int .i64 at_] Γ (RC Γ (tookC l at_)) := by
  refine Fn.enter Try.func27 rfl rfl rfl fun E => ?_
  refine TK.mem fun m0 hm0 => ?_
  obtain rfl := src_lenB (hs m0 hm0)
  clear hm0 m0
  refine m_run ?_
  (apply TL.alloc; exact rfl; exact tb rfl; (exact m_lst))
  intro pf
  refine TL.imp (Δ := row pf [.int .u32 0, .slice none 0 0, .slice none 0 0] 45 :: Γ) (fun _ h => h) ?_
  refine m_run ?_
  (apply TL.pv; exact rfl; (apply PV.makeFunc; exact rfl; exact rfl))
  (apply TL.callV; exact rfl; exact callB_of (by kernel_rfl); exact rfl; exact fun _ h => h)
  exact taken_t 75 (callB_of (by kernel_rfl)) pf A l.length c l at_ _ _ (fun k => okS mayCV (clS l k)) (fun x Ps => ∃ C : Cl, clVal C = x ∧ C.good ∧ Ps = [own 86 3 (.slice C.A C.l.length C.c) C.l.length (ltsC C.l), alls litH C.l, row pf C.cells 45, ownT C.h.A C.h.c C.h.l]) (fun P1 => ∃ vs : List Value, vs.length = 3 ∧ P1 = row pf vs 45) hs hc hl fun r k Γ hs hk => Fn.mono (cclause_t r pf A c k l Γ hs hc hl hk) fun e Γ' h => h.mono (fun x k' v Γ' ⟨C, h1, h2, h3⟩ => ⟨_, ⟨C, h1, h2, rfl⟩, h3⟩) (fun Γ' ⟨k', vs, hv, hE⟩ => ⟨k', _, ⟨vs, hv, rfl⟩, hE⟩)
  rintro _ _ (⟨hat, rfl, rfl⟩ | ⟨k, rfl, hk, ⟨x, k', _, ho, ⟨C, rfl, hg, rfl⟩, rfl, rfl⟩ | ⟨ho, _, ⟨vs, hv, rfl⟩, rfl, rfl⟩⟩)
  · have hR : tookC l at_ = (((0, []), []), 0, 1) := tookS_out hat
    rw [hR]
    refine m_run ?_
    (apply TL.build tabs; exact rfl; exact rfl; exact rfl; exact rfl; exact rfl; exact rfl; (exact m_lst))
    refine m_run ?_
    refine TK.imp (Δ := row pf cl0.cells 45 :: Γ) (fun _ h => h) ?_
    refine TK.free (H := ownT none 0 []) (fun m h => own_nil _ _ h) ?_
    refine TK.free (H := alls litH []) (fun m h => alls_nil h) ?_
    refine TK.free (H := own 86 3 (.slice none 0 0) 0 []) (fun m h => own_nil _ _ h) ?_
    exact TK.retSub (Δ := own 86 3 (.slice none 0 0) 0 [] :: alls litH [] :: ownT none 0 [] :: Γ) (fun R' hR' => TK.rets rfl rfl (.cons (.agg rfl (tb rfl) rfl rfl (has_rows (vs := cl0.cells) 3 rfl rfl)) (.cons (.tmp rfl) (.cons (.tmp rfl) .nil))) (hR' _ (by (repeat (first | exact List.Sublist.refl _ | apply List.Sublist.cons_cons | apply List.Sublist.cons))))) ⟨_, rfl, cl0, rfl, cl0_good, rfl, rfl⟩
  · have hR : tookC l (k : Int) = (clVal C, k', 0) := by unfold tookC; rw [tookS_okS]; exact tookS_ok (f := fun k => okS mayCV (clS l k)) hk ho rfl
    rw [hR]
    refine TL.imp (Δ := own 86 3 (.slice C.A C.l.length C.c) C.l.length (ltsC C.l) :: alls litH C.l :: row pf [.int .u32 (C.h.p : Int), .slice C.h.A C.h.l.length C.h.c, .slice C.A C.l.length C.c] 45 :: ownT C.h.A C.h.c C.h.l :: Γ) (fun _ h => h) ?_
    refine m_run ?_
    refine TK.imp (Δ := own 86 3 (.slice C.A C.l.length C.c) C.l.length (ltsC C.l) :: alls litH C.l :: row pf C.cells 45 :: ownT C.h.A C.h.c C.h.l :: Γ) (fun _ h => h) ?_
    exact TK.retSub (Δ := own 86 3 (.slice C.A C.l.length C.c) C.l.length (ltsC C.l) :: alls litH C.l :: ownT C.h.A C.h.c C.h.l :: Γ) (fun R' hR' => TK.rets rfl rfl (.cons (.agg rfl (tb rfl) rfl rfl (has_rows (vs := C.cells) 2 rfl rfl)) (.cons (.tmp rfl) (.cons (.tmp rfl) .nil))) (hR' _ (by (repeat (first | exact List.Sublist.refl _ | apply List.Sublist.cons_cons | apply List.Sublist.cons))))) ⟨_, rfl, C, rfl, hg, rfl, rfl⟩
  · have hR : tookC l (k : Int) = (((0, []), []), 0, 5) := by unfold tookC; rw [tookS_okS]; exact tookS_bad (f := fun k => okS mayCV (clS l k)) hk ho
    rw [hR]
    obtain ⟨u0, u1, u2, rfl⟩ : ∃ u0 u1 u2, vs = [u0, u1, u2] := by
      match vs, hv with
      | [u0, u1, u2], _ => exact ⟨u0, u1, u2, rfl⟩
    refine m_run ?_
    (apply TL.build tabs; exact rfl; exact rfl; exact rfl; exact rfl; exact rfl; exact rfl; (exact m_lst))
    refine m_run ?_
    refine TK.imp (Δ := row pf cl0.cells 45 :: Γ) (fun _ h => h) ?_
    refine TK.free (H := ownT none 0 []) (fun m h => own_nil _ _ h) ?_
    refine TK.free (H := alls litH []) (fun m h => alls_nil h) ?_
    refine TK.free (H := own 86 3 (.slice none 0 0) 0 []) (fun m h => own_nil _ _ h) ?_
    exact TK.retSub (Δ := own 86 3 (.slice none 0 0) 0 [] :: alls litH [] :: ownT none 0 [] :: Γ) (fun R' hR' => TK.rets rfl rfl (.cons (.agg rfl (tb rfl) rfl rfl (has_rows (vs := cl0.cells) 3 rfl rfl)) (.cons (.tmp rfl) (.cons (.tmp rfl) .nil))) (hR' _ (by (repeat (first | exact List.Sublist.refl _ | apply List.Sublist.cons_cons | apply List.Sublist.cons))))) ⟨_, rfl, cl0, rfl, cl0_good, rfl, rfl⟩
set_option maxRecDepth 100000 in
set_option maxHeartbeats 4000000 in
theorem takerule_t (A : Option Addr) (m c : Nat) (l : List UInt8) (at_ : Int) (Γ : List HP) (hs : has Γ (srcAt 1 A m (bytesV l))) (hc : m ≤ c) (hl : l.length ≤ 1000000000) :
    FnV Try.prog 35 [.slice A m c, .int .i64 at_] Γ (RR Γ (tookR l at_)) := by
  refine Fn.enter Try.func35 rfl rfl rfl fun E => ?_
  refine TK.mem fun m0 hm0 => ?_
  obtain rfl := src_lenB (hs m0 hm0)
  clear hm0 m0
  refine m_run ?_
  (apply TL.alloc; exact rfl; exact tb rfl; (exact m_lst))
  intro pf
  refine TL.imp (Δ := row pf [.bool false, .bool false, .int .u32 0, .int .u32 0, .slice none 0 0, .slice none 0 0] 59 :: Γ) (fun _ h => h) ?_
  refine m_run ?_
  (apply TL.pv; exact rfl; (apply PV.makeFunc; exact rfl; exact rfl))
  (apply TL.callV; exact rfl; exact callB_of (by kernel_rfl); exact rfl; exact fun _ h => h)
  exact taken_t 87 (callB_of (by kernel_rfl)) pf A l.length c l at_ _ _ (fun k => okS mayRV (rlS l k)) (fun x Ps => ∃ C : Rl, rlVal C = x ∧ C.good ∧ Ps = [own 111 6 (.slice C.A C.l.length C.c) C.l.length (cdsC C.l), alls cdH C.l, row pf C.cells 59, ownT C.h.a.A C.h.a.c C.h.a.l]) (fun P1 => ∃ vs : List Value, vs.length = 6 ∧ P1 = row pf vs 59) hs hc hl fun r k Γ hs hk => Fn.mono (crule_t r pf A c k l Γ hs hc hl hk) fun e Γ' h => h.mono (fun x k' v Γ' ⟨C, h1, h2, h3⟩ => ⟨_, ⟨C, h1, h2, rfl⟩, h3⟩) (fun Γ' ⟨k', vs, hv, hE⟩ => ⟨k', _, ⟨vs, hv, rfl⟩, hE⟩)
  rintro _ _ (⟨hat, rfl, rfl⟩ | ⟨k, rfl, hk, ⟨x, k', _, ho, ⟨C, rfl, hg, rfl⟩, rfl, rfl⟩ | ⟨ho, _, ⟨vs, hv, rfl⟩, rfl, rfl⟩⟩)
  · have hR : tookR l at_ = (((false, ⟨false, 0⟩, 0, []), []), 0, 1) := tookS_out hat
    rw [hR]
    refine m_run ?_
    (apply TL.build tabs; exact rfl; exact rfl; exact rfl; exact rfl; exact rfl; exact rfl; (exact m_lst))
    refine m_run ?_
    refine TK.imp (Δ := row pf rl0.cells 59 :: Γ) (fun _ h => h) ?_
    refine TK.free (H := ownT none 0 []) (fun m h => own_nil _ _ h) ?_
    refine TK.free (H := alls cdH []) (fun m h => alls_nil h) ?_
    refine TK.free (H := own 111 6 (.slice none 0 0) 0 []) (fun m h => own_nil _ _ h) ?_
    exact TK.retSub (Δ := own 111 6 (.slice none 0 0) 0 [] :: alls cdH [] :: ownT none 0 [] :: Γ) (fun R' hR' => TK.rets rfl rfl (.cons (.agg rfl (tb rfl) rfl rfl (has_rows (vs := rl0.cells) 3 rfl rfl)) (.cons (.tmp rfl) (.cons (.tmp rfl) .nil))) (hR' _ (by (repeat (first | exact List.Sublist.refl _ | apply List.Sublist.cons_cons | apply List.Sublist.cons))))) ⟨_, rfl, rl0, rfl, rl0_good, rfl, rfl⟩
  · have hR : tookR l (k : Int) = (rlVal C, k', 0) := by unfold tookR; rw [tookS_okS]; exact tookS_ok (f := fun k => okS mayRV (rlS l k)) hk ho rfl
    rw [hR]
    refine TL.imp (Δ := own 111 6 (.slice C.A C.l.length C.c) C.l.length (cdsC C.l) :: alls cdH C.l :: row pf [.bool C.h.s, .bool C.h.w.v, .int .u32 (C.h.w.n : Int), .int .u32 (C.h.a.p : Int), .slice C.h.a.A C.h.a.l.length C.h.a.c, .slice C.A C.l.length C.c] 59 :: ownT C.h.a.A C.h.a.c C.h.a.l :: Γ) (fun _ h => h) ?_
    refine m_run ?_
    refine TK.imp (Δ := own 111 6 (.slice C.A C.l.length C.c) C.l.length (cdsC C.l) :: alls cdH C.l :: row pf C.cells 59 :: ownT C.h.a.A C.h.a.c C.h.a.l :: Γ) (fun _ h => h) ?_
    exact TK.retSub (Δ := own 111 6 (.slice C.A C.l.length C.c) C.l.length (cdsC C.l) :: alls cdH C.l :: ownT C.h.a.A C.h.a.c C.h.a.l :: Γ) (fun R' hR' => TK.rets rfl rfl (.cons (.agg rfl (tb rfl) rfl rfl (has_rows (vs := C.cells) 2 rfl rfl)) (.cons (.tmp rfl) (.cons (.tmp rfl) .nil))) (hR' _ (by (repeat (first | exact List.Sublist.refl _ | apply List.Sublist.cons_cons | apply List.Sublist.cons))))) ⟨_, rfl, C, rfl, hg, rfl, rfl⟩
  · have hR : tookR l (k : Int) = (((false, ⟨false, 0⟩, 0, []), []), 0, 5) := by unfold tookR; rw [tookS_okS]; exact tookS_bad (f := fun k => okS mayRV (rlS l k)) hk ho
    rw [hR]
    obtain ⟨u0, u1, u2, u3, u4, u5, rfl⟩ : ∃ u0 u1 u2 u3 u4 u5, vs = [u0, u1, u2, u3, u4, u5] := by
      match vs, hv with
      | [u0, u1, u2, u3, u4, u5], _ => exact ⟨u0, u1, u2, u3, u4, u5, rfl⟩
    refine m_run ?_
    (apply TL.build tabs; exact rfl; exact rfl; exact rfl; exact rfl; exact rfl; exact rfl; (exact m_lst))
    refine m_run ?_
    refine TK.imp (Δ := row pf rl0.cells 59 :: Γ) (fun _ h => h) ?_
    refine TK.free (H := ownT none 0 []) (fun m h => own_nil _ _ h) ?_
    refine TK.free (H := alls cdH []) (fun m h => alls_nil h) ?_
    refine TK.free (H := own 111 6 (.slice none 0 0) 0 []) (fun m h => own_nil _ _ h) ?_
    exact TK.retSub (Δ := own 111 6 (.slice none 0 0) 0 [] :: alls cdH [] :: ownT none 0 [] :: Γ) (fun R' hR' => TK.rets rfl rfl (.cons (.agg rfl (tb rfl) rfl rfl (has_rows (vs := rl0.cells) 3 rfl rfl)) (.cons (.tmp rfl) (.cons (.tmp rfl) .nil))) (hR' _ (by (repeat (first | exact List.Sublist.refl _ | apply List.Sublist.cons_cons | apply List.Sublist.cons))))) ⟨_, rfl, rl0, rfl, rl0_good, rfl, rfl⟩
end
section
/- The anchor of layer 6: walked. -/
attribute [local irreducible] TK TL TQ TA TB Fn PV
theorem putA.got {Γ Γ' : List HP} {may : Bool} {l : List UInt8} {v : Value} (h : putA Γ may l v Γ') (hm : may = true) : ∃ A c, v = .tuple #[.slice A l.length c, .int .i64 0] ∧ l.length ≤ c ∧ Γ' = bsA 5 (.slice A l.length c) l :: Γ := by
  subst hm
  unfold putA at h
  rw [if_pos rfl] at h
  exact h
theorem putA.lost {Γ Γ' : List HP} {may : Bool} {l : List UInt8} {v : Value} (h : putA Γ may l v Γ') (hm : may = false) : v = .tuple #[.slice none 0 0, .int .i64 8] ∧ Γ' = Γ := by
  subst hm
  unfold putA at h
  rw [if_neg (by decide)] at h
  exact h
theorem rl0_may : mayR rl0 = true := by decide +kernel
theorem wk1 : [] ++ fctB ⟨1, none, 0, [2, 300]⟩ = [1, 2, 2, 172, 2] := by
  unfold fctB nmsB
  simp only [List.flatMap_cons, List.flatMap_nil]
  rw [varM_ge (n := 300) (by decide), varM_lt (n := 1) (by decide), varM_lt (n := 2) (by decide)]
  decide
theorem fctB_eq (p : Nat) (A B : Option Addr) (c d : Nat) (l : List Nat) : fctB ⟨p, A, c, l⟩ = fctB ⟨p, B, d, l⟩ := rfl
def wkC (A B C : Option Addr) : Cl := ⟨⟨1, A, 1, [⟨true, 0⟩]⟩, C, 1, [⟨false, ⟨2, B, 2, [⟨true, 0⟩, ⟨false, 5⟩]⟩⟩]⟩
theorem wk2 (A B C : Option Addr) : [] ++ clB (wkC A B C) = [1, 1, 1, 1, 0, 2, 2, 1, 10] := by
  unfold clB litsB litB atmB tmsB termB wkC
  simp only [List.flatMap_cons, List.flatMap_nil, bitN]
  simp only [if_true, Bool.false_eq_true, if_false]
  rw [varM_lt (n := 1) (by decide), varM_lt (n := 2) (by decide), varM_lt (n := 2 * 5 + 0) (by decide)]
  show [b8 1, b8 1, b8 1, b8 1, b8 0, b8 2, b8 2, b8 1, b8 10] = _
  decide
set_option maxRecDepth 100000 in
set_option maxHeartbeats 4000000 in
theorem works6_t (Γ : List HP) : FnV Try.prog 14 [] Γ fun v Γ' => v = .bool true ∧ Γ' = Γ := by
  refine Fn.enter Try.func14 rfl rfl rfl fun E => ?_
  refine m_run ?_
  (apply TL.pv; exact rfl; (apply PV.build tabs; exact rfl; exact rfl; exact rfl; exact rfl; exact rfl; exact (rfl : _ = tmC ⟨true, 0⟩)))
  (apply TL.alloc; exact rfl; exact tb rfl; exact (rfl : _ = [_, _]))
  intro b1
  refine m_run ?_
  refine TL.imp (Δ := row b1 (tmC ⟨true, 0⟩) 54 :: Γ) (fun _ h => h) ?_
  (apply TL.buildSlice (l := u32s [2, 300]); exact rfl; exact tb rfl; exact rfl; exact tb rfl; exact rfl; exact rfl; exact rfl; exact rfl; exact rfl)
  intro b14
  have hf2 : ∀ n ∈ [2, 300], n ≤ 4294967295 := by decide
  (apply TL.pv; exact rfl; (apply PV.build tabs; exact rfl; exact rfl; exact rfl; exact rfl; exact rfl; exact (rfl : _ = Fct.cells ⟨1, some ⟨b14, 0, none⟩, 2, [2, 300]⟩)))
  (apply TL.callV; exact rfl; exact callB_of (by kernel_rfl); exact rfl; exact fun _ h => h)
  exact putfact_t none 0 0 [] ⟨1, some ⟨b14, 0, none⟩, 2, [2, 300]⟩ _ (has_srcnil _ _) ⟨has_src_row 0 rfl rfl, Nat.le_refl _⟩ ⟨(by decide : (1 : Nat) ≤ 4294967295), hf2⟩ (show (2 : Nat) ≤ 1000000 by decide) (by decide)
  intro v Γ' hput
  rw [show [] ++ fctB ⟨1, some ⟨b14, 0, none⟩, 2, [2, 300]⟩ = [1, 2, 2, 172, 2] from wk1] at hput
  obtain ⟨A1, c1, rfl, hc1, rfl⟩ := hput.got rfl
  refine TL.sub (List.Sublist.cons_cons _ (List.Sublist.cons _ (List.Sublist.refl _))) ?_
  refine m_run ?_
  (apply TL.buildSlice (l := tmsC [⟨true, 0⟩]); exact rfl; exact tb rfl; exact rfl; exact tb rfl; exact rfl; exact rfl; exact rfl; exact rfl; exact rfl)
  intro b21
  (apply TL.pv; exact rfl; (apply PV.build tabs; exact rfl; exact rfl; exact rfl; exact rfl; exact rfl; exact (rfl : _ = Atm.cells ⟨1, some ⟨b21, 0, none⟩, 1, [⟨true, 0⟩]⟩)))
  refine m_run ?_
  (apply TL.pv; exact rfl; (apply PV.build tabs; exact rfl; exact rfl; exact rfl; exact rfl; exact rfl; exact (rfl : _ = tmC ⟨false, 5⟩)))
  (apply TL.buildSlice (l := tmsC [⟨true, 0⟩, ⟨false, 5⟩]); exact rfl; exact tb rfl; exact rfl; exact tb rfl; exact rfl; exact rfl; exact rfl; exact rfl; exact rfl)
  intro b25
  (apply TL.pv; exact rfl; (apply PV.build tabs; exact rfl; exact rfl; exact rfl; exact rfl; exact rfl; exact (rfl : _ = Atm.cells ⟨2, some ⟨b25, 0, none⟩, 2, [⟨true, 0⟩, ⟨false, 5⟩]⟩)))
  (apply TL.pv; exact rfl; (apply PV.build tabs; exact rfl; exact rfl; exact rfl; exact rfl; exact rfl; exact (rfl : _ = Lt.cells ⟨false, ⟨2, some ⟨b25, 0, none⟩, 2, [⟨true, 0⟩, ⟨false, 5⟩]⟩⟩)))
  (apply TL.buildSlice (l := ltsC [⟨false, ⟨2, some ⟨b25, 0, none⟩, 2, [⟨true, 0⟩, ⟨false, 5⟩]⟩⟩]); exact rfl; exact tb rfl; exact rfl; exact tb rfl; exact rfl; exact rfl; exact rfl; exact rfl; exact rfl)
  intro b28
  (apply TL.pv; exact rfl; (apply PV.build tabs; exact rfl; exact rfl; exact rfl; exact rfl; exact rfl; exact (rfl : _ = Cl.cells (wkC (some ⟨b21, 0, none⟩) (some ⟨b25, 0, none⟩) (some ⟨b28, 0, none⟩)))))
  have hone : ∀ x ∈ (wkC (some ⟨b21, 0, none⟩) (some ⟨b25, 0, none⟩) (some ⟨b28, 0, none⟩)).l, x = ⟨false, ⟨2, some ⟨b25, 0, none⟩, 2, [⟨true, 0⟩, ⟨false, 5⟩]⟩⟩ := fun x hx => List.mem_singleton.1 hx
  have htm : ∀ t ∈ [(⟨true, 0⟩ : Tm), ⟨false, 5⟩], t.n ≤ 4294967295 := by decide
  have htm1 : ∀ t ∈ [(⟨true, 0⟩ : Tm)], t.n ≤ 4294967295 := by decide
  (apply TL.callV; exact rfl; exact callB_of (by kernel_rfl); exact rfl; exact fun _ h => h)
  exact putclause_t none 0 0 [] (wkC (some ⟨b21, 0, none⟩) (some ⟨b25, 0, none⟩) (some ⟨b28, 0, none⟩)) _ (has_srcnil _ _) ⟨⟨has_src_row 2 rfl rfl, Nat.le_refl _⟩, has_src_row 0 rfl rfl, Nat.le_refl _, fun x hx => by rw [hone x hx]; exact ⟨has_src_row 1 rfl rfl, Nat.le_refl _⟩⟩ ⟨⟨(by decide : (1 : Nat) ≤ 4294967295), htm1⟩, fun x hx => by rw [hone x hx]; exact ⟨(by decide : (2 : Nat) ≤ 4294967295), htm⟩⟩ ⟨(by decide : (1 : Nat) ≤ 1000000), (by decide : (1 : Nat) ≤ 1000000), fun x hx => by rw [hone x hx]; exact (by decide : (2 : Nat) ≤ 1000000)⟩ (by decide)
  intro v Γ' hput
  rw [wk2] at hput
  obtain ⟨A2, c2, rfl, hc2, rfl⟩ := hput.got rfl
  refine TL.sub (List.Sublist.cons_cons _ (List.Sublist.cons _ (List.Sublist.cons _ (List.Sublist.cons _ (List.Sublist.refl _))))) ?_
  clear hone htm htm1
  refine m_run ?_
  (apply TL.buildSlice (l := bytesV [1, 7]); exact rfl; exact tb rfl; exact rfl; exact tb rfl; exact rfl; exact rfl; exact rfl; exact rfl; kernel_rfl)
  intro b34
  refine m_run ?_
  (apply TL.callV; exact rfl; exact callB_of (by kernel_rfl); exact rfl; exact fun _ h => h)
  exact takefact_t (some ⟨b34, 0, none⟩) 2 2 [1, 7] 0 _ (has_src_row 0 rfl rfl) (Nat.le_refl _) (by decide)
  intro v Γ' htk
  rw [show tookF [1, 7] 0 = ((0, []), 0, 5) by decide +kernel] at htk
  obtain ⟨B3, k3, hk3, rfl, rfl⟩ := htk
  refine TL.sub (List.Sublist.cons _ (List.Sublist.cons _ (List.Sublist.refl _))) ?_
  refine m_run ?_
  (apply TL.alloc; exact rfl; exact tb rfl; exact (rfl : _ = [_, _]))
  intro b6
  refine m_run ?_
  (apply TL.buildSlice (l := bytesV [129, 0, 0]); exact rfl; exact tb rfl; exact rfl; exact tb rfl; exact rfl; exact rfl; exact rfl; exact rfl; kernel_rfl)
  intro b40
  refine m_run ?_
  (apply TL.callV; exact rfl; exact callB_of (by kernel_rfl); exact rfl; exact fun _ h => h)
  exact takefact_t (some ⟨b40, 0, none⟩) 3 3 [129, 0, 0] 0 _ (has_src_row 0 rfl rfl) (Nat.le_refl _) (by decide)
  intro v Γ' htk
  rw [show tookF [129, 0, 0] 0 = ((0, []), 0, 5) by decide +kernel] at htk
  obtain ⟨B4, k4, hk4, rfl, rfl⟩ := htk
  refine TL.sub (List.Sublist.cons _ (List.Sublist.cons _ (List.Sublist.refl _))) ?_
  refine m_run ?_
  (apply TL.alloc; exact rfl; exact tb rfl; exact (rfl : _ = [_, _]))
  intro b9
  refine m_run ?_
  (apply TL.pv; exact rfl; (apply PV.build tabs; exact rfl; exact rfl; exact rfl; exact rfl; exact rfl; exact (rfl : _ = rl0.cells)))
  refine m_run ?_
  (apply TL.callV; exact rfl; exact callB_of (by kernel_rfl); exact rfl; exact fun _ h => h)
  exact wmay_t rl0 _ ⟨⟨has_srcnil _ _, Nat.le_refl _⟩, has_srcnil _ _, Nat.le_refl _, fun x hx => by cases hx⟩ rl0_good.small
  rintro _ _ ⟨rfl, rfl⟩
  rw [rl0_may]
  refine m_run ?_
  (apply TK.retS1; exact rfl; exact rfl; (exact m_val))
  · exact ⟨_, rfl, rfl, rfl⟩
  · (repeat (first | exact List.Sublist.refl _ | apply List.Sublist.cons_cons | apply List.Sublist.cons))
end
end Go.Proofs.Ytokggdgagfmacaa.E
