/- MY OWN LAYER: append(s, make(.., k)...) onto a slice of one's own. -/
import Derived.Test.YtdookobgkcnncaaDoorSm
namespace Go.Proofs.YtdookobgkcnncaaDoor.E
open Go Go.RowKit Go.Proofs
theorem zeros_one {z : Value} (hz : z.cells = #[z]) (n : Nat) : (Builtin.zeroCells z.cells n) = (List.replicate n z).toArray := by
  rw [hz]
  apply Array.ext'
  apply List.ext_getElem?
  intro i
  simp [Builtin.zeroCells, List.getElem?_replicate]
  by_cases h : i < n <;> simp [h, Nat.mod_one]
theorem run_appendZ {P : Program} {E : World} {Γ : List HP} {w : World} (hS : Sat E Γ w) {t tn ty e : TypeId} {v : Value} {n k : Nat} {cs : List Value} {r r' rn : TR} {kq kn : IntKind} (i : Nat) (hi : Γ[i]? = some (own e 1 v n cs)) (ht : TabOk P t r) (hq : r.und = .slice e) (ht' : TabOk P e r') (htn : TabOk P tn rn) (hqn : rn.und = .int kn)
    (hsz : r'.size = 1) (hbt : r'.bytes ≤ 16) (hz : r'.zero.cells = #[r'.zero]) (h1 : r'.zero.oneCell' = true) (hlim : n + k ≤ 1099511627776) :
    ∃ A' c' w', n + k ≤ c' ∧ Sat E (Γ.set i (own e 1 (.slice A' (n + k) c') (n + k) (cs ++ List.replicate k r'.zero))) w' ∧ (Builtin.append_ #[t, tn] ty #[v, .int kq (k : Int)]).run P w = .ok (.slice A' (n + k) c') w' := by
  have hu : P.underlying t = some (.slice e) := by rw [← hq]; exact ht.1
  have hun : P.underlying tn = some (.int kn) := by rw [← hqn]; exact htn.1
  obtain ⟨_, inf, hinf, h2, h3, hzi⟩ := id ht'
  have hs1 : inf.size = 1 := by omega
  have hbi : inf.bytes ≤ 16 := by omega
  have hkb : k * inf.bytes ≤ 1099511627776 * 16 := Nat.mul_le_mul (by omega) hbi
  have hnb : (n + k) * inf.bytes ≤ 1099511627776 * 16 := Nat.mul_le_mul hlim hbi
  obtain ⟨m0, hm0, hw0⟩ := hS.mem
  obtain ⟨a0, b0, hd0, rfl, ⟨hcl, hcase⟩, hb0⟩ := all_front hi hm0
  rw [Nat.mul_one] at hcl
  have grow : ∀ (A : Option Addr) (c : Nat), c < n + k → 0 < k → (Builtin.firstCells inf.size n (.slice A n c)).run P w.drew = .ok cs.toArray w.drew →
      ∃ A' c' w', n + k ≤ c' ∧ Sat E (Γ.set i (own e 1 (.slice A' (n + k) c') (n + k) (cs ++ List.replicate k r'.zero))) w' ∧ (Builtin.append_ #[t, tn] ty #[.slice A n c, .int kq (k : Int)]).run P w = .ok (.slice A' (n + k) c') w' := by
    intro A c hc h0 hold
    have hrun := Go.Lib.run_append_grow_zeros (P := P) w t tn ty e inf r'.zero kq kn hu hun hinf hzi A n c cs hold k h0 (by omega) hc (by omega) (by omega) (growslice_fits hc (by omega))
    have hge := grownCap_ge w (n + k) c e
    have h63 := grownCap_le_maxLen w (n + k) c e (by unfold maxLen; omega)
    refine ⟨_, _, _, hge, ?_, hrun⟩
    refine Sat.into hi ?_
    refine (hS.drew.alloc _).imp fun m' hm' => ?_
    refine sep_mono hm' (fun q hq => ?_) (fun _ => id)
    refine ⟨by simp [hcl], .inr ⟨_, grownCap w (n + k) c e, cs ++ List.replicate (grownCap w (n + k) c e - n) r'.zero, rfl, hge, h63, by simp [hcl]; omega, ?_, ?_⟩⟩
    · rw [Nat.mul_one, List.take_append, hcl, List.take_of_length_le (by omega), Nat.add_sub_cancel_left, List.take_replicate, Nat.min_eq_left (by omega)]
    · have e1 : cs.toArray ++ Builtin.zeroCells r'.zero.cells k ++ Builtin.zeroCells r'.zero.cells (grownCap w (n + k) c e - (n + k)) = (cs ++ List.replicate (grownCap w (n + k) c e - n) r'.zero).toArray := by
        rw [zeros_one hz, zeros_one hz]
        simp only [List.append_toArray, List.append_assoc, List.replicate_append_replicate]
        rw [show k + (grownCap w (n + k) c e - (n + k)) = grownCap w (n + k) c e - n by omega]
      rw [e1] at hq
      exact hq
  have hwk : IntKind.i64.wrap (k : Int) = k := by rw [IntKind.wrap_i64]; omega
  have hneg : ¬ ((k : Int) < 0) := by omega
  have h48i : ¬ (281474976710656 < (k : Int) * (inf.bytes : Int)) := by rw [← Int.natCast_mul]; omega
  rcases Nat.eq_zero_or_pos k with rfl | hk
  · obtain ⟨A, c, rfl, hnc⟩ := own_shape (e := e) (sz := 1) (v := v) (n := n) (cs := cs) (m := a0) ⟨by rw [Nat.mul_one]; exact hcl, hcase⟩
    refine ⟨A, c, w, hnc, ?_, ?_⟩
    · obtain ⟨h7, h8⟩ := List.getElem?_eq_some_iff.1 hi
      have h9 : Γ.set i (own e 1 (.slice A (n + 0) c) (n + 0) (cs ++ List.replicate 0 r'.zero)) = Γ := by
        rw [List.replicate_zero, List.append_nil, Nat.add_zero, ← h8]; exact List.set_getElem_self h7
      rw [h9]; exact hS
    · have hw0 : IntKind.i64.wrap 0 = 0 := by decide
      cases A <;> simp [Builtin.append_, run_underlying hu, run_underlying hun, sizeOf, typeInfo, hinf, asInt, asIntOf, hw0, hnc, storeCells]
  have hk0 : k ≠ 0 := by omega
  rcases hcase with ⟨rfl, rfl, hemp⟩ | ⟨g, cap, cur, rfl, hn, hcap, hcl2, htk, hrow⟩
  · have hcs : cs = [] := by simpa using hcl
    subst hcs
    exact grow none 0 (by omega) hk (run_firstCells_none w.drew inf.size 0 0 0)
  · have hblk : w.heap[g]? = some (.cells cur.toArray e (0, 0)) := hw0 g _ (Mem.sub_left a0 b0 g _ (by rw [hrow g]; simp))
    rw [Nat.mul_one] at hcl2 htk
    rcases Nat.lt_or_ge cap (n + k) with hc | hc
    · refine grow _ _ hc hk (run_firstCells_some w.drew inf.size n _ n cap cs (by rw [hs1, Nat.mul_one]; exact hcl) fun j u hj => ?_)
      rw [add_at]
      rw [← htk] at hj
      simp [List.getElem?_take] at hj
      rw [World.cell?_drew]
      simp [World.cell?, hblk, hj.2]
    · have hst := run_storeCells_at P g n e (List.replicate k r'.zero) 0 cur.toArray w hblk (by simp; omega) (by
        intro u hu
        rw [List.eq_of_mem_replicate hu]; exact h1)
      simp only [Nat.add_zero, List.length_replicate] at hst
      have hrun : (Builtin.append_ #[t, tn] ty #[.slice (some ⟨g, 0, none⟩) n cap, .int kq (k : Int)]).run P w = .ok (.slice (some ⟨g, 0, none⟩) (n + k) cap) (w.setRow g (cur.take n ++ List.replicate k r'.zero ++ cur.drop (n + k)).toArray) := by
        simp [Builtin.append_, run_underlying hu, run_underlying hun, sizeOf, typeInfo, zeroValue, hinf, hzi, hs1, asInt, asIntOf, hwk, hneg, h48i, hc, hk0, Addr.add_lit, zeros_one hz] at hst ⊢
        rw [hst]
        rfl
      refine ⟨_, _, _, hc, ?_, hrun⟩
      obtain ⟨cur2, ⟨hcur2, htk2⟩, hS3⟩ := hS.at hi (X := List Value) (φ := fun l => l.length = cap ∧ l.take n = cs) (K := fun l => row g l e) (fun m hm => by
        obtain ⟨_, ⟨hv, _⟩ | ⟨g', cap', cur', hv, _, _, hl', ht', hr'⟩⟩ := hm
        · cases hv
        · injection hv with hv1 _ hv2
          injection hv1 with hv1
          injection hv1 with hv1
          subst hv1; subst hv2
          rw [Nat.mul_one] at hl' ht'
          exact ⟨cur', ⟨hl', ht'⟩, hr'⟩)
      have hrow3 : (Γ.set i (row g cur2 e))[i]? = some (row g cur2 e) := by
        have := (List.getElem?_eq_some_iff.1 hi).1
        simp [this]
      have hblk2 := hS3.block hrow3
      have hcc : cur2 = cur := by
        rw [hblk] at hblk2
        injection hblk2 with hblk2
        injection hblk2 with hblk2 _ _
        simpa using hblk2.symm
      subst hcc
      have hput := hS3.put (w' := w.setRow g (cur2.take n ++ List.replicate k r'.zero ++ cur2.drop (n + k)).toArray) hrow3 rfl rfl rfl (setRow_heap w g _ _ e _ hblk) (fun k hk q hq => (setRow_other w g _ k hk).trans hq)
      simp only [List.set_set] at hput
      have hset : (Γ.set i (pt g (.cells (cur2.take n ++ List.replicate k r'.zero ++ cur2.drop (n + k)).toArray e (0, 0))))[i]? = some (pt g (.cells (cur2.take n ++ List.replicate k r'.zero ++ cur2.drop (n + k)).toArray e (0, 0))) := by
        have := (List.getElem?_eq_some_iff.1 hi).1
        simp [this]
      have := hput.imp fun m' hm' => all_set (K := own e 1 (.slice (some ⟨g, 0, none⟩) (n + k) cap) (n + k) (cs ++ List.replicate k r'.zero)) hset (fun q hq => ⟨by simp [hcl], .inr ⟨g, cap, _, rfl, hc, hcap, ?_, ?_, hq⟩⟩) hm'
      · simpa only [List.set_set] using this
      · simp; omega
      · rw [Nat.mul_one, htk, List.take_append_of_le_length (by simp [hcl]), List.take_of_length_le (by simp [hcl])]
section
variable {cx : Cx} {ops : Array Oper} {K : Act → World → Prop} {rest : List Oper} {ρ : Env} {ds : List Deferred} {Γ : List HP} {d : Nat} {ty : TypeId} {pos : String} {after : Array Edge}
theorem TL.appZo {t tn e : TypeId} {x y : Operand} {v : Value} {n k s : Nat} {cs cs' : List Value} {kq kn : IntKind} {r r' rn : TR} (i : Nat) (hi : Γ[i]? = some (own e 1 v n cs)) (hd : Nat.blt d cx.n = true) (ht : TabOk cx.P t r) (hq : r.und = .slice e) (ht' : TabOk cx.P e r') (htn : TabOk cx.P tn rn) (hqn : rn.und = .int kn) (hsz : r'.size = 1) (hb : r'.bytes ≤ 16) (hz : r'.zero.cells = #[r'.zero]) (h1 : r'.zero.oneCell' = true)
    (ea : ev ρ x = v) (eb : ev ρ y = .int kq (k : Int)) (hlim : n + k ≤ 1099511627776) (hnk : n + k = s) (hcs : cs ++ List.replicate k r'.zero = cs') {Δ : Value → List HP} (hΔ : ∀ v, Γ.set i (own e 1 v s cs') = Δ v)
    (h : ∀ A' c', s ≤ c' → TL cx ops K rest ((d, .slice A' s c') :: ρ) ds (Δ (.slice A' s c'))) : TL cx ops K (⟨some d, .call ⟨.builtin .append, #[x, y], #[t, tn]⟩, ty, pos, after, none⟩ :: rest) ρ ds Γ := by
  subst hnk; subst hcs
  exact .act (X := Option Addr × Nat) (φ := fun p => n + k ≤ p.2) (v := fun p => .slice p.1 (n + k) p.2) (Δ := fun p => Γ.set i (own e 1 (.slice p.1 (n + k) p.2) (n + k) (cs ++ List.replicate k r'.zero))) hd (fun w hS => by
    obtain ⟨A', c', w', h5, h6, h7⟩ := run_appendZ (P := cx.P) (ty := ty) (kq := kq) hS i hi ht hq ht' htn hqn hsz hb hz h1 hlim
    exact ⟨(A', c'), w', h5, h6, by simp [execOp, resolve, invoke, builtin, ea, eb, h7]⟩) (fun p hp => by rw [hΔ]; exact h p.1 p.2 hp)
end
end Go.Proofs.YtdookobgkcnncaaDoor.E
