/- The document's words of a block, walked (under way: not built). -/
import Derived.Test.YtdookobgkcnncaaDoorJ1
import Derived.Test.YtdookobgkcnncaaDoorH2
namespace Go.Proofs.YtdookobgkcnncaaDoor.E
open Go Go.RowKit Go.Proofs
attribute [local irreducible] TK TL TQ TA Fn PV
/-! ### an append that leaves the old row's cells to be seen -/
/-- A slice of one's own; the row g, where it lay before, is still borne. -/
def ownK (g : Nat) (cs : List Value) (H : HP) : HP := fun m => cellsAt m g 0 cs ∧ ∃ m', Mem.sub m' m ∧ H m'
theorem run_appendK {P : Program} {E : World} {Γ : List HP} {w : World} {t tx ty e : TypeId} {x : Value} {g n cap m : Nat} {cs news : List Value} {r r' : TR} (hS : Sat E (own e r'.size (.slice (some ⟨g, 0, none⟩) n cap) n cs :: Γ) w) (ht : TabOk P t r) (hq : r.und = .slice e) (ht' : TabOk P e r')
    (hzs : r'.zero.cells.size = r'.size) (hs : Src P r'.size tx x m news w) (hb : (n + m) * r'.bytes ≤ 140737488355328) (h63 : n + m ≤ maxLen) :
    ∃ A' c' w', n + m ≤ c' ∧ Sat E (ownK g cs (own e r'.size (.slice A' (n + m) c') (n + m) (cs ++ news)) :: Γ) w' ∧ (Builtin.append_ #[t, tx] ty #[.slice (some ⟨g, 0, none⟩) n cap, x]).run P w = .ok (.slice A' (n + m) c') w' := by
  have hu : P.underlying t = some (.slice e) := by rw [← hq]; exact ht.1
  obtain ⟨_, inf, hinf, h2, h3, hz⟩ := id ht'
  have hnl := hs.newsLen
  have h63' : ((n + m : Nat) : Int) ≤ 9223372036854775807 := by unfold maxLen at h63; omega
  obtain ⟨cur, ⟨hcl, hn, hcap, hcl2, htk⟩, hS1⟩ := hS.at (i := 0) rfl (X := List Value) (φ := fun l => cs.length = n * r'.size ∧ n ≤ cap ∧ cap ≤ maxLen ∧ l.length = cap * r'.size ∧ l.take (n * r'.size) = cs) (K := fun l => row g l e) (fun m hm => by
    obtain ⟨h0, ⟨hv, _⟩ | ⟨g', cap', cur', hv, h1, h2, hl', ht', hr'⟩⟩ := hm
    · cases hv
    · injection hv with hv1 _ hv2
      injection hv1 with hv1
      injection hv1 with hv1
      subst hv1; subst hv2
      exact ⟨cur', ⟨h0, h1, h2, hl', ht'⟩, hr'⟩)
  have hS2 : Sat E (row g cur e :: Γ) w := hS1
  have hblk := hS2.block (i := 0) rfl
  have look : ∀ (l : List Value), (∀ j v, cs[j]? = some v → l[j]? = some v) → ∀ m', row g l e m' → cellsAt m' g 0 cs := fun l hl m' hm' j v hj => ⟨l.toArray, e, (0, 0), by rw [hm' g]; simp, by simpa using hl j v hj⟩
  rcases Nat.lt_or_ge cap (n + m) with hc | hc
  · have hold := run_firstCells_some (P := P) w.drew inf.size n ⟨g, 0, none⟩ n cap cs (by rw [h2]; exact hcl) fun j u hj => by
      rw [add_at]
      rw [← htk] at hj
      simp [List.getElem?_take] at hj
      rw [World.cell?_drew]
      simp [World.cell?, hblk, hj.2]
    have hrun := run_append_grow_src (P := P) w t tx ty e inf r'.zero hu hinf hz _ n cap cs hold x m news (by rw [h2]; exact hs) hc h63' (growslice_fits hc (by rw [h3]; exact hb))
    refine ⟨_, _, _, grownCap_ge w (n + m) cap e, ?_, hrun⟩
    refine (hS2.drew.alloc _).imp fun m' hm' => ?_
    refine sep_mono (sep_assoc' hm') (fun q hq => ?_) (fun _ => id)
    obtain ⟨a, b, hd, rfl, ha, hb⟩ := hq
    refine ⟨up_cells _ _ _ b _ (Mem.sub_right hd) (look cur (fun j v hj => ?_) b hb), a, Mem.sub_left a b, ?_⟩
    · rw [← htk] at hj
      simp [List.getElem?_take] at hj
      exact hj.2
    refine ⟨by simp [hcl, hnl, Nat.add_mul], .inr ⟨_, _, (cs ++ news) ++ (Builtin.zeroCells r'.zero.cells (grownCap w (n + m) cap e - (n + m))).toList, rfl, grownCap_ge w (n + m) cap e, grownCap_le_maxLen w _ _ e h63, ?_, ?_, ?_⟩⟩
    · rw [List.length_append, List.length_append, size_zeroCells', hcl, hnl, hzs, ← Nat.add_mul, ← Nat.add_mul]
      congr 1
      have := grownCap_ge w (n + m) cap e
      omega
    · have : (n + m) * r'.size = (cs ++ news).length := by simp [hcl, hnl, Nat.add_mul]
      rw [this, List.take_left']
      rfl
    · have e1 : ((cs ++ news) ++ (Builtin.zeroCells r'.zero.cells (grownCap w (n + m) cap e - (n + m))).toList).toArray = (cs ++ news).toArray ++ Builtin.zeroCells r'.zero.cells (grownCap w (n + m) cap e - (n + m)) := by simp
      show pt _ _ a
      rw [e1]
      exact ha
  · have hrun := run_append_room_row (P := P) w t tx ty e inf hu hinf g n cap cur x m news (by rw [h2]; exact hs) hblk hc (by rw [h2]; exact hcl2)
    have h5 : n * r'.size + news.length ≤ cur.length := by
      rw [hcl2, hnl, ← Nat.add_mul]
      exact Nat.mul_le_mul_right _ hc
    have hput := hS2.put (w' := w.setRow g (cur.take (n * inf.size) ++ news ++ cur.drop (n * inf.size + news.length)).toArray) (i := 0) rfl rfl rfl rfl (setRow_heap w g _ _ e _ hblk) (fun k hk q hq => (setRow_other w g _ k hk).trans hq)
    refine ⟨_, _, _, hc, ?_, hrun⟩
    refine hput.imp fun m' hm' => ?_
    refine sep_mono hm' (fun q hq => ⟨?_, q, Mem.sub_refl _, by simp [hcl, hnl, Nat.add_mul], .inr ⟨g, cap, _, rfl, hc, hcap, ?_, ?_, hq⟩⟩) (fun _ => id)
    · refine look _ (fun j v hj => ?_) q hq
      rw [h2, htk, List.append_assoc]
      have : j < cs.length := (List.getElem?_eq_some_iff.1 hj).1
      rw [List.getElem?_append_left this, hj]
    · rw [h2]
      simp only [List.length_append, List.length_take, List.length_drop]
      omega
    · rw [h2, htk, List.append_assoc, Nat.add_mul, ← hnl, ← hcl, ← List.length_append, ← List.append_assoc]
      exact List.take_left' rfl
section
variable {cx : Cx} {ops : Array Oper} {k : Act → World → Prop} {rest : List Oper} {ρ : Env} {ds : List Deferred} {Γ : List HP} {d : Nat} {ty : TypeId} {pos : String} {after : Array Edge}
theorem TL.appendK {t e : TypeId} {x y : Operand} {A : Option Addr} {g n cap m c s z : Nat} {cs news cs' : List Value} {r r' : TR} (hd : Nat.blt d cx.n = true) (ht : TabOk cx.P t r) (hq : r.und = .slice e) (ht' : TabOk cx.P e r') (hz0 : r'.size = z) (hsz : Nat.blt 0 r'.size = true)
    (hzs : (r'.zero.cells.size == r'.size) = true) (ea : ev ρ x = .slice (some ⟨g, 0, none⟩) n cap) (eb : ev ρ y = .slice A m c) (hs : has (own e z (.slice (some ⟨g, 0, none⟩) n cap) n cs :: Γ) (srcAt z A m news)) (h1 : ∀ u ∈ news, u.oneCell' = true) (hb : (n + m) * r'.bytes ≤ 140737488355328) (h63 : n + m ≤ maxLen) (hnm : n + m = s) (hcs : cs ++ news = cs')
    (h : ∀ A' c', s ≤ c' → TL cx ops k rest ((d, .slice A' s c') :: ρ) ds (ownK g cs (own e z (.slice A' s c') s cs') :: Γ)) : TL cx ops k (⟨some d, .call ⟨.builtin .append, #[x, y], #[t, t]⟩, ty, pos, after, none⟩ :: rest) ρ ds (own e z (.slice (some ⟨g, 0, none⟩) n cap) n cs :: Γ) := by
  subst hnm; subst hcs; subst hz0
  exact .act (X := Option Addr × Nat) (φ := fun p => n + m ≤ p.2) (v := fun p => .slice p.1 (n + m) p.2) (Δ := fun p => ownK g cs (own e r'.size (.slice p.1 (n + m) p.2) (n + m) (cs ++ news)) :: Γ) hd (fun w hS => by
    obtain ⟨A', c', w', h5, h6, h7⟩ := run_appendK (P := cx.P) (ty := ty) hS ht hq ht' (by simpa using hzs) (src_of hS (tx := t) (e' := e) (c := c) (by rw [← hq]; exact ht.1) (by simpa using hsz) hs h1) hb h63
    exact ⟨(A', c'), w', h5, h6, by simp [execOp, resolve, invoke, builtin, ea, eb, h7]⟩) (fun p hp => h p.1 p.2 hp)
end
theorem own_some2 {e sz n c : Nat} {A : Option Addr} {cs : List Value} {m : Mem} (h : own e sz (.slice A n c) n cs m) (hn : 0 < n) : ∃ g, A = some ⟨g, 0, none⟩ := by
  obtain ⟨_, ⟨hv, h0, _⟩ | ⟨g, cap, cur, hv, _⟩⟩ := h
  · omega
  · injection hv with h1 _ _
    exact ⟨g, h1⟩
theorem own_cells {e sz n c g : Nat} {cs : List Value} {m : Mem} (h : own e sz (.slice (some ⟨g, 0, none⟩) n c) n cs m) : cellsAt m g 0 cs := by
  obtain ⟨_, h | ⟨b, o, hA, hc⟩⟩ := own_src h
  · subst h; intro j v hj; simp at hj
  · injection hA with hA
    injection hA with h1 h2
    subst h1; subst h2
    exact hc
theorem Ent.consE {H K : HP} {Γ Δ : List HP} (hH : ∀ m, H m → ∃ m', Mem.sub m' m ∧ K m') (h : Ent Γ Δ) : Ent (H :: Γ) (K :: Δ) := by
  rintro m ⟨a, b, hd, rfl, ha, hb⟩
  obtain ⟨a', h1, h2⟩ := hH a ha
  have hd' : Mem.disj a' b := fun k => by
    rcases hd k with h | h
    · left
      cases hk : a' k with
      | none => rfl
      | some o => rw [h1 k o hk] at h; cases h
    · exact .inr h
  obtain ⟨m', h3, h4⟩ := Ent.cons (H := K) (K := K) (fun _ h => h) h _ ⟨a', b, hd', rfl, h2, hb⟩
  refine ⟨m', Mem.sub_trans h3 (fun k o hk => ?_), h4⟩
  cases hak : a' k with
  | some q =>
    simp [Mem.join, hak] at hk
    subst hk
    exact Mem.sub_left a b k _ (h1 k _ hak)
  | none =>
    simp [Mem.join, hak] at hk
    exact Mem.sub_right hd k o hk
theorem ext_get0 {w : List Wd} {n o d : Nat} (hw : (extN n w).length = o) (hd : 0 < d ∧ d ≤ o) : ((extN n w).map w32)[o - d]? = some (w32 ((extN n w).getD (o - d) 0)) := by
  have := ext_get (r := 0) hw hd
  simpa using this
/-- A word of four bytes, as the document puts it together. -/
theorem pw_four {b : List UInt8} {k : Nat} {c0 c1 c2 c3 : UInt8} (h0 : b[4 * k]? = some c0) (h1 : b[4 * k + 1]? = some c1) (h2 : b[4 * k + 2]? = some c2) (h3 : b[4 * k + 3]? = some c3) :
    pw b k 4 = ((((BitVec.ofNat 32 c0.toNat <<< 24) ||| (BitVec.ofNat 32 c1.toNat <<< 16)) ||| (BitVec.ofNat 32 c2.toNat <<< 8)) ||| BitVec.ofNat 32 c3.toNat) := by
  rw [pw_succ (r := 3) h3, pw_succ (r := 2) h2, pw_succ (r := 1) h1, pw_succ (r := 0) h0, pw_zero]
  simp only [BitVec.shiftLeft_or_distrib, ← BitVec.shiftLeft_add]
  have z : (0 : Wd) <<< (8 + 8 + 8 + 8) = 0 := by decide
  have z0 : ∀ x : Wd, (0 : Wd) ||| x = x := fun x => by simp
  rw [z, z0]
theorem w16_succ (b : List UInt8) (n : Nat) : w16 b (n + 1) = w16 b n ++ [pw b n 4] := by simp [w16, List.range_succ]
attribute [local irreducible] rotr
set_option maxRecDepth 100000 in
set_option maxHeartbeats 1000000 in
theorem refwords_t (A : Option Addr) (c : Nat) (l : List UInt8) (Γ : List HP) (hs : has Γ (srcAt 1 A l.length (bytesV l))) (hl : l.length = 64) :
    FnV Tryd.prog 38 [.slice A l.length c] Γ fun v Γ' => ∃ A' c', v = .slice A' 64 c' ∧ 64 ≤ c' ∧ Γ' = own 51 1 (.slice A' 64 c') 64 ((sched l).map w32) :: Γ := by
  refine Fn.enter Tryd.func38 rfl rfl rfl fun E => ?_
  refine TK.mem fun m0 hm0 => ?_
  obtain ⟨b0, o0, rfl⟩ := src_some (hs m0 hm0) (by rw [bytesV_length]; omega)
  clear hm0 m0
  refine m_run ?_
  refine TK.free (H := own 51 1 (.slice none 0 0) 0 []) (fun m hm => own_nil _ _ hm) ?_
  apply TK.iter (fun j ρ' Γ' => ∃ (i : Nat) (A' : Option Addr) (c' : Nat), i + j = 16 ∧ lk ρ' 0 = .slice (some ⟨b0, o0, none⟩) l.length c ∧ lk ρ' 3 = .slice A' i c' ∧ i ≤ c' ∧ lk ρ' 4 = .int .i64 (i : Int) ∧ Γ' = own 51 1 (.slice A' i c') i ((w16 l i).map w32) :: Γ) 16
  · exact ⟨0, none, 0, Nat.zero_add _, rfl, rfl, Nat.le_refl _, rfl, rfl⟩
  rintro j IH ρ' _ ⟨i, A1, c1, hij, e0, e3, hc1, e4, rfl⟩
  refine TK.know3 e0 e3 e4 ?_
  by_cases hi : i < 16
  · obtain ⟨x0, h0⟩ : ∃ x, l[4 * i]? = some x := ⟨l[4 * i]'(by omega), by simp [show 4 * i < l.length by omega]⟩
    obtain ⟨x1, h1⟩ : ∃ x, l[4 * i + 1]? = some x := ⟨l[4 * i + 1]'(by omega), by simp [show 4 * i + 1 < l.length by omega]⟩
    obtain ⟨x2, h2⟩ : ∃ x, l[4 * i + 2]? = some x := ⟨l[4 * i + 2]'(by omega), by simp [show 4 * i + 2 < l.length by omega]⟩
    obtain ⟨x3, h3⟩ : ∃ x, l[4 * i + 3]? = some x := ⟨l[4 * i + 3]'(by omega), by simp [show 4 * i + 3 < l.length by omega]⟩
    have c0 := has_byte hs h0
    have c1' := has_byte hs h1
    have c2 := has_byte hs h2
    have c3 := has_byte hs h3
    have hpw := pw_four h0 h1 h2 h3
    refine m_run ?_
    refine TK.drawE mixed rfl Γ ?_
    refine m_take (At.mk : At 0) ?_; refine m_take (At.mk : At 1) ?_; refine m_take (At.mk : At 2) ?_; refine m_take (At.mk : At 3) ?_
    refine TA.know (t := 15) (v := .int .i64 ((4 * i : Nat) : Int)) (congrArg (Value.int .i64) (by rw [i64_in (by omega) (by omega)]; omega)) ?_
    refine m_take (At.mk : At 4) ?_; refine m_take (At.mk : At 5) ?_; refine m_take (At.mk : At 6) ?_; refine m_take (At.mk : At 7) ?_; refine m_take (At.mk : At 8) ?_; refine m_take (At.mk : At 9) ?_; refine m_take (At.mk : At 10) ?_
    refine TA.know (t := 22) (v := .int .i64 ((4 * i : Nat) : Int)) (congrArg (Value.int .i64) (by rw [i64_in (by omega) (by omega)]; omega)) ?_
    refine m_take (At.mk : At 11) ?_
    refine TA.know (t := 23) (v := .int .i64 ((4 * i + 1 : Nat) : Int)) (congrArg (Value.int .i64) (by rw [i64_in (by omega) (by omega)]; omega)) ?_
    refine m_take (At.mk : At 12) ?_; refine m_take (At.mk : At 13) ?_; refine m_take (At.mk : At 14) ?_; refine m_take (At.mk : At 15) ?_; refine m_take (At.mk : At 16) ?_; refine m_take (At.mk : At 17) ?_; refine m_take (At.mk : At 18) ?_; refine m_take (At.mk : At 19) ?_
    refine TA.know (t := 31) (v := .int .i64 ((4 * i : Nat) : Int)) (congrArg (Value.int .i64) (by rw [i64_in (by omega) (by omega)]; omega)) ?_
    refine m_take (At.mk : At 20) ?_
    refine TA.know (t := 32) (v := .int .i64 ((4 * i + 2 : Nat) : Int)) (congrArg (Value.int .i64) (by rw [i64_in (by omega) (by omega)]; omega)) ?_
    refine m_take (At.mk : At 21) ?_; refine m_take (At.mk : At 22) ?_; refine m_take (At.mk : At 23) ?_; refine m_take (At.mk : At 24) ?_; refine m_take (At.mk : At 25) ?_; refine m_take (At.mk : At 26) ?_; refine m_take (At.mk : At 27) ?_; refine m_take (At.mk : At 28) ?_
    refine TA.know (t := 40) (v := .int .i64 ((4 * i : Nat) : Int)) (congrArg (Value.int .i64) (by rw [i64_in (by omega) (by omega)]; omega)) ?_
    refine m_take (At.mk : At 29) ?_
    refine TA.know (t := 41) (v := .int .i64 ((4 * i + 3 : Nat) : Int)) (congrArg (Value.int .i64) (by rw [i64_in (by omega) (by omega)]; omega)) ?_
    refine m_take (At.mk : At 30) ?_; refine m_take (At.mk : At 31) ?_; refine m_take (At.mk : At 32) ?_; refine m_take (At.mk : At 33) ?_
    refine TA.know (t := 45) (v := w32 (pw l i 4)) (congrArg w32 hpw.symm) ?_
    (apply TA.one 34; kernel_rfl; exact rfl)
    (apply TL.buildSlice; exact rfl; exact tb rfl; exact rfl; exact tb rfl; exact rfl; exact rfl; exact rfl; exact rfl; (exact m_lst))
    intro b1
    refine TL.back (by (focus ((repeat (first | assumption | exact Ent.refl _ | apply Ent.tail)); done))) ?_
    (apply TA.one 35; kernel_rfl; exact rfl)
    (apply TL.append 1; exact rfl; exact rfl; exact tb rfl; exact rfl; exact tb rfl; exact rfl; exact rfl; exact rfl)
    · exact fun _ h => h
    · exact rfl
    · exact has_src_row 0 rfl rfl
    · exact one_of rfl
    · show (i + 1) * 4 ≤ _; omega
    · show i + 1 ≤ maxLen; unfold maxLen; omega
    · exact fun _ => (rfl : _ = _ :: _ :: _)
    intro A2 c2' hc2
    refine TL.back (by (focus ((repeat (first | assumption | exact Ent.refl _ | apply Ent.tail)); done))) ?_
    refine m_take (At.mk : At 36) ?_
    refine TA.done (by kernel_rfl) ?_
    refine m_run ?_
    refine TK.sub (Δ := own 51 1 (.slice A2 (i + 1) c2') (i + 1) ((w16 l i).map w32 ++ [w32 (pw l i 4)]) :: Γ) (by (repeat (first | exact List.Sublist.refl _ | apply List.Sublist.cons_cons | apply List.Sublist.cons))) ?_
    exact IH (j - 1) _ _ (by omega) ⟨i + 1, A2, c2', by omega, rfl, rfl, hc2, congrArg (Value.int .i64) (i64_succ i (by omega)), by rw [w16_succ, List.map_append]; rfl⟩
  obtain rfl : i = 16 := by omega
  clear IH e0 e3 e4
  refine m_run ?_
  refine TK.mem fun m0 hm0 => ?_
  obtain ⟨g1, rfl⟩ : ∃ g, A1 = some ⟨g, 0, none⟩ := by
    obtain ⟨a, b, _, _, ha, _⟩ := hm0
    exact own_some2 ha (by omega)
  clear hm0 m0 hij
  apply TK.iter (fun j ρ' Γ' => ∃ (n g c' : Nat), n + j = 48 ∧ lk ρ' 3 = .slice (some ⟨g, 0, none⟩) (16 + n) c' ∧ 16 + n ≤ c' ∧ lk ρ' 5 = .int .i64 ((16 + n : Nat) : Int) ∧ Γ' = own 51 1 (.slice (some ⟨g, 0, none⟩) (16 + n) c') (16 + n) ((extN n (w16 l 16)).map w32) :: Γ) 48
  · exact ⟨0, g1, c1, Nat.zero_add _, rfl, hc1, rfl, rfl⟩
  clear hc1 g1 c1
  rintro j IH ρ' _ ⟨n, g, c1, hij, e3, hc1, e5, rfl⟩
  refine TK.know2 e3 e5 ?_
  by_cases hi : n < 48
  · have hlen : (extN n (w16 l 16)).length = 16 + n := by rw [extN_len, w16_len]
    have g15 := ext_get0 (d := 15) hlen (by omega)
    have g2 := ext_get0 (d := 2) hlen (by omega)
    have g16 := ext_get0 (d := 16) hlen (by omega)
    have g7 := ext_get0 (d := 7) hlen (by omega)
    obtain ⟨x, hx⟩ : ∃ x, (extN n (w16 l 16)).getD (16 + n - 15) 0 = x := ⟨_, rfl⟩
    obtain ⟨y, hy⟩ : ∃ y, (extN n (w16 l 16)).getD (16 + n - 2) 0 = y := ⟨_, rfl⟩
    obtain ⟨u, hu⟩ : ∃ u, (extN n (w16 l 16)).getD (16 + n - 16) 0 = u := ⟨_, rfl⟩
    obtain ⟨v, hv⟩ : ∃ v, (extN n (w16 l 16)).getD (16 + n - 7) 0 = v := ⟨_, rfl⟩
    have hext : (extN n (w16 l 16)).map w32 ++ [w32 (u + (rotr x 7 ^^^ rotr x 18 ^^^ (x >>> 3)) + v + (rotr y 17 ^^^ rotr y 19 ^^^ (y >>> 10)))] = (extN (n + 1) (w16 l 16)).map w32 := by
      rw [extN, wsnoc, List.map_append]
      unfold wnx
      rw [hlen, hu, hx, hv, hy]
      rfl
    rw [hx] at g15
    rw [hy] at g2
    rw [hu] at g16
    rw [hv] at g7
    generalize (extN n (w16 l 16)).map w32 = cs at g15 g2 g16 g7 hext
    have look : ∀ {o : Nat} {z : Value}, cs[o]? = some z → has (own 51 1 (.slice (some ⟨g, 0, none⟩) (16 + n) c1) (16 + n) cs :: Γ) (fun m => cellAt m g o z) := fun {o z} h => has_at (up_cell _ _ _) 0 rfl fun m hm => by simpa using own_cells hm _ _ h
    have k15 := look g15
    have k2 := look g2
    refine m_run ?_
    refine TL.know (t := 54) (v := .int .i64 ((16 + n - 15 : Nat) : Int)) (congrArg (Value.int .i64) (by rw [i64_in (by omega) (by omega)]; omega)) ?_
    refine m_run ?_
    refine TL.know (t := 59) (v := .int .i64 ((16 + n - 2 : Nat) : Int)) (congrArg (Value.int .i64) (by rw [i64_in (by omega) (by omega)]; omega)) ?_
    refine m_run ?_
    refine TK.drawE mixed rfl ((fun m => cellsAt m g 0 cs) :: Γ) ?_
    have hent : Ent (own 51 1 (.slice (some ⟨g, 0, none⟩) (16 + n) c1) (16 + n) cs :: Γ) ((fun m => cellsAt m g 0 cs) :: Γ) := .cons (fun m h => own_cells h) (.refl _)
    have d16 : has ((fun m => cellsAt m g 0 cs) :: Γ) (fun m => cellAt m g (16 + n - 16) (w32 u)) := has_at (up_cell _ _ _) 0 rfl fun m hm => by simpa using hm _ _ g16
    have d7 : has ((fun m => cellsAt m g 0 cs) :: Γ) (fun m => cellAt m g (16 + n - 7) (w32 v)) := has_at (up_cell _ _ _) 0 rfl fun m hm => by simpa using hm _ _ g7
    refine m_take (At.mk : At 0) ?_; refine m_take (At.mk : At 1) ?_; refine m_take (At.mk : At 2) ?_; refine m_take (At.mk : At 3) ?_
    refine TA.know (t := 65) (v := .int .i64 ((16 + n - 16 : Nat) : Int)) (congrArg (Value.int .i64) (by rw [i64_in (by omega) (by omega)]; omega)) ?_
    refine m_take (At.mk : At 4) ?_; refine m_take (At.mk : At 5) ?_; refine m_take (At.mk : At 6) ?_; refine m_take (At.mk : At 8) ?_; refine m_take (At.mk : At 11) ?_; refine m_take (At.mk : At 12) ?_; refine m_take (At.mk : At 15) ?_; refine m_take (At.mk : At 16) ?_; refine m_take (At.mk : At 17) ?_
    refine TA.know (t := 79) (v := .int .i64 ((16 + n - 7 : Nat) : Int)) (congrArg (Value.int .i64) (by rw [i64_in (by omega) (by omega)]; omega)) ?_
    refine m_take (At.mk : At 18) ?_; refine m_take (At.mk : At 19) ?_; refine m_take (At.mk : At 21) ?_; refine m_take (At.mk : At 23) ?_; refine m_take (At.mk : At 26) ?_; refine m_take (At.mk : At 27) ?_
    (apply TA.one 7; kernel_rfl; exact rfl)
    (apply TL.callV; exact rfl; exact callB_of (by kernel_rfl); exact rfl; exact fun _ h => h)
    exact rot_t x 7 (by decide) _
    rintro _ _ ⟨rfl, rfl⟩
    refine TL.back (by (focus ((repeat (first | assumption | exact Ent.refl _ | apply Ent.tail)); done))) ?_
    (apply TA.one 9; kernel_rfl; exact rfl)
    (apply TL.callV; exact rfl; exact callB_of (by kernel_rfl); exact rfl; exact fun _ h => h)
    exact rot_t x 18 (by decide) _
    rintro _ _ ⟨rfl, rfl⟩
    refine TL.back (by (focus ((repeat (first | assumption | exact Ent.refl _ | apply Ent.tail)); done))) ?_
    refine m_take (At.mk : At 10) ?_; refine m_take (At.mk : At 13) ?_; refine m_take (At.mk : At 14) ?_; refine m_take (At.mk : At 20) ?_
    (apply TA.one 22; kernel_rfl; exact rfl)
    (apply TL.callV; exact rfl; exact callB_of (by kernel_rfl); exact rfl; exact fun _ h => h)
    exact rot_t y 17 (by decide) _
    rintro _ _ ⟨rfl, rfl⟩
    refine TL.back (by (focus ((repeat (first | assumption | exact Ent.refl _ | apply Ent.tail)); done))) ?_
    (apply TA.one 24; kernel_rfl; exact rfl)
    (apply TL.callV; exact rfl; exact callB_of (by kernel_rfl); exact rfl; exact fun _ h => h)
    exact rot_t y 19 (by decide) _
    rintro _ _ ⟨rfl, rfl⟩
    refine TL.back (by (focus ((repeat (first | assumption | exact Ent.refl _ | apply Ent.tail)); done))) ?_
    refine m_take (At.mk : At 25) ?_; refine m_take (At.mk : At 28) ?_; refine m_take (At.mk : At 29) ?_
    (apply TA.one 30; kernel_rfl; exact rfl)
    (apply TL.buildSlice; exact rfl; exact tb rfl; exact rfl; exact tb rfl; exact rfl; exact rfl; exact rfl; exact rfl; (exact m_lst))
    intro b1
    refine TL.back (by (focus ((repeat (first | assumption | exact Ent.refl _ | apply Ent.tail)); done))) ?_
    (apply TA.one 31; kernel_rfl; exact rfl)
    refine TL.perm (List.Perm.swap _ _ _) ?_
    (apply TL.appendK (cs' := (extN (n + 1) (w16 l 16)).map w32) (s := 16 + (n + 1)); exact rfl; exact tb rfl; exact rfl; exact tb rfl; exact rfl; exact rfl; exact rfl; exact rfl; exact rfl; exact has_src_row 1 rfl rfl; exact one_of rfl; exact (by show (16 + n + 1) * 4 ≤ _; omega); exact (by show 16 + n + 1 ≤ maxLen; unfold maxLen; omega); exact rfl; exact hext)
    intro A2 c2 hc2
    have hent2 : Ent (ownK g cs (own 51 1 (.slice A2 (16 + (n + 1)) c2) (16 + (n + 1)) ((extN (n + 1) (w16 l 16)).map w32)) :: row b1 [w32 (u + (rotr x 7 ^^^ rotr x 18 ^^^ (x >>> 3)) + v + (rotr y 17 ^^^ rotr y 19 ^^^ (y >>> 10)))] 51 :: Γ) ((fun m => cellsAt m g 0 cs) :: Γ) := .cons (fun m h => h.1) (by (focus ((repeat (first | assumption | exact Ent.refl _ | apply Ent.tail)); done)))
    refine TL.back hent2 ?_
    refine m_take (At.mk : At 32) ?_
    refine TA.done (by kernel_rfl) ?_
    refine TK.weak (Δ := own 51 1 (.slice A2 (16 + (n + 1)) c2) (16 + (n + 1)) ((extN (n + 1) (w16 l 16)).map w32) :: Γ) (Ent.consE (fun m h => h.2) (by (focus ((repeat (first | assumption | exact Ent.refl _ | apply Ent.tail)); done)))) ?_
    refine TK.mem fun m0 hm0 => ?_
    obtain ⟨g2, rfl⟩ : ∃ g, A2 = some ⟨g, 0, none⟩ := by
      obtain ⟨a, b, _, _, ha, _⟩ := hm0
      exact own_some2 ha (by omega)
    clear hm0 m0
    refine m_run ?_
    exact IH (j - 1) _ _ (by omega) ⟨n + 1, g2, c2, by omega, rfl, hc2, congrArg (Value.int .i64) (i64_succ (16 + n) (by omega)), rfl⟩
  · obtain rfl : n = 48 := by omega
    have hW : sched l = extN 48 (w16 l 16) := rfl
    rw [hW]
    generalize extN 48 (w16 l 16) = W
    refine m_run ?_
    (apply TK.ret1; exact rfl; exact rfl; (exact m_val))
    exact ⟨_, rfl, _, _, rfl, hc1, rfl⟩
end Go.Proofs.YtdookobgkcnncaaDoor.E
