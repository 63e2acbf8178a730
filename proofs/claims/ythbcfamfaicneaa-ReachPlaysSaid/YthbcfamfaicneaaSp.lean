/- MY OWN LAYER, FOURTH PART: slices of one's own, literals, calls. P is a variable. -/
import Derived.Test.YthbcfamfaicneaaSo
import Derived.Deep.AppendSrc
namespace Go.Proofs.Ythbcfamfaicneaa.E
open Go Go.RowKit

/-- What stands at place i is looked into. -/
theorem Sat.at {E : World} {Γ : List HP} {w : World} (h : Sat E Γ w) {i : Nat} {H : HP} (hi : Γ[i]? = some H) {X : Type} {φ : X → Prop} {K : X → HP} (hk : ∀ m, H m → ∃ x, φ x ∧ K x m) : ∃ x, φ x ∧ Sat E (Γ.set i (K x)) w := by
  obtain ⟨h1, h3, m, hm, hw⟩ := h
  obtain ⟨a, b, hd, rfl, ha, hb⟩ := all_front hi hm
  obtain ⟨x, hx, hK⟩ := hk a ha
  exact ⟨x, hx, h1, h3, _, all_perm (perm_set (K x) hi).symm ⟨a, b, hd, rfl, hK, hb⟩, hw⟩
/-- What stands in front is put in the place of i. -/
theorem Sat.into {E : World} {Γ : List HP} {w : World} {H K : HP} {i : Nat} (hi : Γ[i]? = some H) (h : Sat E (K :: Γ) w) : Sat E (Γ.set i K) w :=
  h.weaken fun m ⟨a, b, hd, e, ha, hb⟩ => by
    subst e
    obtain ⟨x, y, hd2, rfl, _, hy⟩ := all_front hi hb
    have h1 : Mem.disj a y := Mem.disj_comm (Mem.disj_join_left (Mem.disj_comm (by rw [Mem.join_comm hd2] at hd; exact hd))).1
    refine ⟨Mem.join a y, ?_, all_perm (perm_set K hi).symm ⟨a, y, h1, rfl, ha, hy⟩⟩
    intro k o hk
    cases ha' : a k with
    | some q => simp [Mem.join, ha'] at hk ⊢; exact hk
    | none =>
      simp [Mem.join, ha'] at hk ⊢
      have := Mem.sub_right hd2 k o hk
      simpa [Mem.join] using this

/-- A slice of one's own: its cells; spare room behind them belongs to it. -/
def own (e sz : Nat) (v : Value) (n : Nat) (cs : List Value) : HP := fun m =>
  cs.length = n * sz ∧ ((v = .slice none 0 0 ∧ n = 0 ∧ emp m) ∨
    ∃ g cap cur, v = .slice (some ⟨g, 0, none⟩) n cap ∧ n ≤ cap ∧ cap ≤ maxLen ∧ cur.length = cap * sz ∧ cur.take (n * sz) = cs ∧ row g cur e m)
theorem own_nil (e sz : Nat) {m : Mem} (h : emp m) : own e sz (.slice none 0 0) 0 [] m := ⟨by simp, .inl ⟨rfl, rfl, h⟩⟩
theorem own_row {e sz b n : Nat} {l : List Value} (hl : l.length = n * sz) (hn : n ≤ maxLen) {m : Mem} (h : row b l e m) : own e sz (.slice (some ⟨b, 0, none⟩) n n) n l m :=
  ⟨hl, .inr ⟨b, n, l, rfl, Nat.le_refl _, hn, hl, by rw [← hl]; simp, h⟩⟩
/-- Where a slice's cells lie. -/
def srcAt (sz : Nat) (A : Option Addr) (n : Nat) (news : List Value) (m : Mem) : Prop :=
  news.length = n * sz ∧ (news = [] ∨ ∃ b o, A = some ⟨b, o, none⟩ ∧ cellsAt m b o news)
theorem up_src (sz : Nat) (A : Option Addr) (n : Nat) (news : List Value) : Up (srcAt sz A n news) := by
  rintro x y hs ⟨h1, h2⟩
  refine ⟨h1, h2.imp id ?_⟩
  rintro ⟨b, o, e, h⟩
  exact ⟨b, o, e, up_cells _ _ _ x y hs h⟩
theorem own_src {e sz n c : Nat} {A : Option Addr} {cs : List Value} {m : Mem} (h : own e sz (.slice A n c) n cs m) : srcAt sz A n cs m := by
  obtain ⟨h1, h2⟩ := h
  refine ⟨h1, ?_⟩
  rcases h2 with ⟨_, hn, _⟩ | ⟨g, cap, cur, hv, hn, _, hl, ht, hr⟩
  · left; subst hn; simp at h1; exact h1
  · injection hv with ha _ _
    right
    refine ⟨g, 0, ha, fun j v hj => ⟨cur.toArray, e, (0, 0), by rw [hr g]; simp, ?_⟩⟩
    rw [← ht] at hj
    simp [List.getElem?_take] at hj
    simpa using hj.2
theorem own_len {e sz n k c : Nat} {A : Option Addr} {cs : List Value} {m : Mem} (h : own e sz (.slice A k c) n cs m) : k = n ∧ n ≤ c := by
  obtain ⟨_, ⟨hv, hn, _⟩ | ⟨g, cap, cur, hv, hn, _⟩⟩ := h
  · injection hv with _ h1 h2; omega
  · injection hv with _ h1 h2; omega
theorem own_shape {e sz n : Nat} {v : Value} {cs : List Value} {m : Mem} (h : own e sz v n cs m) : ∃ A c, v = .slice A n c ∧ n ≤ c := by
  obtain ⟨_, ⟨hv, hn, _⟩ | ⟨g, cap, cur, hv, hn, _⟩⟩ := h
  · exact ⟨none, 0, by rw [hv, hn], by omega⟩
  · exact ⟨_, cap, hv, hn⟩
theorem src_row {b l e sz n} {A : Option Addr} {m : Mem} (h : row b l e m) (hA : A = some ⟨b, 0, none⟩) (hl : l.length = n * sz) : srcAt sz A n l m :=
  ⟨hl, .inr ⟨b, 0, hA, fun j v hj => ⟨l.toArray, e, (0, 0), by rw [h b]; simp, by simpa using hj⟩⟩⟩
theorem has_src_row {Γ : List HP} {b e sz n : Nat} {l : List Value} (i : Nat) (hi : Γ[i]? = some (row b l e)) (hl : l.length = n * sz) : has Γ (srcAt sz (some ⟨b, 0, none⟩) n l) :=
  has_at (up_src _ _ _ _) i hi fun _ hm => src_row hm rfl hl

theorem has_tls {Γ : List HP} {K : HP} {sz n : Nat} {A : Option Addr} {news : List Value} (h : has Γ (srcAt sz A n news)) : has (K :: Γ) (srcAt sz A n news) := has_tail (up_src _ _ _ _) h
theorem src_of {P : Program} {E : World} {Γ : List HP} {w : World} (hs : Sat E Γ w) {tx e' sz m c : Nat} {A : Option Addr} {news : List Value} (hk : P.underlying tx = some (.slice e')) (hz : 0 < sz) (h : has Γ (srcAt sz A m news)) (h1 : ∀ u ∈ news, u.oneCell' = true) :
    Src P sz tx (.slice A m c) m news w := by
  obtain ⟨_, _, x, hx, hw⟩ := id hs
  obtain ⟨hl, hn⟩ := h x hx
  cases A with
  | none =>
    rcases hn with rfl | ⟨b, o, hA, _⟩
    · have : m = 0 := by
        rcases Nat.eq_zero_or_pos m with h | h
        · exact h
        · have := Nat.mul_pos h hz; simp at hl; omega
      subst this
      exact Src.ofNil w hk c
    · cases hA
  | some a =>
    refine Src.ofSlice w hk a m c news hl (fun j u hj => ?_) h1
    rcases hn with rfl | ⟨b, o, hA, hc⟩
    · simp at hj
    · injection hA with hA
      subst hA
      rw [add_at]
      obtain ⟨cs, e, fr, hb, hv⟩ := hc j u hj
      simp [World.cell?, hw _ _ hb, hv]

theorem run_append_room_row {P : Program} (w : World) (t tx ty e : TypeId) (i : TypeInfo) (ht : P.underlying t = some (.slice e)) (hi : P.info? e = some i) (g n cap : Nat) (cur : List Value) (x : Value) (m : Nat) (news : List Value) (hs : Src P i.size tx x m news w)
    (hg : w.heap[g]? = some (.cells cur.toArray e (0, 0))) (hroom : n + m ≤ cap) (hl : cur.length = cap * i.size) :
    (Builtin.append_ #[t, tx] ty #[.slice (some ⟨g, 0, none⟩) n cap, x]).run P w = .ok (.slice (some ⟨g, 0, none⟩) (n + m) cap) (w.setRow g (cur.take (n * i.size) ++ news ++ cur.drop (n * i.size + news.length)).toArray) := by
  have hfit : n * i.size + news.length ≤ cur.length := by
    rw [hl, hs.newsLen, ← Nat.add_mul]
    exact Nat.mul_le_mul_right _ hroom
  have hst := run_storeCells_at P g (n * i.size) e news 0 cur.toArray w hg (by simpa using hfit) hs.one
  simp only [Nat.add_zero] at hst
  rcases hs.kind with ⟨e', hk⟩ | hk <;> simp [Builtin.append_, run_underlying ht, run_underlying hk, sizeOf, typeInfo, hi, hs.len, hroom, hs.cells, Addr.add_lit, hst]
theorem size_zeroCells' (z : Array Value) (n : Nat) : (Builtin.zeroCells z n).toList.length = n * z.size := by simp [Builtin.zeroCells]

/-- append onto a slice of one's own: it is one's own again. -/
theorem run_append {P : Program} {E : World} {Γ : List HP} {w : World} (hS : Sat E Γ w) {t tx ty e : TypeId} {v x : Value} {n m : Nat} {cs news : List Value} {r r' : TR} {H : HP} (i : Nat) (hi : Γ[i]? = some H) (ht : TabOk P t r) (hq : r.und = .slice e) (ht' : TabOk P e r')
    (_ : 0 < r'.size) (hzs : r'.zero.cells.size = r'.size) (hH : ∀ m, H m → own e r'.size v n cs m) (hs : Src P r'.size tx x m news w) (hb : (n + m) * r'.bytes ≤ 140737488355328) (h63 : n + m ≤ maxLen) :
    ∃ A' c' w', n + m ≤ c' ∧ Sat E (Γ.set i (own e r'.size (.slice A' (n + m) c') (n + m) (cs ++ news))) w' ∧ (Builtin.append_ #[t, tx] ty #[v, x]).run P w = .ok (.slice A' (n + m) c') w' := by
  have hu : P.underlying t = some (.slice e) := by rw [← hq]; exact ht.1
  obtain ⟨_, inf, hinf, h2, h3, hz⟩ := id ht'
  have hnl := hs.newsLen
  have h63' : ((n + m : Nat) : Int) ≤ 9223372036854775807 := by unfold maxLen at h63; omega
  have grow : ∀ (A : Option Addr) (c : Nat), c < n + m → cs.length = n * r'.size → (Builtin.firstCells inf.size n (.slice A n c)).run P w.drew = .ok cs.toArray w.drew →
      ∃ A' c' w', n + m ≤ c' ∧ Sat E (Γ.set i (own e r'.size (.slice A' (n + m) c') (n + m) (cs ++ news))) w' ∧ (Builtin.append_ #[t, tx] ty #[.slice A n c, x]).run P w = .ok (.slice A' (n + m) c') w' := by
    intro A c hc hcl hold
    have hrun := run_append_grow_src (P := P) w t tx ty e inf r'.zero hu hinf hz A n c cs hold x m news (by rw [h2]; exact hs) hc h63' (growslice_fits hc (by rw [h3]; exact hb))
    refine ⟨_, _, _, grownCap_ge w (n + m) c e, ?_, hrun⟩
    refine Sat.into hi ?_
    refine (hS.drew.alloc _).imp fun m' hm' => ?_
    refine sep_mono hm' (fun q hq => ?_) (fun _ => id)
    refine ⟨by simp [hcl, hnl, Nat.add_mul], .inr ⟨_, _, (cs ++ news) ++ (Builtin.zeroCells r'.zero.cells (grownCap w (n + m) c e - (n + m))).toList, rfl, grownCap_ge w (n + m) c e, grownCap_le_maxLen w _ _ e h63, ?_, ?_, ?_⟩⟩
    · rw [List.length_append, List.length_append, size_zeroCells', hcl, hnl, hzs, ← Nat.add_mul, ← Nat.add_mul]
      congr 1
      have := grownCap_ge w (n + m) c e
      omega
    · have : (n + m) * r'.size = (cs ++ news).length := by simp [hcl, hnl, Nat.add_mul]
      rw [this, List.take_left']
      rfl
    · have e1 : ((cs ++ news) ++ (Builtin.zeroCells r'.zero.cells (grownCap w (n + m) c e - (n + m))).toList).toArray = (cs ++ news).toArray ++ Builtin.zeroCells r'.zero.cells (grownCap w (n + m) c e - (n + m)) := by simp
      show pt _ _ q
      rw [e1]
      exact hq
  obtain ⟨x1, hx1, hS1⟩ := hS.at hi (X := Unit) (φ := fun _ => True) (K := fun _ => own e r'.size v n cs) (fun m hm => ⟨(), trivial, hH m hm⟩)
  have hown : (Γ.set i (own e r'.size v n cs))[i]? = some (own e r'.size v n cs) := by
    have := (List.getElem?_eq_some_iff.1 hi).1
    simp [this]
  obtain ⟨m0, hm0, hw0⟩ := hS1.mem
  obtain ⟨a0, b0, hd0, rfl, ⟨hcl, hcase⟩, hb0⟩ := all_front hown hm0
  rcases hcase with ⟨rfl, rfl, hemp⟩ | ⟨g, cap, cur, rfl, hn, hcap, hcl2, htk, hrow⟩
  · -- the slice is nil
    have hcs : cs = [] := by simpa using hcl
    subst hcs
    rcases Nat.eq_zero_or_pos m with rfl | hm
    · have hnn : news = [] := by simpa using hnl
      subst hnn
      refine ⟨none, 0, w, by omega, ?_, ?_⟩
      · exact hS1.imp fun _ => by simp
      · have hsc := hs.cells
        rcases hs.kind with ⟨e', hk⟩ | hk <;> simp [Builtin.append_, run_underlying hu, run_underlying hk, sizeOf, typeInfo, hinf, hs.len, h2, hsc]
    · exact grow none 0 (by omega) (by simp) (run_firstCells_none w.drew inf.size 0 0 0)
  · -- it has memory
    have hblk : w.heap[g]? = some (.cells cur.toArray e (0, 0)) := hw0 g _ (Mem.sub_left a0 b0 g _ (by rw [hrow g]; simp))
    rcases Nat.lt_or_ge cap (n + m) with hc | hc
    · refine grow _ _ hc hcl (run_firstCells_some w.drew inf.size n _ n cap cs (by rw [h2]; exact hcl) fun j u hj => ?_)
      rw [add_at]
      rw [← htk] at hj
      simp [List.getElem?_take] at hj
      rw [World.cell?_drew]
      simp [World.cell?, hblk, hj.2]
    · have hrun := run_append_room_row (P := P) w t tx ty e inf hu hinf g n cap cur x m news (by rw [h2]; exact hs) hblk hc (by rw [h2]; exact hcl2)
      refine ⟨_, _, _, hc, ?_, hrun⟩
      obtain ⟨x2, hx2, hS2⟩ := hS1.at hown (X := Unit) (φ := fun _ => True) (K := fun _ => own e r'.size (.slice (some ⟨g, 0, none⟩) n cap) n cs) (fun m hm => ⟨(), trivial, hm⟩)
      obtain ⟨cur2, hcur2, hS3⟩ := hS1.at hown (X := List Value) (φ := fun l => l.length = cap * r'.size ∧ l.take (n * r'.size) = cs) (K := fun l => row g l e) (fun m hm => by
        obtain ⟨_, ⟨hv, _⟩ | ⟨g', cap', cur', hv, _, _, hl', ht', hr'⟩⟩ := hm
        · cases hv
        · injection hv with hv1 _ hv2
          injection hv1 with hv1
          injection hv1 with hv1
          subst hv1; subst hv2
          exact ⟨cur', ⟨hl', ht'⟩, hr'⟩)
      simp only [List.set_set] at hS3
      have hrow3 : (Γ.set i (row g cur2 e))[i]? = some (row g cur2 e) := by
        have := (List.getElem?_eq_some_iff.1 hi).1
        simp [this]
      have hblk2 := hS3.block hrow3
      have hcc : cur2 = cur := by
        rw [hblk] at hblk2
        injection hblk2 with hblk2
        injection hblk2 with hblk2 _ _
        simpa using hblk2.symm
      subst hcc
      have hput := hS3.put (w' := w.setRow g (cur2.take (n * inf.size) ++ news ++ cur2.drop (n * inf.size + news.length)).toArray) hrow3 rfl rfl rfl (setRow_heap w g _ _ e _ hblk) (fun k hk q hq => (setRow_other w g _ k hk).trans hq)
      simp only [List.set_set] at hput
      have hset : (Γ.set i (pt g (.cells (cur2.take (n * inf.size) ++ news ++ cur2.drop (n * inf.size + news.length)).toArray e (0, 0))))[i]? = some (pt g (.cells (cur2.take (n * inf.size) ++ news ++ cur2.drop (n * inf.size + news.length)).toArray e (0, 0))) := by
        have := (List.getElem?_eq_some_iff.1 hi).1
        simp [this]
      have := hput.imp fun m' hm' => all_set (K := own e r'.size (.slice (some ⟨g, 0, none⟩) (n + m) cap) (n + m) (cs ++ news)) hset (fun q hq => ⟨by simp [hcl, hnl, Nat.add_mul], .inr ⟨g, cap, _, rfl, hc, hcap, ?_, ?_, hq⟩⟩) hm'
      · simpa only [List.set_set] using this
      · rw [h2]
        have h5 : n * r'.size + news.length ≤ cur2.length := by
          rw [hcl2, hnl, ← Nat.add_mul]
          exact Nat.mul_le_mul_right _ hc
        simp only [List.length_append, List.length_take, List.length_drop]
        omega
      · rw [h2, htk, List.append_assoc, Nat.add_mul, ← hnl, ← hcl, ← List.length_append, ← List.append_assoc]
        exact List.take_left' rfl

section
variable {cx : Cx} {ops : Array Oper} {k : Act → World → Prop} {rest : List Oper} {ρ : Env} {ds : List Deferred} {Γ : List HP} {d : Nat} {ty : TypeId} {pos : String} {after : Array Edge}
theorem TL.append {t e : TypeId} {x y : Operand} {v : Value} {A : Option Addr} {n m c : Nat} {cs news : List Value} {r r' : TR} {H : HP} (i : Nat) (hi : Γ[i]? = some H) (hd : Nat.blt d cx.n = true) (ht : TabOk cx.P t r) (hq : r.und = .slice e) (ht' : TabOk cx.P e r') (hsz : Nat.blt 0 r'.size = true)
    (hzs : (r'.zero.cells.size == r'.size) = true) (ea : ev ρ x = v) (hH : ∀ m, H m → own e r'.size v n cs m) (eb : ev ρ y = .slice A m c) (hs : has Γ (srcAt r'.size A m news)) (h1 : ∀ u ∈ news, u.oneCell' = true) (hb : (n + m) * r'.bytes ≤ 140737488355328) (h63 : n + m ≤ maxLen) {Δ : Value → List HP} (hΔ : ∀ v, Γ.set i (own e r'.size v (n + m) (cs ++ news)) = Δ v)
    (h : ∀ A' c', n + m ≤ c' → TL cx ops k rest ((d, .slice A' (n + m) c') :: ρ) ds (Δ (.slice A' (n + m) c'))) : TL cx ops k (⟨some d, .call ⟨.builtin .append, #[x, y], #[t, t]⟩, ty, pos, after, none⟩ :: rest) ρ ds Γ :=
  .act (X := Option Addr × Nat) (φ := fun p => n + m ≤ p.2) (v := fun p => .slice p.1 (n + m) p.2) (Δ := fun p => Γ.set i (own e r'.size (.slice p.1 (n + m) p.2) (n + m) (cs ++ news))) hd (fun w hS => by
    obtain ⟨A', c', w', h5, h6, h7⟩ := run_append (P := cx.P) (ty := ty) hS i hi ht hq ht' (by simpa using hsz) (by simpa using hzs) hH (src_of hS (tx := t) (e' := e) (c := c) (by rw [← hq]; exact ht.1) (by simpa using hsz) hs h1) hb h63
    exact ⟨(A', c'), w', h5, h6, by simp [execOp, resolve, invoke, builtin, ea, eb, h7]⟩) (fun p hp => by rw [hΔ]; exact h p.1 p.2 hp)
/-! ### literals -/
/-- Parts laid at their places. -/
def fillL (cells : List Value) : List (Nat × List Value) → List Value
  | [] => cells
  | (o, vs) :: r => fillL (cells.take o ++ vs ++ cells.drop (o + vs.length)) r
def fitL (n : Nat) : List (Nat × Nat × List Value) → Bool
  | [] => true
  | (o, s, vs) :: r => Nat.beq vs.length s && Nat.ble (o + vs.length) n && fitL n r
theorem foldl_set (vs : List Value) : ∀ (o : Nat) (i : Nat) (cells : Array Value), o + i + vs.length ≤ cells.size →
    ((vs.zipIdx i).foldl (fun cs (x : Value × Nat) => cs.setIfInBounds (o + x.2) x.1) cells).toList = cells.toList.take (o + i) ++ vs ++ cells.toList.drop (o + i + vs.length) := by
  induction vs with
  | nil => intro o i cells h; simp
  | cons v vs ih =>
    intro o i cells h
    simp only [List.zipIdx_cons, List.foldl_cons]
    simp only [List.length_cons] at h
    rw [ih o (i + 1) _ (by simp; omega)]
    have := list_seg_step cells.toList (o + i) v vs (by simp; omega)
    simpa [Array.toList_setIfInBounds, Nat.add_assoc] using this
/-- How 'fill' reads parts: as lists. -/
theorem fill_eq (place : Nat → Option (Nat × Nat)) (n : Nat) : ∀ (ps : List (Nat × Value)) (qs : List (Nat × Nat × List Value)) (cells : Array Value), cells.size = n →
    ps.map (fun p => (place p.1).map fun q => (q.1, q.2, p.2.cells.toList)) = qs.map some → fitL n qs = true →
    Instr.fill place cells ps = some (fillL cells.toList (qs.map fun q => (q.1, q.2.2))).toArray := by
  intro ps
  induction ps with
  | nil =>
    intro qs cells _ h _
    cases qs with
    | nil => simp [Instr.fill, fillL]
    | cons q qs => simp at h
  | cons p ps ih =>
    intro qs cells hn h hf
    cases qs with
    | nil => simp at h
    | cons q qs =>
      obtain ⟨o, s, vs⟩ := q
      obtain ⟨i, v⟩ := p
      simp only [List.map_cons, List.cons.injEq] at h
      obtain ⟨h1, h2⟩ := h
      obtain ⟨⟨o', s'⟩, hp, h3⟩ := Option.map_eq_some_iff.1 h1
      simp only [Prod.mk.injEq] at h3
      obtain ⟨rfl, rfl, hv⟩ := h3
      simp only [fitL, Bool.and_eq_true, Nat.beq_eq, Nat.ble_eq] at hf
      obtain ⟨⟨hf1, hf2⟩, hf3⟩ := hf
      have hvs : v.cells.size = vs.length := by rw [← hv]; simp
      have hc : ¬ ((v.cells.size ≠ s') || decide (o' + v.cells.size > cells.size)) = true := by
        rw [hvs, hn, hf1]; simp; omega
      have hfold : (v.cells.zipIdx.foldl (fun cs (x : Value × Nat) => cs.setIfInBounds (o' + x.2) x.1) cells).toList = cells.toList.take o' ++ vs ++ cells.toList.drop (o' + vs.length) := by
        have := foldl_set vs o' 0 cells (by omega)
        simp only [Nat.add_zero] at this
        rw [← this, ← hv]
        congr 1
        rw [← Array.foldl_toList]
        simp
      simp only [Instr.fill, hp]
      rw [if_neg (by simpa using hc)]
      have hsz : (v.cells.zipIdx.foldl (fun cs (x : Value × Nat) => cs.setIfInBounds (o' + x.2) x.1) cells).size = n := by
        rw [← Array.length_toList, hfold]
        simp; omega
      rw [ih qs _ hsz h2 hf3, hfold]
      rfl
end
end Go.Proofs.Ythbcfamfaicneaa.E
