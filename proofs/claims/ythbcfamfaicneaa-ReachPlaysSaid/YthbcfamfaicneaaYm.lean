/- Rounds, as the program tells them, walked. Printed by gen_ym.py. -/
import Derived.Test.YthbcfamfaicneaaYl
namespace Go.Proofs.Ythbcfamfaicneaa.E
open Go Go.RowKit Go.Proofs
attribute [local irreducible] TK TL TQ TA TB Fn PV
/-- A spot and its way, in memory. -/
structure Wy where
  pos : Nat
  left : Nat
  A : Option Addr
  c : Nat
  w : List Nat
def Wy.cells (s : Wy) : List Value := [.int .u32 (s.pos : Int), .int .i64 (s.left : Int), .slice s.A s.w.length s.c]
abbrev wysC (l : List Wy) : List Value := l.flatMap Wy.cells
def Wy.ok (s : Wy) (Γ : List HP) : Prop := has Γ (srcAt 1 s.A s.w.length (ints s.w)) ∧ s.w.length ≤ s.c
theorem Wy.ok_tl {s : Wy} {Γ : List HP} {H : HP} (h : s.ok Γ) : s.ok (H :: Γ) := ⟨has_tls h.1, h.2⟩
theorem wysC_len (l : List Wy) : (wysC l).length = l.length * 3 := by
  induction l with
  | nil => rfl
  | cons x l ih => rw [show wysC (x :: l) = x.cells ++ wysC l from rfl, List.length_append, ih, List.length_cons, show x.cells.length = 3 from rfl]; omega
def pureY (s : Wy) : Rch.Stp := ((s.pos, s.left), s.w)
def oneV (n : Nat) : Value := .int .i64 (n : Int)
def seenE (S : List Rch.Sp) : List (Rch.Sp × Nat) := S.map fun p => (p, 1)
theorem lookE_seen (S : List Rch.Sp) (q : Rch.Sp) : lookE (seenE S) q = if q ∈ S then some 1 else none := by
  induction S with
  | nil => rfl
  | cons x S ih =>
    show lookE ((x, 1) :: seenE S) q = _
    rw [lookE]
    by_cases hq : q = x
    · simp [hq]
    · simp [hq, ih]
theorem setE_seen {S : List Rch.Sp} {q : Rch.Sp} (h : q ∉ S) : setE (seenE S) q 1 = seenE (S ++ [q]) := by
  rw [setE_none (by rw [lookE_seen, if_neg h])]
  simp [seenE]
theorem keySp : KeyOk Try.prog 91 spotV := keySpot tabs rfl rfl (by kernel_rfl) rfl rfl rfl rfl rfl rfl rfl rfl
theorem fresh_snoc (S : List Rch.Sp) (P : List Rch.Stp) (x : Rch.Stp) : Rch.fresh S (P ++ [x]) = Rch.fresh S P ++ (if x.1 ∈ S ++ (Rch.fresh S P).map (·.1) then [] else [x]) := by
  rw [Rch.fresh_append]
  rfl
theorem clip_t (A : Option Addr) (n c : Nat) (Γ : List HP) (hc : n ≤ c) : FnV Try.prog 55 [.slice A n c] Γ fun v Γ' => v = .slice A n n ∧ Γ' = Γ := by
  refine Fn.enter Try.func55 rfl rfl rfl fun E => ?_
  refine m_run ?_
  (apply TL.pv; exact rfl; (apply PV.sliceC; exact rfl; exact tb rfl; exact rfl; exact tb rfl; exact rfl; exact rfl; exact hc))
  refine m_run ?_
  (apply TK.ret1; exact rfl; exact rfl; (exact m_val))
  exact ⟨_, rfl, rfl, rfl⟩
def unskip (K : List Nat) (skip : Int) : List Nat := K.filter fun i => decide ((i : Int) ≠ skip)
theorem unskip_take {K : List Nat} {skip : Int} {b i : Nat} (h : K[b]? = some i) : unskip (K.take (b + 1)) skip = unskip (K.take b) skip ++ (if (i : Int) = skip then [] else [i]) := by
  unfold unskip
  rw [List.take_add_one, h, List.filter_append]
  by_cases hi : (i : Int) = skip <;> simp [hi]
theorem one_wys (y : Wy) : ∀ u ∈ wysC [y], u.oneCell' = true := by
  intro u hu
  simp only [wysC, List.flatMap_cons, List.flatMap_nil, List.append_nil, Wy.cells, List.mem_cons, List.not_mem_nil, or_false] at hu
  rcases hu with rfl | rfl | rfl <;> rfl
theorem nxL_some {l : List Cr} {s : Rch.Sp} {i : Nat} {x : Cr} (h : l[i]? = some x) (h1 : x.iss = s.1) (h2 : 0 < s.2) : nxL l s i = some (x.to, min (s.2 - 1) x.dep.toNat) := by
  unfold nxL
  rw [h]
  exact if_pos ⟨h1, h2⟩
theorem nxL_none {l : List Cr} {s : Rch.Sp} {i : Nat} {x : Cr} (h : l[i]? = some x) (h1 : x.iss ≠ s.1 ∨ s.2 = 0) : nxL l s i = none := by
  unfold nxL
  rw [h]
  exact if_neg (by rintro ⟨h2, h3⟩; rcases h1 with h1 | h1; exact h1 h2; omega)
theorem pow_n {n : Nat} (h : n ≤ 3) : 1000 ^ n ≤ 1000000000 := Nat.le_trans (Nat.pow_le_pow_right (by decide) h) (by decide)
set_option maxRecDepth 100000 in
set_option maxHeartbeats 16000000 in
theorem rounds_t (A B : Option Addr) (c k : Nat) (l : List Cr) (K : List Nat) (yes : Bool) (who : Nat) (skip : Int) (F : FuncId) (cs : List Value) (T : List Wy → HP) (Γ : List HP) (h : Crs A l Γ) (hK : has Γ (srcAt 1 B K.length (ints K))) (hKl : K.length ≤ 1000)
    (hKd : ∀ i ∈ K, ∃ x, l[i]? = some x ∧ 0 ≤ x.dep ∧ x.dep ≤ 3) (hc : Callable Try.prog F)
    (hF : ∀ (L : List Wy) (s : Wy) (Γ' : List HP), L.length ≤ 10000000000 → Γ.Sublist Γ' → s.ok Γ' → FnV Try.prog F (.agg (spotL (s.pos, s.left)).toArray :: .slice s.A s.w.length s.c :: cs) (T L :: Γ') fun v Γ'' => v = .tuple #[] ∧ Γ'' = T (L ++ [s]) :: Γ') :
    FnV Try.prog 37 [.agg #[.slice A l.length c, .slice B K.length k, .bool yes], .int .u32 (who : Int), .int .i64 skip, .func (.func F) #[] cs.toArray] (T [] :: Γ) fun v Γ' => v = .tuple #[] ∧ ∃ (L : List Wy) (Γ2 : List HP), Γ' = T L :: Γ2 ∧ Γ.Sublist Γ2 ∧ (∀ s ∈ L, s.ok Γ2) ∧ L.map pureY = if yes then Rch.fresh [] (Rch.allC (unskip K skip) (nxL l) (who, 3) 4) else [] := by
  refine Fn.enter Try.func37 rfl rfl rfl fun E => ?_
  have hlen := h.len
  refine m_run ?_
  (apply TL.box; exact rfl; exact rfl; (exact m_lst))
  intro b4
  cases yes with
  | false =>
    refine TL.imp (Δ := row b4 [.slice A l.length c, .slice B K.length k, .bool false] 82 :: T [] :: Γ) (fun _ h => h) ?_
    refine m_run ?_
    refine TK.drop ?_
    exact TK.ret0 rfl rfl ⟨_, rfl, rfl, [], Γ, rfl, .refl _, by simp, rfl⟩
  | true =>
  refine TL.imp (Δ := row b4 [.slice A l.length c, .slice B K.length k, .bool true] 82 :: T [] :: Γ) (fun _ h => h) ?_
  refine m_run ?_
  (apply TL.makeMap spotV oneV; exact rfl)
  intro bm
  refine m_run ?_
  (apply TL.pv; exact rfl; (apply PV.build tabs; exact rfl; exact rfl; exact rfl; exact rfl; exact rfl; exact (rfl : _ = spotL (who, 3))))
  (apply TL.mapIns (kv := spotV) (vv := oneV) (k := (who, 3)) (nv := 1) 0; exact rfl; exact keySp; exact tb rfl; exact rfl; exact ⟨_, (tb rfl : TabOk Try.prog 91 _).1⟩; exact rfl; exact rfl; exact rfl; exact rfl)
  refine TL.imp (Δ := mapA spotV oneV bm (seenE [(who, 3)]) :: row b4 [.slice A l.length c, .slice B K.length k, .bool true] 82 :: T [] :: Γ) (fun _ h => h) ?_
  refine m_run ?_
  (apply TL.pv; exact rfl; (apply PV.build tabs; exact rfl; exact rfl; exact rfl; exact rfl; exact rfl; exact (rfl : _ = spotL (who, 3))))
  (apply TL.pv; exact rfl; (apply PV.build tabs; exact rfl; exact rfl; exact rfl; exact rfl; exact rfl; exact (rfl : _ = Wy.cells ⟨who, 3, none, 0, []⟩)))
  (apply TL.buildSlice (l := wysC [⟨who, 3, none, 0, []⟩]); exact rfl; exact tb rfl; exact rfl; exact tb rfl; exact rfl; exact rfl; exact rfl; exact rfl; exact rfl)
  intro b27
  refine m_run ?_
  refine TK.imp (Δ := own 115 3 (.slice (some ⟨b27, 0, none⟩) 1 1) 1 (wysC [⟨who, 3, none, 0, []⟩]) :: mapA spotV oneV bm (seenE [(who, 3)]) :: row b4 [.slice A l.length c, .slice B K.length k, .bool true] 82 :: T [] :: Γ) (fun _ h => sep_mono h (fun _ h => own_row rfl (by unfold maxLen; omega) h) (fun _ => id)) ?_
  refine TK.perm (List.perm_middle (a := T []) (l₁ := [own 115 3 (.slice (some ⟨b27, 0, none⟩) 1 1) 1 (wysC [⟨who, 3, none, 0, []⟩]), mapA spotV oneV bm (seenE [(who, 3)]), row b4 [.slice A l.length c, .slice B K.length k, .bool true] 82]) (l₂ := Γ)) ?_
  apply TK.iter (fun j ρ' Γ' => ∃ (n : Nat) (now : List Wy) (N : Option Addr) (kn : Nat) (seen : List Rch.Sp) (L : List Wy) (Γ2 : List HP), n + j = 5 ∧ now.map pureY = (Rch.lvl (unskip K skip) (nxL l) (who, 3) n).1 ∧ seen = (Rch.lvl (unskip K skip) (nxL l) (who, 3) n).2 ∧ L.map pureY = Rch.told (unskip K skip) (nxL l) (who, 3) n ∧ now.length ≤ 1000 ^ n ∧ L.length ≤ n * 1000000000 ∧ (∀ s ∈ L, s.ok Γ2) ∧ (∀ s ∈ now, s.ok Γ2 ∧ s.w.length ≤ n ∧ s.left + n ≤ 3) ∧ Γ.Sublist Γ2 ∧ lk ρ' 2 = .int .i64 skip ∧ lk ρ' 3 = .func (.func F) #[] cs.toArray ∧ lk ρ' 4 = .pointer (some ⟨b4, 0, none⟩) ∧ lk ρ' 8 = .map (some bm) ∧ lk ρ' 9 = .slice N now.length kn ∧ Γ' = T L :: own 115 3 (.slice N now.length kn) now.length (wysC now) :: mapA spotV oneV bm (seenE (seen)) :: row b4 [.slice A l.length c, .slice B K.length k, .bool true] 82 :: Γ2) 5
  · exact ⟨0, [⟨who, 3, none, 0, []⟩], some ⟨b27, 0, none⟩, 1, [(who, 3)], [], Γ, by omega, rfl, rfl, rfl, Nat.le_refl _, Nat.le_refl _, by simp, by intro s hs; rw [List.mem_singleton.1 hs]; exact ⟨⟨has_srcnil _ _, Nat.le_refl _⟩, Nat.le_refl _, Nat.le_refl _⟩, .refl _, rfl, rfl, rfl, rfl, rfl, rfl⟩
  rintro j IH ρ' _ ⟨n, now, N, kn, seen, L, Γ2, hnj, hnow, hseen, htold, hnl, hLl, hLok, hnok, hsub, e2, e3, e4, e8, e9, rfl⟩
  refine TK.know5 e2 e3 e4 e8 e9 ?_
  by_cases h0 : now.length = 0
  · refine m_run ?_
    refine TK.over0 rfl rfl ⟨_, rfl, rfl, L, _, rfl, .cons _ (.cons _ (.cons _ hsub)), fun s hs => Wy.ok_tl (Wy.ok_tl (Wy.ok_tl (hLok s hs))), ?_⟩
    rw [htold]
    refine Rch.told_end _ _ (nxL_law l).down (who, 3) ?_ 4 (Nat.lt_succ_self 3)
    rw [← hnow, List.eq_nil_of_length_eq_zero h0]
    rfl
  have hn3 : n ≤ 3 := by
    obtain ⟨s, hs⟩ : ∃ s, s ∈ now := ⟨now[0]'(by omega), List.getElem_mem _⟩
    have := (hnok s hs).2.2
    omega
  have hpw := pow_n hn3
  refine m_run ?_
  refine TK.free (H := own 115 3 (.slice none 0 0) 0 []) (fun m hm => own_nil _ _ hm) ?_
  apply TK.iter (fun j' ρ' Γ' => ∃ (a : Nat) (next : List Wy) (D : Option Addr) (kd : Nat) (seen1 : List Rch.Sp) (L1 : List Wy) (Γ3 : List HP), a + j' = now.length ∧ next.map pureY = Rch.fresh seen (((now.take a).map pureY).flatMap (Rch.exts (unskip K skip) (nxL l))) ∧ seen1 = seen ++ (next.map pureY).map (·.1) ∧ L1 = L ++ now.take a ∧ next.length ≤ a * 1000 ∧ next.length ≤ kd ∧ (∀ s ∈ L1, s.ok Γ3) ∧ (∀ s ∈ now, s.ok Γ3) ∧ (∀ s ∈ next, s.ok Γ3 ∧ s.w.length ≤ n + 1 ∧ s.left + (n + 1) ≤ 3) ∧ Γ.Sublist Γ3 ∧ lk ρ' 2 = .int .i64 skip ∧ lk ρ' 3 = .func (.func F) #[] cs.toArray ∧ lk ρ' 4 = .pointer (some ⟨b4, 0, none⟩) ∧ lk ρ' 8 = .map (some bm) ∧ lk ρ' 10 = .slice D next.length kd ∧ lk ρ' 31 = .slice N now.length kn ∧ lk ρ' 32 = .int .i64 (now.length : Int) ∧ lk ρ' 33 = .int .i64 (a : Int) ∧ Γ' = own 115 3 (.slice D next.length kd) next.length (wysC next) :: T L1 :: own 115 3 (.slice N now.length kn) now.length (wysC now) :: mapA spotV oneV bm (seenE (seen1)) :: row b4 [.slice A l.length c, .slice B K.length k, .bool true] 82 :: Γ3) now.length
  · exact ⟨0, [], none, 0, seen, L, Γ2, Nat.zero_add _, rfl, by simp, by simp, Nat.zero_le _, Nat.le_refl _, hLok, fun s hs => (hnok s hs).1, by simp, hsub, rfl, rfl, rfl, rfl, rfl, rfl, rfl, rfl, rfl⟩
  clear e2 e3 e4 e8 e9 ρ'
  rintro j' IH2 ρ' _ ⟨a, next, D, kd, seen1, L1, Γ3, haj, hnext, hseen1, hL1, hnextl, hkd, hL1ok, hnowok, hnextok, hsub3, e2, e3, e4, e8, e10, e31, e32, e33, rfl⟩
  refine TK.know8 e2 e3 e4 e8 e10 e31 e32 e33 ?_
  by_cases ha : a < now.length
  rotate_left
  · obtain rfl : a = now.length := by omega
    rw [List.take_length] at hnext hL1
    refine m_run ?_
    refine TK.sub (Δ := own 115 3 (.slice D next.length kd) next.length (wysC next) :: T L1 :: mapA spotV oneV bm (seenE seen1) :: row b4 [.slice A l.length c, .slice B K.length k, .bool true] 82 :: Γ3) (by (repeat (first | exact List.Sublist.refl _ | apply List.Sublist.cons_cons | apply List.Sublist.cons))) ?_
    refine TK.perm (.swap _ _ _) ?_
    exact IH (j - 1) _ _ (by omega) ⟨n + 1, next, D, kd, seen1, L1, Γ3, by omega, by rw [hnext, hnow, hseen]; rfl, by rw [hseen1, hnext, hnow, hseen]; rfl, by rw [hL1, List.map_append, htold, hnow, Rch.told_succ], by rw [Nat.pow_succ]; exact Nat.le_trans hnextl (Nat.mul_le_mul_right _ hnl), by rw [hL1, List.length_append]; omega, hL1ok, hnextok, hsub3, rfl, rfl, rfl, rfl, rfl, rfl⟩
  obtain ⟨s, hs⟩ : ∃ s, now[a]? = some s := ⟨now[a], List.getElem?_eq_getElem ha⟩
  have hsm := List.mem_of_getElem? hs
  obtain ⟨_, hsw, hsl⟩ := hnok s hsm
  have hso := hnowok s hsm
  have hNs : has (own 115 3 (.slice D next.length kd) next.length (wysC next) :: T L1 :: own 115 3 (.slice N now.length kn) now.length (wysC now) :: mapA spotV oneV bm (seenE (seen1)) :: row b4 [.slice A l.length c, .slice B K.length k, .bool true] 82 :: Γ3) (srcAt 3 N now.length (wysC now)) := has_at (up_src _ _ _ _) 2 rfl fun _ h => own_src h
  refine TK.mem fun m0 hm0 => ?_
  obtain ⟨g, u, rfl⟩ := src_some (hNs m0 hm0) (by rw [wysC_len]; omega)
  clear hm0 m0
  have hel : has (own 115 3 (.slice D next.length kd) next.length (wysC next) :: T L1 :: own 115 3 (.slice (some ⟨g, u, none⟩) now.length kn) now.length (wysC now) :: mapA spotV oneV bm (seenE (seen1)) :: row b4 [.slice A l.length c, .slice B K.length k, .bool true] 82 :: Γ3) (fun m => cellsAt m g (u + a * 3) [.int .u32 (s.pos : Int), .int .i64 (s.left : Int), .slice s.A s.w.length s.c]) := has_el (sz := 3) (f := Wy.cells) (fun _ => rfl) (by decide) hNs hs
  refine m_run ?_
  (apply TL.alloc; exact rfl; exact tb rfl; exact (rfl : _ = [_, _, _]))
  intro b12
  refine m_rrun ?_
  refine TL.nil ?_
  refine TK.imp (Δ := row b12 [.int .u32 (s.pos : Int), .int .i64 (s.left : Int), .slice s.A s.w.length s.c] 115 :: own 115 3 (.slice D next.length kd) next.length (wysC next) :: T L1 :: own 115 3 (.slice (some ⟨g, u, none⟩) now.length kn) now.length (wysC now) :: mapA spotV oneV bm (seenE (seen1)) :: row b4 [.slice A l.length c, .slice B K.length k, .bool true] 82 :: Γ3) (fun _ h => h) ?_
  clear hel hNs
  have hb12 : has (row b12 [.int .u32 (s.pos : Int), .int .i64 (s.left : Int), .slice s.A s.w.length s.c] 115 :: own 115 3 (.slice D next.length kd) next.length (wysC next) :: T L1 :: own 115 3 (.slice (some ⟨g, u, none⟩) now.length kn) now.length (wysC now) :: mapA spotV oneV bm (seenE (seen1)) :: row b4 [.slice A l.length c, .slice B K.length k, .bool true] 82 :: Γ3) (fun m => cellsAt m b12 0 (spotL (s.pos, s.left))) := has_rows 0 rfl rfl
  refine m_run ?_
  (apply TL.callFV (fs := []) (cs := cs) (Δ := T L1 :: row b12 [.int .u32 (s.pos : Int), .int .i64 (s.left : Int), .slice s.A s.w.length s.c] 115 :: own 115 3 (.slice D next.length kd) next.length (wysC next) :: own 115 3 (.slice (some ⟨g, u, none⟩) now.length kn) now.length (wysC now) :: mapA spotV oneV bm (seenE (seen1)) :: row b4 [.slice A l.length c, .slice B K.length k, .bool true] 82 :: Γ3); exact rfl; exact rfl; exact hc; exact rfl; exact fun _ h => all_perm (List.perm_middle (a := T L1) (l₁ := [row b12 [.int .u32 (s.pos : Int), .int .i64 (s.left : Int), .slice s.A s.w.length s.c] 115, own 115 3 (.slice D next.length kd) next.length (wysC next)]) (l₂ := own 115 3 (.slice (some ⟨g, u, none⟩) now.length kn) now.length (wysC now) :: mapA spotV oneV bm (seenE (seen1)) :: row b4 [.slice A l.length c, .slice B K.length k, .bool true] 82 :: Γ3)) h)
  exact hF L1 s _ (by rw [hL1, List.length_append, List.length_take]; omega) (.cons _ (.cons _ (.cons _ (.cons _ (.cons _ hsub3))))) (Wy.ok_tl (Wy.ok_tl (Wy.ok_tl (Wy.ok_tl (Wy.ok_tl hso)))))
  rintro _ _ ⟨rfl, rfl⟩
  obtain ⟨L2, hL2⟩ : ∃ L2, L2 = L1 ++ [s] := ⟨_, rfl⟩
  rw [← hL2]
  have hL2ok : ∀ s ∈ L2, s.ok Γ3 := fun x hx => by
    rw [hL2] at hx
    rcases List.mem_append.1 hx with hx | hx
    · exact hL1ok x hx
    · rw [List.mem_singleton.1 hx]; exact hso
  refine m_run ?_
  refine TK.perm (List.perm_middle (a := own 115 3 (.slice D next.length kd) next.length (wysC next)) (l₁ := [T L2, row b12 [.int .u32 (s.pos : Int), .int .i64 (s.left : Int), .slice s.A s.w.length s.c] 115]) (l₂ := own 115 3 (.slice (some ⟨g, u, none⟩) now.length kn) now.length (wysC now) :: mapA spotV oneV bm (seenE (seen1)) :: row b4 [.slice A l.length c, .slice B K.length k, .bool true] 82 :: Γ3)) ?_
  clear hb12
  apply TK.iter (fun j'' ρ' Γ' => ∃ (b : Nat) (next : List Wy) (D : Option Addr) (kd : Nat) (seen1 : List Rch.Sp) (Γ3 : List HP), b + j'' = K.length ∧ next.map pureY = Rch.fresh seen (((now.take a).map pureY).flatMap (Rch.exts (unskip K skip) (nxL l)) ++ (unskip (K.take b) skip).filterMap (Rch.step1 (nxL l) (pureY s))) ∧ seen1 = seen ++ (next.map pureY).map (·.1) ∧ next.length ≤ a * 1000 + b ∧ next.length ≤ kd ∧ (∀ s ∈ L2, s.ok Γ3) ∧ (∀ s ∈ now, s.ok Γ3) ∧ (∀ s ∈ next, s.ok Γ3 ∧ s.w.length ≤ n + 1 ∧ s.left + (n + 1) ≤ 3) ∧ Γ.Sublist Γ3 ∧ lk ρ' 2 = .int .i64 skip ∧ lk ρ' 3 = .func (.func F) #[] cs.toArray ∧ lk ρ' 4 = .pointer (some ⟨b4, 0, none⟩) ∧ lk ρ' 8 = .map (some bm) ∧ lk ρ' 10 = .slice D next.length kd ∧ lk ρ' 12 = .pointer (some ⟨b12, 0, none⟩) ∧ lk ρ' 31 = .slice (some ⟨g, u, none⟩) now.length kn ∧ lk ρ' 32 = .int .i64 (now.length : Int) ∧ lk ρ' 33 = .int .i64 (a : Int) ∧ lk ρ' 44 = .slice B K.length k ∧ lk ρ' 45 = .int .i64 (K.length : Int) ∧ lk ρ' 46 = .int .i64 (b : Int) ∧ Γ' = own 115 3 (.slice D next.length kd) next.length (wysC next) :: T L2 :: row b12 [.int .u32 (s.pos : Int), .int .i64 (s.left : Int), .slice s.A s.w.length s.c] 115 :: own 115 3 (.slice (some ⟨g, u, none⟩) now.length kn) now.length (wysC now) :: mapA spotV oneV bm (seenE (seen1)) :: row b4 [.slice A l.length c, .slice B K.length k, .bool true] 82 :: Γ3) K.length
  · exact ⟨0, next, D, kd, seen1, Γ3, Nat.zero_add _, by rw [hnext]; simp [unskip], hseen1, by omega, hkd, hL2ok, hnowok, hnextok, hsub3, rfl, rfl, rfl, rfl, rfl, rfl, rfl, rfl, rfl, rfl, rfl, rfl, rfl⟩
  clear e2 e3 e4 e8 e10 e31 e32 e33 ρ' hnext hseen1 hnextl hkd hL1ok hnowok hnextok hsub3 hL2ok hso
  clear next D kd seen1 Γ3
  rintro j'' IH3 ρ' _ ⟨b, next, D, kd, seen1, Γ3, hbj, hnext, hseen1, hnextl, hkd, hL2ok, hnowok, hnextok, hsub3, e2, e3, e4, e8, e10, e12, e31, e32, e33, e44, e45, e46, rfl⟩
  refine TK.know12 e2 e3 e4 e8 e10 e12 e31 e32 e33 e44 e45 e46 ?_
  by_cases hb : b < K.length
  rotate_left
  · obtain rfl : b = K.length := by omega
    rw [List.take_length] at hnext
    refine m_run ?_
    refine TK.sub (Δ := own 115 3 (.slice D next.length kd) next.length (wysC next) :: T L2 :: own 115 3 (.slice (some ⟨g, u, none⟩) now.length kn) now.length (wysC now) :: mapA spotV oneV bm (seenE (seen1)) :: row b4 [.slice A l.length c, .slice B K.length k, .bool true] 82 :: Γ3) (by (repeat (first | exact List.Sublist.refl _ | apply List.Sublist.cons_cons | apply List.Sublist.cons))) ?_
    refine IH2 (j' - 1) _ _ (by omega) ⟨a + 1, next, D, kd, seen1, L2, Γ3, by omega, ?_, hseen1, ?_, by omega, hkd, hL2ok, hnowok, hnextok, hsub3, rfl, rfl, rfl, rfl, rfl, rfl, rfl, congrArg (Value.int .i64) (i64_succ a (by omega)), rfl⟩
    · rw [hnext, List.take_add_one, hs, List.map_append, List.flatMap_append]
      simp [Rch.exts]
    · rw [hL2, hL1, List.take_add_one, hs, List.append_assoc]
      rfl
  obtain ⟨i, hKb⟩ : ∃ i, K[b]? = some i := ⟨K[b], List.getElem?_eq_getElem hb⟩
  obtain ⟨x, hx, hd0, hd3⟩ := hKd i (List.mem_of_getElem? hKb)
  have hil : i < l.length := (List.getElem?_eq_some_iff.1 hx).1
  have hus := unskip_take (skip := skip) hKb
  have hK3 : has Γ3 (srcAt 1 B K.length (ints K)) := has_sublist (up_src _ _ _ _) hsub3 hK
  have hA3 : has Γ3 (srcAt 15 A l.length (crsC l)) := has_sublist (up_src _ _ _ _) hsub3 h.src
  have hso := hnowok s hsm
  refine TK.mem fun m0 hm0 => ?_
  obtain ⟨g1, u1, rfl⟩ := src_some ((has_tls (has_tls (has_tls (has_tls (has_tls (has_tls hK3))))) : has (_ :: _ :: _ :: _ :: _ :: _ :: Γ3) _) m0 hm0) (by rw [ints_len]; omega)
  obtain ⟨g2, u2, rfl⟩ := src_some ((has_tls (has_tls (has_tls (has_tls (has_tls (has_tls hA3))))) : has (_ :: _ :: _ :: _ :: _ :: _ :: Γ3) _) m0 hm0) (by rw [crsC_len]; omega)
  clear hm0 m0
  have hki := has_ints hK3 hKb
  have hel : has Γ3 (fun m => cellsAt m g2 (u2 + i * 15) [.int .u32 (x.iss : Int), .int .u64 (x.ser : Int), .int .u64 (x.frm : Int), .int .u64 (x.til : Int), .int .u8 (x.kind : Int), .bool x.r.h.s, .bool x.r.h.w.v, .int .u32 (x.r.h.w.n : Int), .int .u32 (x.r.h.a.p : Int), .slice x.r.h.a.A x.r.h.a.l.length x.r.h.a.c, .slice x.r.A x.r.l.length x.r.c, .int .u32 (x.p : Int), .int .i64 x.args, .int .u32 (x.to : Int), .int .i64 x.dep]) := has_el (sz := 15) (f := Cr.cells) (fun _ => rfl) (by decide) hA3 hx
  refine m_run ?_
  (apply TL.alloc; exact rfl; exact tb rfl; exact (rfl : _ = [_, _, _, _, _, _, _, _, _, _, _, _, _, _, _]))
  intro b15
  refine m_rrun ?_
  refine TL.nil ?_
  refine TK.imp (Δ := crRow b15 x :: own 115 3 (.slice D next.length kd) next.length (wysC next) :: T L2 :: row b12 [.int .u32 (s.pos : Int), .int .i64 (s.left : Int), .slice s.A s.w.length s.c] 115 :: own 115 3 (.slice (some ⟨g, u, none⟩) now.length kn) now.length (wysC now) :: mapA spotV oneV bm (seenE (seen1)) :: row b4 [.slice (some ⟨g2, u2, none⟩) l.length c, .slice (some ⟨g1, u1, none⟩) K.length k, .bool true] 82 :: Γ3) (fun _ h => h) ?_
  clear hel hki
  by_cases hsk : (i : Int) = skip
  · have hsk' : ((i : Int) == skip) = true := by simpa using hsk
    refine m_run ?_
    refine TK.drop ?_
    exact IH3 (j'' - 1) _ _ (by omega) ⟨b + 1, next, D, kd, seen1, Γ3, by omega, by rw [hus, if_pos hsk, List.append_nil]; exact hnext, hseen1, by omega, hkd, hL2ok, hnowok, hnextok, hsub3, rfl, rfl, rfl, rfl, rfl, rfl, rfl, rfl, rfl, rfl, rfl, congrArg (Value.int .i64) (i64_succ b (by omega)), rfl⟩
  rw [if_neg hsk] at hus
  have hsk' : ((i : Int) == skip) = false := by simpa using hsk
  by_cases hgo : x.iss = s.pos ∧ 0 < s.left
  rotate_left
  · have hnx : Rch.step1 (nxL l) (pureY s) i = none := by
      unfold Rch.step1
      rw [nxL_none hx (by show x.iss ≠ s.pos ∨ s.left = 0; omega)]
      rfl
    have hnext' : next.map pureY = Rch.fresh seen (((now.take a).map pureY).flatMap (Rch.exts (unskip K skip) (nxL l)) ++ (unskip (K.take (b + 1)) skip).filterMap (Rch.step1 (nxL l) (pureY s))) := by
      rw [hus, List.filterMap_append]
      simp only [List.filterMap_cons, List.filterMap_nil, hnx, List.append_nil]
      exact hnext
    by_cases hiss : x.iss = s.pos
    · have hl0 : s.left = 0 := by omega
      refine m_run ?_
      refine TK.drop ?_
      exact IH3 (j'' - 1) _ _ (by omega) ⟨b + 1, next, D, kd, seen1, Γ3, by omega, hnext', hseen1, by omega, hkd, hL2ok, hnowok, hnextok, hsub3, rfl, rfl, rfl, rfl, rfl, rfl, rfl, rfl, rfl, rfl, rfl, congrArg (Value.int .i64) (i64_succ b (by omega)), rfl⟩
    · refine m_run ?_
      refine TK.drop ?_
      exact IH3 (j'' - 1) _ _ (by omega) ⟨b + 1, next, D, kd, seen1, Γ3, by omega, hnext', hseen1, by omega, hkd, hL2ok, hnowok, hnextok, hsub3, rfl, rfl, rfl, rfl, rfl, rfl, rfl, rfl, rfl, rfl, rfl, congrArg (Value.int .i64) (i64_succ b (by omega)), rfl⟩
  obtain ⟨hiss, hleft⟩ := hgo
  obtain ⟨to, hto⟩ : ∃ to : Rch.Sp, to = (x.to, min (s.left - 1) x.dep.toNat) := ⟨_, rfl⟩
  have hto1 : to.1 = x.to := by rw [hto]
  have hto2 : to.2 = min (s.left - 1) x.dep.toNat := by rw [hto]
  have hnx : Rch.step1 (nxL l) (pureY s) i = some (to, s.w ++ [i]) := by
    unfold Rch.step1
    rw [nxL_some hx (show x.iss = (pureY s).1.1 from hiss) (show 0 < (pureY s).1.2 from hleft), hto]
    rfl
  have hfs : (unskip (K.take (b + 1)) skip).filterMap (Rch.step1 (nxL l) (pureY s)) = (unskip (K.take b) skip).filterMap (Rch.step1 (nxL l) (pureY s)) ++ [(to, s.w ++ [i])] := by
    rw [hus, List.filterMap_append]
    simp only [List.filterMap_cons, List.filterMap_nil, hnx]
  have hmin : (if x.dep < IntKind.i64.wrap ((s.left : Int) - 1) then x.dep else IntKind.i64.wrap ((s.left : Int) - 1)) = (to.2 : Int) := by
    rw [i64_in (by omega) (by omega), hto2]
    split <;> omega
  refine m_run ?_
  rw [hmin, ← hto1]
  (apply TL.pv; exact rfl; (apply PV.build tabs; exact rfl; exact rfl; exact rfl; exact rfl; exact rfl; exact (rfl : _ = spotL to)))
  (apply TL.alloc; exact rfl; exact tb rfl; exact (rfl : _ = [_, _]))
  intro b16
  refine m_rrun ?_
  refine TL.nil ?_
  refine TK.imp (Δ := row b16 [.int .u32 (to.1 : Int), .int .i64 (to.2 : Int)] 91 :: crRow b15 x :: own 115 3 (.slice D next.length kd) next.length (wysC next) :: T L2 :: row b12 [.int .u32 (s.pos : Int), .int .i64 (s.left : Int), .slice s.A s.w.length s.c] 115 :: own 115 3 (.slice (some ⟨g, u, none⟩) now.length kn) now.length (wysC now) :: mapA spotV oneV bm (seenE (seen1)) :: row b4 [.slice (some ⟨g2, u2, none⟩) l.length c, .slice (some ⟨g1, u1, none⟩) K.length k, .bool true] 82 :: Γ3) (fun _ h => h) ?_
  have hb16 : has (row b16 [.int .u32 (to.1 : Int), .int .i64 (to.2 : Int)] 91 :: crRow b15 x :: own 115 3 (.slice D next.length kd) next.length (wysC next) :: T L2 :: row b12 [.int .u32 (s.pos : Int), .int .i64 (s.left : Int), .slice s.A s.w.length s.c] 115 :: own 115 3 (.slice (some ⟨g, u, none⟩) now.length kn) now.length (wysC now) :: mapA spotV oneV bm (seenE (seen1)) :: row b4 [.slice (some ⟨g2, u2, none⟩) l.length c, .slice (some ⟨g1, u1, none⟩) K.length k, .bool true] 82 :: Γ3) (fun m => cellsAt m b16 0 (spotL to)) := has_rows 0 rfl rfl
  have hfr : Rch.fresh seen (((now.take a).map pureY).flatMap (Rch.exts (unskip K skip) (nxL l)) ++ (unskip (K.take (b + 1)) skip).filterMap (Rch.step1 (nxL l) (pureY s))) = next.map pureY ++ (if to ∈ seen1 then [] else [(to, s.w ++ [i])]) := by
    rw [hfs, ← List.append_assoc, fresh_snoc, ← hnext, ← hseen1]
  by_cases hin : to ∈ seen1
  · rw [if_pos hin, List.append_nil] at hfr
    refine m_run ?_
    (apply TL.pv; exact rfl; (apply PV.look1S (kv := spotV) (vv := oneV) (es := seenE seen1) (b := bm) (k := to) (v := 1) keySp; exact tb rfl; exact rfl; exact ⟨_, (tb rfl : TabOk Try.prog 91 _).1⟩; exact tb rfl; exact rfl; exact rfl; exact has_at (up_map _ _ _ _) 6 rfl fun _ h => mapA_at h; exact by rw [lookE_seen, if_pos hin]))
    refine TL.know (t := 84) (v := .int .i64 1) rfl ?_
    refine m_run ?_
    refine TK.drop ?_
    refine TK.drop ?_
    exact IH3 (j'' - 1) _ _ (by omega) ⟨b + 1, next, D, kd, seen1, Γ3, by omega, hfr.symm, hseen1, by omega, hkd, hL2ok, hnowok, hnextok, hsub3, rfl, rfl, rfl, rfl, rfl, rfl, rfl, rfl, rfl, rfl, rfl, congrArg (Value.int .i64) (i64_succ b (by omega)), rfl⟩
  rw [if_neg hin] at hfr
  refine m_run ?_
  (apply TL.pv; exact rfl; (apply PV.look1N (kv := spotV) (vv := oneV) (es := seenE seen1) (b := bm) (k := to) keySp; exact tb rfl; exact rfl; exact ⟨_, (tb rfl : TabOk Try.prog 91 _).1⟩; exact tb rfl; exact rfl; exact rfl; exact has_at (up_map _ _ _ _) 6 rfl fun _ h => mapA_at h; exact by rw [lookE_seen, if_neg hin]))
  refine m_run ?_
  (apply TL.mapPut (kv := spotV) (vv := oneV) (k := to) (nv := 1) 6; exact rfl; exact keySp; exact tb rfl; exact rfl; exact ⟨_, (tb rfl : TabOk Try.prog 91 _).1⟩; exact rfl; exact rfl; exact rfl; exact rfl)
  rw [setE_seen hin]
  refine TL.nil ?_
  refine TK.imp (Δ := row b16 [.int .u32 (to.1 : Int), .int .i64 (to.2 : Int)] 91 :: crRow b15 x :: own 115 3 (.slice D next.length kd) next.length (wysC next) :: T L2 :: row b12 [.int .u32 (s.pos : Int), .int .i64 (s.left : Int), .slice s.A s.w.length s.c] 115 :: own 115 3 (.slice (some ⟨g, u, none⟩) now.length kn) now.length (wysC now) :: mapA spotV oneV bm (seenE (seen1 ++ [to])) :: row b4 [.slice (some ⟨g2, u2, none⟩) l.length c, .slice (some ⟨g1, u1, none⟩) K.length k, .bool true] 82 :: Γ3) (fun _ h => h) ?_
  clear hb16
  refine TK.perm (List.perm_middle (a := own 115 3 (.slice D next.length kd) next.length (wysC next)) (l₁ := [row b16 [.int .u32 (to.1 : Int), .int .i64 (to.2 : Int)] 91, crRow b15 x]) (l₂ := T L2 :: row b12 [.int .u32 (s.pos : Int), .int .i64 (s.left : Int), .slice s.A s.w.length s.c] 115 :: own 115 3 (.slice (some ⟨g, u, none⟩) now.length kn) now.length (wysC now) :: mapA spotV oneV bm (seenE (seen1 ++ [to])) :: row b4 [.slice (some ⟨g2, u2, none⟩) l.length c, .slice (some ⟨g1, u1, none⟩) K.length k, .bool true] 82 :: Γ3)) ?_
  refine m_run ?_
  have hb16 : has (row b16 [.int .u32 (to.1 : Int), .int .i64 (to.2 : Int)] 91 :: crRow b15 x :: T L2 :: row b12 [.int .u32 (s.pos : Int), .int .i64 (s.left : Int), .slice s.A s.w.length s.c] 115 :: own 115 3 (.slice (some ⟨g, u, none⟩) now.length kn) now.length (wysC now) :: mapA spotV oneV bm (seenE (seen1 ++ [to])) :: row b4 [.slice (some ⟨g2, u2, none⟩) l.length c, .slice (some ⟨g1, u1, none⟩) K.length k, .bool true] 82 :: Γ3) (fun m => cellsAt m b16 0 (spotL to)) := has_rows 0 rfl rfl
  refine TK.drawE mixed rfl (row b16 [.int .u32 (to.1 : Int), .int .i64 (to.2 : Int)] 91 :: crRow b15 x :: T L2 :: row b12 [.int .u32 (s.pos : Int), .int .i64 (s.left : Int), .slice s.A s.w.length s.c] 115 :: own 115 3 (.slice (some ⟨g, u, none⟩) now.length kn) now.length (wysC now) :: mapA spotV oneV bm (seenE (seen1 ++ [to])) :: row b4 [.slice (some ⟨g2, u2, none⟩) l.length c, .slice (some ⟨g1, u1, none⟩) K.length k, .bool true] 82 :: Γ3) ?_
  refine m_take (At.mk : At 0) ?_; refine m_take (At.mk : At 1) ?_; refine m_take (At.mk : At 2) ?_; refine m_take (At.mk : At 3) ?_; refine m_take (At.mk : At 5) ?_
  refine TA.cutJ [4, 6] (fun ρ' Γ' => ∃ b94 : Nat, lk ρ' 2 = .int .i64 skip ∧ lk ρ' 3 = .func (.func F) #[] cs.toArray ∧ lk ρ' 4 = .pointer (some ⟨b4, 0, none⟩) ∧ lk ρ' 8 = .map (some bm) ∧ lk ρ' 12 = .pointer (some ⟨b12, 0, none⟩) ∧ lk ρ' 31 = .slice (some ⟨g, u, none⟩) now.length kn ∧ lk ρ' 32 = .int .i64 (now.length : Int) ∧ lk ρ' 33 = .int .i64 (a : Int) ∧ lk ρ' 44 = .slice (some ⟨g1, u1, none⟩) K.length k ∧ lk ρ' 45 = .int .i64 (K.length : Int) ∧ lk ρ' 46 = .int .i64 (b : Int) ∧ lk ρ' 88 = .slice D next.length kd ∧ lk ρ' 89 = .agg (spotL to).toArray ∧ lk ρ' 92 = .slice s.A s.w.length s.w.length ∧ lk ρ' 94 = .slice (some ⟨b94, 0, none⟩) 1 1 ∧ Γ' = row b94 (ints [i]) 3 :: own 115 3 (.slice D next.length kd) next.length (wysC next) :: row b16 [.int .u32 (to.1 : Int), .int .i64 (to.2 : Int)] 91 :: crRow b15 x :: T L2 :: row b12 [.int .u32 (s.pos : Int), .int .i64 (s.left : Int), .slice s.A s.w.length s.c] 115 :: own 115 3 (.slice (some ⟨g, u, none⟩) now.length kn) now.length (wysC now) :: mapA spotV oneV bm (seenE (seen1 ++ [to])) :: row b4 [.slice (some ⟨g2, u2, none⟩) l.length c, .slice (some ⟨g1, u1, none⟩) K.length k, .bool true] 82 :: Γ3) rfl ?_ ?_
  · intro tail
    refine TA.two 4 6 (by kernel_rfl) rfl rfl ?_ ?_
    · (apply TL.callV; exact rfl; exact callB_of (by kernel_rfl); exact rfl; exact fun _ h => h)
      exact clip_t s.A s.w.length s.c _ hso.2
      rintro _ _ ⟨rfl, rfl⟩
      refine TL.back (by (focus ((repeat (first | assumption | exact Ent.refl _ | apply Ent.tail)); done))) ?_
      (apply TA.one 6; kernel_rfl; exact rfl)
      (apply TL.buildSlice (l := ints [i]); exact rfl; exact tb rfl; exact rfl; exact tb rfl; exact rfl; exact rfl; exact rfl; exact rfl; exact rfl)
      intro b94
      refine TL.back (by (focus ((repeat (first | assumption | exact Ent.refl _ | apply Ent.tail)); done))) ?_
      refine TA.eqL ?_ (tail _ _ ⟨b94, rfl, rfl, rfl, rfl, rfl, rfl, rfl, rfl, rfl, rfl, rfl, rfl, rfl, rfl, rfl, rfl⟩)
      kernel_rfl
    · (apply TL.buildSlice (l := ints [i]); exact rfl; exact tb rfl; exact rfl; exact tb rfl; exact rfl; exact rfl; exact rfl; exact rfl; exact rfl)
      intro b94
      refine TL.back (by (focus ((repeat (first | assumption | exact Ent.refl _ | apply Ent.tail)); done))) ?_
      (apply TA.one 4; kernel_rfl; exact rfl)
      (apply TL.callV; exact rfl; exact callB_of (by kernel_rfl); exact rfl; exact fun _ h => h)
      exact clip_t s.A s.w.length s.c _ hso.2
      rintro _ _ ⟨rfl, rfl⟩
      refine TL.back (by (focus ((repeat (first | assumption | exact Ent.refl _ | apply Ent.tail)); done))) ?_
      refine TA.eqL ?_ (tail _ _ ⟨b94, rfl, rfl, rfl, rfl, rfl, rfl, rfl, rfl, rfl, rfl, rfl, rfl, rfl, rfl, rfl, rfl⟩)
      kernel_rfl
  rintro ρ3 _ ⟨b94, f2, f3, f4, f8, f12, f31, f32, f33, f44, f45, f46, f88, f89, f92, f94, rfl⟩
  refine TA.know (t := 2) (v := .int .i64 skip) f2 ?_
  refine TA.know (t := 3) (v := .func (.func F) #[] cs.toArray) f3 ?_
  refine TA.know (t := 4) (v := .pointer (some ⟨b4, 0, none⟩)) f4 ?_
  refine TA.know (t := 8) (v := .map (some bm)) f8 ?_
  refine TA.know (t := 12) (v := .pointer (some ⟨b12, 0, none⟩)) f12 ?_
  refine TA.know (t := 31) (v := .slice (some ⟨g, u, none⟩) now.length kn) f31 ?_
  refine TA.know (t := 32) (v := .int .i64 (now.length : Int)) f32 ?_
  refine TA.know (t := 33) (v := .int .i64 (a : Int)) f33 ?_
  refine TA.know (t := 44) (v := .slice (some ⟨g1, u1, none⟩) K.length k) f44 ?_
  refine TA.know (t := 45) (v := .int .i64 (K.length : Int)) f45 ?_
  refine TA.know (t := 46) (v := .int .i64 (b : Int)) f46 ?_
  refine TA.know (t := 88) (v := .slice D next.length kd) f88 ?_
  refine TA.know (t := 89) (v := .agg (spotL to).toArray) f89 ?_
  refine TA.know (t := 92) (v := .slice s.A s.w.length s.w.length) f92 ?_
  refine TA.know (t := 94) (v := .slice (some ⟨b94, 0, none⟩) 1 1) f94 ?_
  (apply TA.one 7; kernel_rfl; exact rfl)
  (apply TL.appendF (z := 1) (s := (s.w ++ [i]).length) (cs := ints s.w) (news := ints [i]); exact rfl; exact tb rfl; exact rfl; exact tb rfl; exact rfl; exact rfl; exact rfl; exact rfl)
  · exact has_tls (has_tls (has_tls (has_tls (has_tls (has_tls (has_tls (has_tls (has_tls hso.1))))))))
  · exact rfl
  · exact has_src_row 0 rfl rfl
  · exact ints_one [i]
  · exact Nat.zero_lt_one
  · show (s.w.length + 1) * 8 ≤ _; omega
  · show s.w.length + 1 ≤ maxLen; unfold maxLen; omega
  · simp
  intro W2 c2 hc2
  rw [show ints s.w ++ ints [i] = ints (s.w ++ [i]) by simp]
  refine TL.back (by (focus ((repeat (first | assumption | exact Ent.refl _ | apply Ent.tail)); done))) ?_
  (apply TA.takeA (At.mk : At 8); exact rfl; exact rfl; kernel_rfl; ((focus ((repeat (first | assumption | exact Ent.refl _ | apply Ent.tail)); done))); (apply PV.build tabs; exact rfl; exact rfl; exact rfl; exact rfl; exact rfl; exact (rfl : _ = Wy.cells ⟨to.1, to.2, W2, c2, s.w ++ [i]⟩)))
  (apply TA.one 9; kernel_rfl; exact rfl)
  (apply TL.buildSlice (l := wysC [⟨to.1, to.2, W2, c2, s.w ++ [i]⟩]); exact rfl; exact tb rfl; exact rfl; exact tb rfl; exact rfl; exact rfl; exact rfl; exact rfl; exact rfl)
  intro b97
  refine TL.back (by (focus ((repeat (first | assumption | exact Ent.refl _ | apply Ent.tail)); done))) ?_
  (apply TA.one 10; kernel_rfl; exact rfl)
  (apply TL.append 3; exact rfl; exact rfl; exact tb rfl; exact rfl; exact tb rfl; exact rfl; exact rfl; exact rfl)
  · exact fun _ h => h
  · exact rfl
  · exact has_src_row 0 rfl rfl
  · exact one_wys _
  · show (next.length + 1) * 40 ≤ _; omega
  · show next.length + 1 ≤ maxLen; unfold maxLen; omega
  · exact fun _ => (rfl : _ = _ :: _ :: _ :: _ :: _)
  intro D2 kd2 hkd2
  obtain ⟨y, hy⟩ : ∃ y : Wy, y = ⟨to.1, to.2, W2, c2, s.w ++ [i]⟩ := ⟨_, rfl⟩
  rw [← hy, show wysC next ++ wysC [y] = wysC (next ++ [y]) by simp, show next.length + 1 = (next ++ [y]).length by simp]
  rw [show next.length + 1 = (next ++ [y]).length by simp] at hkd2
  refine TL.back (by (focus ((repeat (first | assumption | exact Ent.refl _ | apply Ent.tail)); done))) ?_
  refine m_take (At.mk : At 11) ?_
  refine TA.done (by kernel_rfl) ?_
  refine m_run ?_
  refine TK.sub (Δ := own 3 1 (.slice W2 (s.w ++ [i]).length c2) (s.w ++ [i]).length (ints (s.w ++ [i])) :: own 115 3 (.slice D2 (next ++ [y]).length kd2) (next ++ [y]).length (wysC (next ++ [y])) :: T L2 :: row b12 [.int .u32 (s.pos : Int), .int .i64 (s.left : Int), .slice s.A s.w.length s.c] 115 :: own 115 3 (.slice (some ⟨g, u, none⟩) now.length kn) now.length (wysC now) :: mapA spotV oneV bm (seenE (seen1 ++ [to])) :: row b4 [.slice (some ⟨g2, u2, none⟩) l.length c, .slice (some ⟨g1, u1, none⟩) K.length k, .bool true] 82 :: Γ3) (by (repeat (first | exact List.Sublist.refl _ | apply List.Sublist.cons_cons | apply List.Sublist.cons))) ?_
  refine TK.perm (Δ := own 115 3 (.slice D2 (next ++ [y]).length kd2) (next ++ [y]).length (wysC (next ++ [y])) :: T L2 :: row b12 [.int .u32 (s.pos : Int), .int .i64 (s.left : Int), .slice s.A s.w.length s.c] 115 :: own 115 3 (.slice (some ⟨g, u, none⟩) now.length kn) now.length (wysC now) :: mapA spotV oneV bm (seenE (seen1 ++ [to])) :: row b4 [.slice (some ⟨g2, u2, none⟩) l.length c, .slice (some ⟨g1, u1, none⟩) K.length k, .bool true] 82 :: own 3 1 (.slice W2 (s.w ++ [i]).length c2) (s.w ++ [i]).length (ints (s.w ++ [i])) :: Γ3) (List.perm_middle (a := own 3 1 (.slice W2 (s.w ++ [i]).length c2) (s.w ++ [i]).length (ints (s.w ++ [i]))) (l₁ := [own 115 3 (.slice D2 (next ++ [y]).length kd2) (next ++ [y]).length (wysC (next ++ [y])), T L2, row b12 [.int .u32 (s.pos : Int), .int .i64 (s.left : Int), .slice s.A s.w.length s.c] 115, own 115 3 (.slice (some ⟨g, u, none⟩) now.length kn) now.length (wysC now), mapA spotV oneV bm (seenE (seen1 ++ [to])), row b4 [.slice (some ⟨g2, u2, none⟩) l.length c, .slice (some ⟨g1, u1, none⟩) K.length k, .bool true] 82]) (l₂ := Γ3)).symm ?_
  have hyp : pureY y = (to, s.w ++ [i]) := by rw [hy]; rfl
  exact IH3 (j'' - 1) _ _ (by omega) ⟨b + 1, next ++ [y], D2, kd2, seen1 ++ [to], own 3 1 (.slice W2 (s.w ++ [i]).length c2) (s.w ++ [i]).length (ints (s.w ++ [i])) :: Γ3, by omega, by rw [hfr, List.map_append, ← hyp]; rfl, by rw [hseen1, List.map_append, List.map_append, ← List.append_assoc]; simp [hyp], by simp; omega, hkd2, fun s hs => Wy.ok_tl (hL2ok s hs), fun s hs => Wy.ok_tl (hnowok s hs), fun z hz => by
    rcases List.mem_append.1 hz with hz | hz
    · exact ⟨Wy.ok_tl (hnextok z hz).1, (hnextok z hz).2⟩
    · rw [List.mem_singleton.1 hz, hy]
      exact ⟨⟨has_at (up_src _ _ _ _) 0 rfl fun _ h => own_src h, hc2⟩, by show (s.w ++ [i]).length ≤ n + 1; simp; omega, by show to.2 + (n + 1) ≤ 3; omega⟩, .cons _ hsub3, rfl, rfl, rfl, rfl, rfl, rfl, rfl, rfl, rfl, rfl, rfl, congrArg (Value.int .i64) (i64_succ b (by omega)), rfl⟩
end Go.Proofs.Ythbcfamfaicneaa.E
