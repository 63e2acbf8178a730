/- My own texts, one behind the other: Zb Skb Zc. -/
import Derived.Test.YthbcfamfaicneaaPd7
import Derived.Test.YthbcfamfaicneaaPd4
/- A link more, or a deeper one, reaches no fewer: plainly. -/
namespace Go.Proofs.Ythbcfamfaicneaa.E
open Go Go.RowKit
namespace Rch
theorem runW_le {K K' : List Nat} {nx nx' : Sp → Nat → Option Sp} (hm : ∀ s i t, i ∈ K → nx s i = some t → ∀ k, s.2 ≤ k → i ∈ K' ∧ ∃ t', nx' (s.1, k) i = some t' ∧ t'.1 = t.1 ∧ t.2 ≤ t'.2) :
    ∀ (w : List Nat) (s t : Sp) (k : Nat), runW K nx s w = some t → s.2 ≤ k → ∃ t', runW K' nx' (s.1, k) w = some t' ∧ t'.1 = t.1 ∧ t.2 ≤ t'.2
  | [], s, t, k, h, hk => by
    simp only [runW, Option.some.injEq] at h
    subst h
    exact ⟨(s.1, k), rfl, rfl, hk⟩
  | i :: w, s, t, k, h, hk => by
    rw [runW] at h
    split at h
    · rename_i hi
      obtain ⟨u, hu, h2⟩ := Option.bind_eq_some_iff.1 h
      obtain ⟨hi', ⟨u1, u2⟩, hu', h3, h4⟩ := hm s i u hi hu k hk
      obtain ⟨t', h5, h6, h7⟩ := runW_le hm w u t u2 h2 h4
      refine ⟨t', ?_, h6, h7⟩
      rw [runW, if_pos hi', hu']
      simp only [Option.bind_some]
      rw [← h5]
      simp only at h3
      rw [h3]
    · cases h
end Rch
theorem of_run {L : List Cr} {a p : Nat} {args : Int} {O : List Nat} (h : OfSpec L a p args O) (v : Nat) : v ∈ O ↔ (predS p args true 0).2 = true ∧ ∃ w t, w.length < 4 ∧ Rch.runW (linksOf L p args) (nxL L) (a, 3) w = some t ∧ t.1 = v := by
  rw [h.2 v]
  refine and_congr_right fun _ => ?_
  constructor
  · rintro ⟨⟨t, w⟩, hs, rfl⟩
    obtain ⟨n, hn, hs⟩ := (Rch.mem_allC _ _).1 hs
    obtain ⟨h1, h2⟩ := (Rch.mem_chs _ _ _ n t w).1 hs
    exact ⟨w, t, by omega, h2, rfl⟩
  · rintro ⟨w, t, h1, h2, rfl⟩
    exact ⟨(t, w), (Rch.mem_allC _ _).2 ⟨_, h1, (Rch.mem_chs _ _ _ _ t w).2 ⟨rfl, h2⟩⟩, rfl⟩
theorem nxL_eq {L : List Cr} {s : Rch.Sp} {i : Nat} {t : Rch.Sp} (h : nxL L s i = some t) : ∃ x, L[i]? = some x ∧ x.iss = s.1 ∧ 0 < s.2 ∧ t = (x.to, min (s.2 - 1) x.dep.toNat) := by
  unfold nxL at h
  split at h
  · rename_i c hc
    split at h
    · rename_i h1
      injection h with h
      exact ⟨c, hc, h1.1, h1.2, h.symm⟩
    · cases h
  · cases h
theorem of_more {L L' : List Cr} {a p : Nat} {args : Int} {O O' : List Nat} (hL : ∀ (i : Nat) (x : Cr), L[i]? = some x → ∃ y : Cr, L'[i]? = some y ∧ y.iss = x.iss ∧ y.to = x.to ∧ x.dep ≤ y.dep ∧ linkB p args y = true) (h : OfSpec L a p args O) (h' : OfSpec L' a p args O') : ∀ v ∈ O, v ∈ O' := by
  intro v hv
  obtain ⟨hp, w, t, h1, h2, h3⟩ := (of_run h v).1 hv
  refine (of_run h' v).2 ⟨hp, w, ?_⟩
  obtain ⟨t', h4, h5, _⟩ := Rch.runW_le (K' := linksOf L' p args) (nx' := nxL L') (fun s i u hi hu k hk => by
    obtain ⟨x, hx, e1, e2, rfl⟩ := nxL_eq hu
    obtain ⟨y, hy, y1, y2, y3, y4⟩ := hL i x hx
    refine ⟨linksOf_mem.2 ⟨y, hy, y4⟩, (y.to, min (k - 1) y.dep.toNat), ?_, y2, ?_⟩
    · exact nxL_some hy (by rw [y1, e1]) (by show 0 < k; omega)
    · show min (s.2 - 1) x.dep.toNat ≤ min (k - 1) y.dep.toNat
      omega) w (a, 3) t 3 h2 (Nat.le_refl _)
  exact ⟨t', h1, h4, by rw [h5, h3]⟩
theorem chain_is {L : List Cr} {a p : Nat} {args : Int} {O : List Nat} (b : Nat) (h : OfSpec L a p args O) : (chainS L a p args b (-1)).isSome = decide (b ∈ O) := by
  unfold chainS
  rw [unskip_no]
  have := h.2 b
  by_cases hp : (predS p args true 0).2 = true
  · rw [if_pos hp, Option.isSome_map, Bool.eq_iff_iff, List.find?_isSome, decide_eq_true_iff, this]
    simp [hp]
  · rw [if_neg hp, Bool.eq_iff_iff, decide_eq_true_iff, this]
    simp [hp]
theorem chain_run {L : List Cr} {a p : Nat} {args : Int} {b : Nat} {w : List Nat} (h : chainS L a p args b (-1) = some w) : ∃ t, Rch.runW (linksOf L p args) (nxL L) (a, 3) w = some t ∧ t.1 = b := by
  unfold chainS at h
  rw [unskip_no] at h
  split at h
  · obtain ⟨⟨t, w'⟩, hf, rfl⟩ := Option.map_eq_some_iff.1 h
    obtain ⟨hr, _⟩ := Rch.find_first (f := fun s => decide (s.1.1 = b)) _ _ _ hf
    exact ⟨t, hr, of_decide_eq_true (List.find?_some (p := fun s : Rch.Stp => decide (s.1.1 = b)) hf)⟩
  · cases h
def dpt (d : Int) : Int := (if (0 : Int) > d then 0 else d).tmod 4
theorem dpt_in (d : Int) : 0 ≤ dpt d ∧ dpt d ≤ 3 := by
  unfold dpt
  have h : (if (0 : Int) > d then 0 else d).tmod 4 = (if (0 : Int) > d then 0 else d) % 4 := Int.tmod_eq_emod_of_nonneg (by split <;> omega)
  rw [h]; omega
theorem linkB_give (a b : Nat) {d : Int} (h : 0 ≤ d ∧ d ≤ 3) : linkB 7 1 (giveC a b 7 d) = true := by
  have e : linkB 7 1 (giveC a b 7 d) = (decide (0 ≤ d) && decide (d ≤ 3)) := by
    show (true && true && true && (true && true && (false && _ || true && (true && true && true && true && true && true && decide (0 ≤ d) && decide (d ≤ 3)))) && true) = _
    simp
  rw [e]; simp [h.1, h.2]
def toLk (c : Cr) : Cr := giveC (c.iss % 6) (c.to % 6) 7 (dpt c.dep)
/-- What the chain's places are: one link after the other one. -/
theorem run_step {L : List Cr} {K : List Nat} {s t : Rch.Sp} {w : List Nat} {i : Nat} {x : Nat} (h : Rch.runW K (nxL L) s (w.drop i) = some t) (hx : w[i]? = some x) : ∃ c, L[x]? = some c ∧ c.iss = s.1 ∧ 0 < s.2 ∧ Rch.runW K (nxL L) (c.to, min (s.2 - 1) c.dep.toNat) (w.drop (i + 1)) = some t := by
  have hd : w.drop i = x :: w.drop (i + 1) := by
    obtain ⟨h1, h2⟩ := List.getElem?_eq_some_iff.1 hx
    rw [List.drop_eq_getElem_cons h1, h2]
  rw [hd, Rch.runW] at h
  split at h
  · obtain ⟨u, hu, h2⟩ := Option.bind_eq_some_iff.1 h
    obtain ⟨c, hc, e1, e2, rfl⟩ := nxL_eq hu
    exact ⟨c, hc, e1, e2, h2⟩
  · cases h
end Go.Proofs.Ythbcfamfaicneaa.E

/- MY OWN LAYER: a store into one cell of a slice of structs of one's own. P is a variable. -/
namespace Go.Proofs.Ythbcfamfaicneaa.E
open Go Go.RowKit
section
variable {cx : Cx} {ops : Array Oper} {K : Act → World → Prop} {rest : List Oper} {ρ : Env} {ds : List Deferred} {Γ : List HP} {ty : TypeId} {pos : String} {after : Array Edge}
theorem TL.storeOwnF {t e : TypeId} {x y : Operand} {b o' c n sz : Nat} {v : Value} {cs cs' : List Value} {r : TR} (i q : Nat) (hi : Γ[i]? = some (own e sz (.slice (some ⟨b, 0, none⟩) n c) n cs)) (ea : ev ρ x = .pointer (some ⟨b, o', none⟩)) (eb : ev ρ y = v) (h1 : v.oneCell' = true) (ht : TabOk cx.P t r) (hr1 : (r.size == 1) = true)
    (ho : o' = q) (hq : q < n * sz) (hcs : cs.set q v = cs') {Δ : List HP} (hΔ : Γ.set i (own e sz (.slice (some ⟨b, 0, none⟩) n c) n cs') = Δ) (h : TL cx ops K rest ρ ds Δ) : TL cx ops K (⟨none, .store t x y, ty, pos, after, none⟩ :: rest) ρ ds Γ := by
  subst hcs; subst hΔ
  refine TL.storeIn (e := e) i hi ea eb h1 ht hr1 (fun m hm => ?_) h
  obtain ⟨hcl, ⟨hv, _⟩ | ⟨g, cap, cur, hv, hn, hcap, hl, htk, hrow⟩⟩ := hm
  · cases hv
  · injection hv with hv1 _ hv2
    injection hv1 with hv1
    injection hv1 with hv1 hv3
    subst hv1; subst hv2; subst ho
    have hb2 : n * sz ≤ cur.length := by rw [hl]; exact Nat.mul_le_mul_right _ hn
    refine ⟨cur, emp, sep_emp hrow, by omega, fun m' hm' => ⟨by simpa using hcl, .inr ⟨b, c, cur.set o' v, rfl, hn, hcap, by simpa using hl, ?_, sep_of_emp hm'⟩⟩⟩
    rw [← htk, List.take_set]
/-- The rest of a region, whatever comes behind it. -/
theorem TL.cut {k : List Item} (I : Env → List HP → Prop) (hx : ∀ k', (∀ ρ' Γ', I ρ' Γ' → TK cx k' ρ' ds Γ') → TL cx ops (WP cx k') rest ρ ds Γ) (h : ∀ ρ' Γ', I ρ' Γ' → TK cx k ρ' ds Γ') : TL cx ops (WP cx k) rest ρ ds Γ := hx k h
end
/-- A cell of the j-th of a row of structs. -/
theorem set_flat {α : Type} (f : α → List Value) (sz : Nat) (hf : ∀ a, (f a).length = sz) (v : Value) (y : α) : ∀ (l : List α) (j k : Nat) (x : α), l[j]? = some x → k < sz → (f x).set k v = f y → (l.flatMap f).set (j * sz + k) v = (l.set j y).flatMap f
  | [], j, k, x, h, _, _ => by simp at h
  | a :: l, 0, k, x, h, hk, hy => by
    simp at h; subst h
    simp only [List.set_cons_zero, List.flatMap_cons, Nat.zero_mul, Nat.zero_add]
    rw [List.set_append_left _ _ (by rw [hf]; exact hk), hy]
  | a :: l, j + 1, k, x, h, hk, hy => by
    simp only [List.getElem?_cons_succ] at h
    simp only [List.set_cons_succ, List.flatMap_cons]
    rw [List.set_append_right _ _ (by rw [hf, Nat.succ_mul]; omega), hf, ← set_flat f sz hf v y l j k x h hk hy]
    congr 2
    rw [Nat.succ_mul]; omega
end Go.Proofs.Ythbcfamfaicneaa.E

/- A link more reaches no fewer; each of Cuts stands on the chain: walked. -/
namespace Go.Proofs.Ythbcfamfaicneaa.E
open Go Go.RowKit Go.Proofs
attribute [local irreducible] TK TL TQ TA TB Fn PV
set_option maxRecDepth 100000 in
theorem has32_t (A : Option Addr) (c : Nat) (l : List Nat) (v : Nat) (Γ : List HP) (hs : has Γ (srcAt 1 A l.length (u32s l))) (hn : l.length ≤ 1000000) :
    FnV Try.prog 24 [.slice A l.length c, .int .u32 (v : Int)] Γ fun r Γ' => r = .bool (decide (v ∈ l)) ∧ Γ' = Γ := by
  refine Fn.enter Try.func24 rfl rfl rfl fun E => ?_
  refine m_run ?_
  apply TK.iter (fun j ρ' Γ' => ∃ i : Nat, i + j = l.length ∧ v ∉ l.take i ∧ lk ρ' 0 = .slice A l.length c ∧ lk ρ' 1 = .int .u32 (v : Int) ∧ lk ρ' 5 = .int .i64 (i : Int) ∧ Γ' = Γ) l.length
  · exact ⟨0, Nat.zero_add _, by simp, rfl, rfl, rfl, rfl⟩
  rintro j IH ρ' Γ ⟨i, hij, hno, e0, e1, e5, rfl⟩
  refine TK.know3 e0 e1 e5 ?_
  by_cases hi : i < l.length
  · obtain ⟨x, hx⟩ : ∃ x, l[i]? = some x := ⟨l[i], List.getElem?_eq_getElem hi⟩
    refine TK.mem fun m0 hm0 => ?_
    obtain ⟨g, u, rfl⟩ := src_some (hs m0 hm0) (by rw [u32s_len]; omega)
    clear hm0 m0
    have hcx := has_u32 hs hx
    refine m_run ?_
    by_cases hxv : x = v
    · refine m_run ?_
      (apply TK.ret1; exact rfl; exact rfl; (exact m_val))
      refine ⟨_, rfl, ?_, rfl⟩
      rw [decide_eq_true (by rw [← hxv]; exact List.mem_of_getElem? hx)]
    · refine m_run ?_
      refine IH (j - 1) _ _ (by omega) ⟨i + 1, by omega, ?_, rfl, rfl, congrArg (Value.int .i64) (i64_succ i (by omega)), rfl⟩
      rw [List.take_add_one, hx]
      simp only [Option.toList_some, List.mem_append, List.mem_singleton]
      rintro (h | h)
      · exact hno h
      · exact hxv h.symm
  obtain rfl : i = l.length := by omega
  rw [List.take_length] at hno
  refine m_run ?_
  (apply TK.ret1; exact rfl; exact rfl; (exact m_val))
  exact ⟨_, rfl, by rw [decide_eq_false hno], rfl⟩
theorem cr_cell {Γ : List HP} {g u n i : Nat} {l : List Cr} {X : Cr} (h : has Γ (srcAt 15 (some ⟨g, u, none⟩) n (crsC l))) (hi : l[i]? = some X) (k : Nat) {v : Value} (hv : X.cells[k]? = some v) : has Γ (fun m => cellAt m g (u + i * 15 + k) v) := has_imp (has_el (sz := 15) (f := Cr.cells) (fun _ => rfl) (by decide) h hi) fun m hm => hm k v hv
theorem toLk_crs {L : List Cr} {B : Option Addr} {Γ : List HP} (hs : has Γ (srcAt 15 B L.length (crsC L))) (hn : L.length ≤ 50) (h : ∀ x ∈ L, ∃ a b p d, x = giveC a b p d) : Crs B L Γ := ⟨hs, fun x hx => by obtain ⟨a, b, p, d, rfl⟩ := h x hx; exact giveC_ok _ _ _ _ _, fun x hx => by obtain ⟨a, b, p, d, rfl⟩ := h x hx; exact giveC_few _ _ _ _, by omega⟩
set_option maxRecDepth 100000 in
set_option maxHeartbeats 16000000 in
theorem reachMore_t (A : Option Addr) (c : Nat) (l : List Cr) (more : Cr) (who x at_ : Nat) (Γ0 : List HP) (hs0 : has Γ0 (srcAt 15 A l.length (crsC l))) (hat : at_ ≤ 255) :
    FnV Try.prog 6 [.slice A l.length c, .agg more.cells.toArray, .int .u32 (who : Int), .int .u32 (x : Int), .int .u8 (at_ : Int)] Γ0 fun v Γ' => v = .bool true ∧ Γ' = Γ0 := by
  refine Fn.enter Try.func6 rfl rfl rfl fun E => ?_
  refine m_run ?_
  (apply TL.box; exact rfl; exact rfl; exact (rfl : _ = more.cells))
  intro b6
  refine m_run ?_
  by_cases h10 : l.length ≤ 10
  rotate_left
  · refine m_run ?_
    (apply TL.callV; exact rfl; exact callB_of (by kernel_rfl); exact rfl; exact fun _ h => h)
    exact works_t _
    rintro _ Γ1 ⟨rfl, hs1⟩
    refine m_run ?_
    (apply TK.retS1; exact rfl; exact rfl; (exact m_val))
    exact ⟨_, rfl, rfl, rfl⟩
    exact (List.Sublist.cons _ (.refl _)).trans hs1
  refine m_run ?_
  refine TK.free (H := own 48 15 (.slice none 0 0) 0 []) (fun m hm => own_nil _ _ hm) ?_
  apply TK.iter (fun j ρ' Γ' => ∃ (i : Nat) (B : Option Addr) (k : Nat) (Γ1 : List HP), i + j = l.length ∧ (row b6 more.cells 48 :: Γ0).Sublist Γ1 ∧ lk ρ' 0 = .slice A l.length c ∧ lk ρ' 2 = .int .u32 (who : Int) ∧ lk ρ' 3 = .int .u32 (x : Int) ∧ lk ρ' 4 = .int .u8 (at_ : Int) ∧ lk ρ' 6 = .pointer (some ⟨b6, 0, none⟩) ∧ lk ρ' 11 = .slice B i k ∧ lk ρ' 12 = .int .i64 (i : Int) ∧ Γ' = own 48 15 (.slice B i k) i (crsC ((l.take i).map toLk)) :: Γ1) l.length
  · exact ⟨0, none, 0, _, Nat.zero_add _, .refl _, rfl, rfl, rfl, rfl, rfl, rfl, rfl, rfl⟩
  rintro j IH ρ' _ ⟨i, B, k, Γ1, hij, hS1, e0, e2, e3, e4, e6, e11, e12, rfl⟩
  refine TK.know7 e0 e2 e3 e4 e6 e11 e12 ?_
  by_cases hi : i < l.length
  · obtain ⟨X, hX⟩ : ∃ X, l[i]? = some X := ⟨l[i], List.getElem?_eq_getElem hi⟩
    have hA1 : has Γ1 (srcAt 15 A l.length (crsC l)) := has_sublist (up_src _ _ _ _) hS1 (has_tls hs0)
    refine TK.mem fun m0 hm0 => ?_
    obtain ⟨g, u, rfl⟩ := src_some ((has_tls hA1 : has (_ :: Γ1) _) m0 hm0) (by rw [crsC_len]; omega)
    clear hm0 m0
    have hc0 : has Γ1 (fun m => cellAt m g (u + i * 15) (.int .u32 (X.iss : Int))) := cr_cell hA1 hX 0 rfl
    have hc8 : has Γ1 (fun m => cellAt m g (u + i * 15 + 13) (.int .u32 (X.to : Int))) := cr_cell hA1 hX 13 rfl
    have hc9 : has Γ1 (fun m => cellAt m g (u + i * 15 + 14) (.int .i64 X.dep)) := cr_cell hA1 hX 14 rfl
    refine m_run ?_
    refine TK.drawE mixed rfl Γ1 ?_
    refine m_take (At.mk : At 0) ?_; refine m_take (At.mk : At 1) ?_; refine m_take (At.mk : At 2) ?_; refine m_take (At.mk : At 3) ?_; refine m_take (At.mk : At 4) ?_; refine m_take (At.mk : At 5) ?_; refine m_take (At.mk : At 6) ?_; refine m_take (At.mk : At 7) ?_; refine m_take (At.mk : At 8) ?_; refine m_take (At.mk : At 9) ?_; refine m_take (At.mk : At 10) ?_; refine m_take (At.mk : At 11) ?_; refine m_take (At.mk : At 12) ?_; refine m_take (At.mk : At 13) ?_; refine m_take (At.mk : At 14) ?_; refine m_take (At.mk : At 15) ?_; refine m_take (At.mk : At 16) ?_; refine m_take (At.mk : At 17) ?_; refine m_take (At.mk : At 18) ?_; refine m_take (At.mk : At 19) ?_
    refine TA.know (t := 45) (v := .int .u32 ((X.iss % 6 : Nat) : Int)) rfl ?_
    refine TA.know (t := 51) (v := .int .u32 ((X.to % 6 : Nat) : Int)) rfl ?_
    refine TA.know (t := 58) (v := .int .i64 (dpt X.dep)) rfl ?_
    (apply TA.one 20; kernel_rfl; exact rfl)
    (apply TL.callV; exact rfl; exact callB_of (by kernel_rfl); exact rfl; exact fun _ h => h)
    exact mkGive_t (X.iss % 6) (X.to % 6) 7 (dpt X.dep) _
    rintro _ _ ⟨rfl, rfl⟩
    refine TL.back (by (focus ((repeat (first | assumption | exact Ent.refl _ | apply Ent.tail)); done))) ?_
    (apply TA.one 21; kernel_rfl; exact rfl)
    (apply TL.buildSlice (l := crsC [toLk X]); exact rfl; exact tb rfl; exact rfl; exact tb rfl; exact rfl; exact rfl; exact rfl; exact rfl; exact rfl)
    intro b60
    refine TL.back (by (focus ((repeat (first | assumption | exact Ent.refl _ | apply Ent.tail)); done))) ?_
    (apply TA.one 22; kernel_rfl; exact rfl)
    (apply TL.append 1 (n := i) (m := 1) (cs := crsC ((l.take i).map toLk)) (news := crsC [toLk X]); exact rfl; exact rfl; exact tb rfl; exact rfl; exact tb rfl; exact rfl; exact rfl; exact rfl)
    · exact fun _ h => h
    · exact rfl
    · exact has_src_row 0 rfl rfl
    · exact crs_one _
    · show (i + 1) * 144 ≤ _; omega
    · show i + 1 ≤ maxLen; unfold maxLen; omega
    · exact fun _ => (rfl : _ = _ :: _ :: _)
    intro B2 k2 hk2
    have hcs : crsC ((l.take i).map toLk) ++ crsC [toLk X] = crsC ((l.take (i + 1)).map toLk) := by rw [List.take_add_one, hX]; simp
    rw [hcs]
    refine TL.back (by (focus ((repeat (first | assumption | exact Ent.refl _ | apply Ent.tail)); done))) ?_
    refine m_take (At.mk : At 23) ?_
    refine TA.done (by kernel_rfl) ?_
    refine m_run ?_
    refine TK.perm (Δ := own 48 15 (.slice B2 (i + 1) k2) (i + 1) (crsC ((l.take (i + 1)).map toLk)) :: row b60 (crsC [toLk X]) 48 :: Γ1) (.swap _ _ _) ?_
    exact IH (j - 1) _ _ (by omega) ⟨i + 1, B2, k2, _, by omega, .cons _ hS1, rfl, rfl, rfl, rfl, rfl, rfl, congrArg (Value.int .i64) (i64_succ i (by omega)), rfl⟩
  obtain rfl : i = l.length := by omega
  clear IH
  rw [List.take_length]
  have hLl : (l.map toLk).length = l.length := List.length_map ..
  have hLg : ∀ x ∈ l.map toLk, ∃ a b p d, x = giveC a b p d := fun x hx => by
    obtain ⟨c, _, rfl⟩ := List.mem_map.1 hx
    exact ⟨_, _, _, _, rfl⟩
  have hLb : ∀ (i : Nat) (x : Cr), (l.map toLk)[i]? = some x → linkB 7 1 x = true ∧ 0 ≤ x.dep ∧ x.dep ≤ 3 ∧ ∃ a b, x = giveC a b 7 x.dep := fun i x hx => by
    obtain ⟨c, _, rfl⟩ := List.mem_map.1 (List.mem_of_getElem? hx)
    exact ⟨linkB_give _ _ (dpt_in _), (dpt_in _).1, (dpt_in _).2, _, _, rfl⟩
  rw [← hLl] at h10 ⊢
  generalize l.map toLk = L at *
  clear hij hLl hs0
  have hm6 : has Γ1 (fun m => cellsAt m b6 0 more.cells) := has_sublist (up_cells _ _ _) hS1 (has_rows 0 rfl rfl)
  have hS0 : Γ0.Sublist (own 48 15 (.slice B L.length k) L.length (crsC L) :: Γ1) := .cons _ ((List.Sublist.cons _ (.refl _)).trans hS1)
  have hC : Crs B L (own 48 15 (.slice B L.length k) L.length (crsC L) :: Γ1) := toLk_crs (has_at (up_src _ _ _ _) 0 rfl fun _ h => own_src h) (by omega) hLg
  replace hm6 := has_tlg (K := own 48 15 (.slice B L.length k) L.length (crsC L)) hm6
  generalize own 48 15 (.slice B L.length k) L.length (crsC L) :: Γ1 = Γ2 at *
  clear hS1 Γ1
  refine m_run ?_
  generalize who % 6 = a
  generalize x % 6 = b
  (apply TL.callV; exact rfl; exact callB_of (by kernel_rfl); exact rfl; exact fun _ h => h)
  exact ofR_t B k L a 7 1 _ hC (by omega)
  rintro _ _ ⟨O, B15, k15, Γ3, hO, hOn, hS3, rfl, rfl⟩
  have hm6' : has Γ3 (fun m => cellsAt m b6 0 more.cells) := has_sublist (up_cells _ _ _) hS3 hm6
  have hC3 := hC.sub hS3
  have m0 : has Γ3 (fun m => cellAt m b6 0 (.int .u32 (more.iss : Int))) := has_imp hm6' fun m hm => by have := hm 0 _ rfl; simpa using this
  have m13 : has Γ3 (fun m => cellAt m b6 13 (.int .u32 (more.to : Int))) := has_imp hm6' fun m hm => by have := hm 13 _ rfl; simpa using this
  have m14 : has Γ3 (fun m => cellAt m b6 14 (.int .i64 more.dep)) := has_imp hm6' fun m hm => by have := hm 14 _ rfl; simpa using this
  refine m_run ?_
  refine TK.drawS mixed rfl ?_
  refine m_take (At.mk : At 1) ?_; refine m_take (At.mk : At 3) ?_; refine m_take (At.mk : At 4) ?_; refine m_take (At.mk : At 5) ?_; refine m_take (At.mk : At 6) ?_; refine m_take (At.mk : At 7) ?_; refine m_take (At.mk : At 8) ?_; refine m_take (At.mk : At 9) ?_; refine m_take (At.mk : At 10) ?_; refine m_take (At.mk : At 11) ?_; refine m_take (At.mk : At 12) ?_; refine m_take (At.mk : At 16) ?_
  refine TA.know (t := 74) (v := .int .u32 ((more.iss % 6 : Nat) : Int)) rfl ?_
  refine TA.know (t := 77) (v := .int .u32 ((more.to % 6 : Nat) : Int)) rfl ?_
  refine TA.know (t := 81) (v := .int .i64 (dpt more.dep)) rfl ?_
  (apply TA.one 0; kernel_rfl; exact rfl)
  (apply TL.buildSlice (l := []); exact rfl; exact tb rfl; exact rfl; exact tb rfl; exact rfl; exact rfl; exact rfl; exact rfl; exact rfl)
  intro b69
  refine TL.back (by (focus ((repeat (first | assumption | exact Ent.refl _ | apply Ent.tail)); done))) ?_
  (apply TA.one 2; kernel_rfl; exact rfl)
  (apply TL.append 0 (n := 0) (m := L.length) (cs := []) (news := crsC L); exact rfl; exact rfl; exact tb rfl; exact rfl; exact tb rfl; exact rfl; exact rfl; exact rfl)
  · exact fun _ h => own_row (n := 0) rfl (by decide) h
  · exact rfl
  · exact has_tls (has_tls hC3.src)
  · exact crs_one _
  · show (0 + L.length) * 144 ≤ _; omega
  · show 0 + L.length ≤ maxLen; unfold maxLen; omega
  · exact fun _ => (rfl : _ = _ :: _)
  intro B71 k71 hk71
  simp only [Nat.zero_add, List.nil_append] at hk71 ⊢
  refine TL.back (by (focus ((repeat (first | assumption | exact Ent.refl _ | apply Ent.tail)); done))) ?_
  (apply TA.one 13; kernel_rfl; exact rfl)
  (apply TL.callV; exact rfl; exact callB_of (by kernel_rfl); exact rfl; exact fun _ h => h)
  exact mkGive_t (more.iss % 6) (more.to % 6) 7 (dpt more.dep) _
  rintro _ _ ⟨rfl, rfl⟩
  refine TL.back (by (focus ((repeat (first | assumption | exact Ent.refl _ | apply Ent.tail)); done))) ?_
  (apply TA.one 14; kernel_rfl; exact rfl)
  (apply TL.buildSlice (l := crsC [toLk more]); exact rfl; exact tb rfl; exact rfl; exact tb rfl; exact rfl; exact rfl; exact rfl; exact rfl; exact rfl)
  intro b83
  refine TL.back (by (focus ((repeat (first | assumption | exact Ent.refl _ | apply Ent.tail)); done))) ?_
  (apply TA.one 15; kernel_rfl; exact rfl)
  (apply TL.append 1 (n := L.length) (m := 1) (cs := crsC L) (news := crsC [toLk more]); exact rfl; exact rfl; exact tb rfl; exact rfl; exact tb rfl; exact rfl; exact rfl; exact rfl)
  · exact fun _ h => h
  · exact rfl
  · exact has_src_row 0 rfl rfl
  · exact crs_one _
  · show (L.length + 1) * 144 ≤ _; omega
  · show L.length + 1 ≤ maxLen; unfold maxLen; omega
  · exact fun _ => (rfl : _ = _ :: _ :: _)
  intro B84 k84 hk84
  rw [show crsC L ++ crsC [toLk more] = crsC (L ++ [toLk more]) by simp, show L.length + 1 = (L ++ [toLk more]).length by simp]
  refine TL.back (by (focus ((repeat (first | assumption | exact Ent.refl _ | apply Ent.tail)); done))) ?_
  (apply TA.one 17; kernel_rfl; exact rfl)
  (apply TL.callV; exact rfl; exact callB_of (by kernel_rfl); exact rfl; exact fun _ h => h)
  refine ofR_t B84 k84 (L ++ [toLk more]) a 7 1 _ (toLk_crs (has_at (up_src _ _ _ _) 1 rfl fun _ h => own_src h) (by simp; omega) fun x hx => ?_) (by simp; omega)
  · rcases List.mem_append.1 hx with h | h
    · exact hLg x h
    · rw [List.mem_singleton.1 h]; exact ⟨_, _, _, _, rfl⟩
  rintro _ _ ⟨O2, B16, k16, Γ4, hO2, hOn2, hS4, rfl, rfl⟩
  have hS4' := (List.Sublist.cons _ (.cons _ (.refl _))).trans hS4
  clear hS4
  have hE : Ent (own 31 1 (.slice B16 O2.length k16) O2.length (u32s O2) :: Γ4) (own 31 1 (.slice B15 O.length k15) O.length (u32s O) :: Γ3) := fun m hm => all_sub (.cons _ hS4') hm
  refine TL.back hE ?_
  refine m_take (At.mk : At 18) ?_
  refine TA.done (by kernel_rfl) ?_
  have hsub1 : ∀ v ∈ O, v ∈ O2 := of_more (fun i x hx => ⟨x, by rw [List.getElem?_append_left (List.getElem?_eq_some_iff.1 hx).1]; exact hx, rfl, rfl, Int.le_refl _, (hLb i x hx).1⟩) hO hO2
  have u15 : has Γ4 (srcAt 1 B15 O.length (u32s O)) := has_sublist (up_src _ _ _ _) hS4' (has_at (up_src _ _ _ _) 0 rfl fun _ h => own_src h)
  have hC4 := hC3.sub ((List.Sublist.cons _ (.refl _)).trans hS4')
  have hS04 := (hS0.trans hS3).trans ((List.Sublist.cons _ (.refl _)).trans hS4')
  have u16 : has (own 31 1 (.slice B16 O2.length k16) O2.length (u32s O2) :: Γ4) (srcAt 1 B16 O2.length (u32s O2)) := has_at (up_src _ _ _ _) 0 rfl fun _ h => own_src h
  replace u15 := has_tls (K := own 31 1 (.slice B16 O2.length k16) O2.length (u32s O2)) u15
  replace hC4 := hC4.tl (H := own 31 1 (.slice B16 O2.length k16) O2.length (u32s O2))
  replace hS04 := List.Sublist.cons (own 31 1 (.slice B16 O2.length k16) O2.length (u32s O2)) hS04
  generalize own 31 1 (.slice B16 O2.length k16) O2.length (u32s O2) :: Γ4 = Γ5 at *
  clear hE hS4' hm6' m0 m13 m14 hC3 hm6 hS0 hS3 hC
  refine m_run ?_
  (apply TL.buildSlice (l := []); exact rfl; exact tb rfl; exact rfl; exact tb rfl; exact rfl; exact rfl; exact rfl; exact rfl; exact rfl)
  intro b87
  refine m_run ?_
  (apply TL.append 0 (n := 0) (m := L.length) (cs := []) (news := crsC L); exact rfl; exact rfl; exact tb rfl; exact rfl; exact tb rfl; exact rfl; exact rfl; exact rfl)
  · exact fun _ h => own_row (n := 0) rfl (by decide) h
  · exact rfl
  · exact has_tls hC4.src
  · exact crs_one _
  · show (0 + L.length) * 144 ≤ _; omega
  · show 0 + L.length ≤ maxLen; unfold maxLen; omega
  · exact fun _ => (rfl : _ = _ :: _)
  intro B17 k17 hk17
  simp only [Nat.zero_add, List.nil_append] at hk17 ⊢
  refine m_run ?_
  refine TK.cut (I := fun ρ' Γ' => ∃ (L' : List Cr), L'.length = L.length ∧ (∀ (i : Nat) (x : Cr), L[i]? = some x → ∃ y : Cr, L'[i]? = some y ∧ y.iss = x.iss ∧ y.to = x.to ∧ x.dep ≤ y.dep ∧ linkB 7 1 y = true) ∧ (∀ x ∈ L', ∃ a b p d, x = giveC a b p d) ∧ lk ρ' 11 = .slice B L.length k ∧ lk ρ' 13 = .int .u32 (a : Int) ∧ lk ρ' 14 = .int .u32 (b : Int) ∧ lk ρ' 15 = .slice B15 O.length k15 ∧ lk ρ' 16 = .slice B16 O2.length k16 ∧ lk ρ' 17 = .slice B17 L.length k17 ∧ Γ' = own 48 15 (.slice B17 L.length k17) L.length (crsC L') :: Γ5) ?_ ?_
  · intro k' hk'
    by_cases h0 : 0 < L.length
    · refine TK.mem fun m0 hm0 => ?_
      obtain ⟨g, rfl⟩ := own_addr hm0 h0
      clear hm0 m0
      have hj : at_ % L.length < L.length := Nat.mod_lt _ h0
      obtain ⟨X, hX⟩ : ∃ X, L[at_ % L.length]? = some X := ⟨L[at_ % L.length], List.getElem?_eq_getElem hj⟩
      obtain ⟨_, _, _, xa, xb, hXe⟩ := hLb _ _ hX
      refine m_run ?_
      refine TL.know (t := 95) (v := .int .i64 ((at_ : Nat) : Int)) (congrArg (Value.int .i64) (i64_in (by omega) (by omega))) ?_
      refine m_run ?_
      (apply TL.pv; exact rfl; (apply PV.remN (n := at_) (m := L.length); exact rfl; exact rfl; exact rfl; exact (by omega)))
      refine m_run ?_
      (apply TL.storeOwnF 0 (at_ % L.length * 15 + 14) (cs' := crsC (L.set (at_ % L.length) (giveC xa xb 7 3))); exact rfl; exact rfl; (exact m_val); exact rfl; exact tb rfl; exact rfl; exact rfl; exact (by omega); exact set_flat Cr.cells 15 (fun _ => rfl) _ _ L _ 14 X hX (by decide) (by rw [hXe]; rfl); exact rfl)
      refine m_run ?_
      refine hk' _ _ ⟨L.set (at_ % L.length) (giveC xa xb 7 3), by simp, fun i x hx => ?_, fun x hx => ?_, rfl, rfl, rfl, rfl, rfl, rfl, rfl⟩
      · rw [List.getElem?_set]
        by_cases hij : at_ % L.length = i
        · subst hij
          rw [hX] at hx; injection hx with hx
          rw [if_pos rfl, if_pos hj]
          obtain ⟨_, _, h3, _⟩ := hLb _ _ hX
          exact ⟨_, rfl, by rw [← hx, hXe]; rfl, by rw [← hx, hXe]; rfl, by rw [← hx]; exact h3, linkB_give _ _ ⟨by decide, by decide⟩⟩
        · rw [if_neg hij]
          exact ⟨x, hx, rfl, rfl, Int.le_refl _, (hLb i x hx).1⟩
      · rcases List.mem_or_eq_of_mem_set hx with h | h
        · exact hLg x h
        · exact ⟨_, _, _, _, h⟩
    · refine m_run ?_
      exact hk' _ _ ⟨L, rfl, fun i x hx => ⟨x, hx, rfl, rfl, Int.le_refl _, (hLb i x hx).1⟩, hLg, rfl, rfl, rfl, rfl, rfl, rfl, rfl⟩
  rintro ρ' _ ⟨L', hL'l, hL', hLg', e11, e13, e14, e15, e16, e17, rfl⟩
  rw [← hL'l] at e17 ⊢
  refine TK.know6 e11 e13 e14 e15 e16 e17 ?_
  refine m_run ?_
  (apply TL.callV; exact rfl; exact callB_of (by kernel_rfl); exact rfl; exact fun _ h => h)
  exact ofR_t B17 k17 L' a 7 1 _ (toLk_crs (has_at (up_src _ _ _ _) 0 rfl fun _ h => own_src h) (by omega) hLg') (by omega)
  rintro _ _ ⟨O3, B18, k18, Γ6, hO3, hOn3, hS6, rfl, rfl⟩
  have hsub2 : ∀ v ∈ O, v ∈ O3 := of_more hL' hO hO3
  have hS56 := (List.Sublist.cons _ (.refl _)).trans hS6
  clear hS6
  have v18 : has (own 31 1 (.slice B18 O3.length k18) O3.length (u32s O3) :: Γ6) (srcAt 1 B18 O3.length (u32s O3)) := has_at (up_src _ _ _ _) 0 rfl fun _ h => own_src h
  have v15 := has_tls (K := own 31 1 (.slice B18 O3.length k18) O3.length (u32s O3)) (has_sublist (up_src _ _ _ _) hS56 u15)
  have v16 := has_tls (K := own 31 1 (.slice B18 O3.length k18) O3.length (u32s O3)) (has_sublist (up_src _ _ _ _) hS56 u16)
  have hC6 := (hC4.sub hS56).tl (H := own 31 1 (.slice B18 O3.length k18) O3.length (u32s O3))
  have hS06 := (hS04.trans hS56).trans (.cons (own 31 1 (.slice B18 O3.length k18) O3.length (u32s O3)) (.refl _))
  generalize own 31 1 (.slice B18 O3.length k18) O3.length (u32s O3) :: Γ6 = Γ7 at *
  clear hS56 u15 u16 hC4 hS04
  refine m_run ?_
  apply TK.iter (fun j ρ' Γ' => ∃ i : Nat, i + j = O.length ∧ lk ρ' 11 = .slice B L.length k ∧ lk ρ' 13 = .int .u32 (a : Int) ∧ lk ρ' 14 = .int .u32 (b : Int) ∧ lk ρ' 15 = .slice B15 O.length k15 ∧ lk ρ' 16 = .slice B16 O2.length k16 ∧ lk ρ' 18 = .slice B18 O3.length k18 ∧ lk ρ' 19 = .int .i64 (i : Int) ∧ Γ' = Γ7) O.length
  · exact ⟨0, Nat.zero_add _, rfl, rfl, rfl, rfl, rfl, rfl, rfl, rfl⟩
  rintro j IH ρ' Γ7 ⟨i, hij, e11, e13, e14, e15, e16, e18, e19, rfl⟩
  refine TK.know7 e11 e13 e14 e15 e16 e18 e19 ?_
  by_cases hi : i < O.length
  · obtain ⟨v, hv⟩ : ∃ v, O[i]? = some v := ⟨O[i], List.getElem?_eq_getElem hi⟩
    have hvm := List.mem_of_getElem? hv
    refine TK.mem fun m0 hm0 => ?_
    obtain ⟨g, u, rfl⟩ := src_some (v15 m0 hm0) (by rw [u32s_len]; omega)
    clear hm0 m0
    have hcv := has_u32 v15 hv
    refine m_run ?_
    (apply TL.callV; exact rfl; exact callB_of (by kernel_rfl); exact rfl; exact fun _ h => h)
    exact has32_t B16 k16 O2 v _ v16 (by omega)
    rintro _ Γ7 ⟨rfl, rfl⟩
    rw [decide_eq_true (hsub1 v hvm)]
    refine m_run ?_
    (apply TL.callV; exact rfl; exact callB_of (by kernel_rfl); exact rfl; exact fun _ h => h)
    exact has32_t B18 k18 O3 v _ v18 (by omega)
    rintro _ Γ7 ⟨rfl, rfl⟩
    rw [decide_eq_true (hsub2 v hvm)]
    refine m_run ?_
    exact IH (j - 1) _ _ (by omega) ⟨i + 1, by omega, rfl, rfl, rfl, rfl, rfl, rfl, congrArg (Value.int .i64) (i64_succ i (by omega)), rfl⟩
  obtain rfl : i = O.length := by omega
  clear IH v16 v18
  refine m_run ?_
  (apply TL.callV; exact rfl; exact callB_of (by kernel_rfl); exact rfl; exact fun _ h => h)
  exact chainR_t B k L a 7 1 b _ hC6 (by omega)
  rintro _ Γ8 ⟨f, rfl, hS8, hfo, hf⟩
  refine m_run ?_
  (apply TL.callV; exact rfl; exact callB_of (by kernel_rfl); exact rfl; exact fun _ h => h)
  exact cutsR_t B k L a 7 1 b _ (hC6.sub hS8) (by omega)
  rintro _ _ ⟨Q, B22, k22, Γ9, hQ, _, hS9, rfl, rfl⟩
  have his := chain_is b hO
  rw [← hf, Option.isSome_map] at his
  have hrun : ∃ t, Rch.runW (linksOf L 7 1) (nxL L) (a, 3) ((f.map (·.w)).getD []) = some t ∧ (f.isSome = true → t.1 = b) := by
    cases f with
    | none => exact ⟨_, rfl, fun h => by cases h⟩
    | some y =>
      obtain ⟨t, h1, h2⟩ := chain_run hf.symm
      exact ⟨t, h1, fun _ => h2⟩
  have hQw : ∀ q ∈ Q, q ∈ (f.map (·.w)).getD [] := fun q hq => by
    have h := hQ.mem_iff.1 hq
    unfold cutsL at h
    rw [← hf] at h
    exact (List.mem_filter.1 h).1
  have hQ0 : f.isSome = false → Q = [] := fun h => by
    cases f with
    | none => exact List.eq_nil_iff_forall_not_mem.2 fun q hq => by cases hQw q hq
    | some y => cases h
  obtain ⟨WA, wc, hwv, hws⟩ := way_src hfo
  rw [hwv]
  have hwl : ((f.map (·.w)).getD []).length ≤ 3 := by rw [hf]; exact chainS_len
  have hQl : Q.length ≤ 3 := by
    have : (cutsL L a 7 1 b).length ≤ 3 := Nat.le_trans (List.length_filter_le _ _) chainS_len
    rw [hQ.length_eq]; exact this
  generalize (f.map (·.w)).getD [] = W at *
  generalize f.isSome = fb at *
  have w20 : has (own 3 1 (.slice B22 Q.length k22) Q.length (ints Q) :: Γ9) (srcAt 1 WA W.length (ints W)) := has_tls (has_sublist (up_src _ _ _ _) hS9 hws)
  have w22 : has (own 3 1 (.slice B22 Q.length k22) Q.length (ints Q) :: Γ9) (srcAt 1 B22 Q.length (ints Q)) := has_at (up_src _ _ _ _) 0 rfl fun _ h => own_src h
  have w15 := has_tls (K := own 3 1 (.slice B22 Q.length k22) Q.length (ints Q)) (has_sublist (up_src _ _ _ _) (hS8.trans hS9) v15)
  have w11 := (hC6.sub (hS8.trans hS9)).tl (H := own 3 1 (.slice B22 Q.length k22) Q.length (ints Q))
  have hS10 := (hS06.trans (hS8.trans hS9)).trans (.cons (own 3 1 (.slice B22 Q.length k22) Q.length (ints Q)) (.refl _))
  generalize own 3 1 (.slice B22 Q.length k22) Q.length (ints Q) :: Γ9 = Γ10 at *
  clear hS8 hS9 hC6 hfo hws hwv v15 hf hS06 hQ
  refine m_rrun ?_
  refine TL.nil ?_
  refine TK.seq ?_
  refine TK.cut (I := fun ρ' Γ' => lk ρ' 11 = .slice B L.length k ∧ lk ρ' 13 = .int .u32 (a : Int) ∧ lk ρ' 14 = .int .u32 (b : Int) ∧ lk ρ' 20 = .slice WA W.length wc ∧ lk ρ' 21 = .bool fb ∧ lk ρ' 22 = .slice B22 Q.length k22 ∧ lk ρ' 150 = .bool false ∧ Γ' = Γ10) ?_ ?_
  · intro k' hk'
    refine m_run ?_
    (apply TL.callV; exact rfl; exact callB_of (by kernel_rfl); exact rfl; exact fun _ h => h)
    exact has32_t B15 k15 O b _ w15 (by omega)
    rintro _ Γ10 ⟨rfl, rfl⟩
    rw [← his]
    refine m_run ?_
    refine TL.know (t := 141) (v := .bool false) (congrArg Value.bool (by cases fb <;> rfl)) ?_
    cases fb with
    | true =>
      refine m_run ?_
      exact hk' _ _ ⟨rfl, rfl, rfl, rfl, rfl, rfl, rfl, rfl⟩
    | false =>
      obtain rfl := hQ0 rfl
      refine m_run ?_
      exact hk' _ _ ⟨rfl, rfl, rfl, rfl, rfl, rfl, rfl, rfl⟩
  rintro ρ' Γ10 ⟨e11, e13, e14, e20, e21, e22, e150, rfl⟩
  refine TK.know7 e11 e13 e14 e20 e21 e22 e150 ?_
  obtain ⟨t, hr, ht⟩ := hrun
  refine m_run ?_
  apply TK.iter (fun j ρ' Γ' => ∃ (i : Nat) (s : Rch.Sp), i + j = W.length ∧ Rch.runW (linksOf L 7 1) (nxL L) s (W.drop i) = some t ∧ s.2 ≤ 3 ∧ lk ρ' 11 = .slice B L.length k ∧ lk ρ' 14 = .int .u32 (b : Int) ∧ lk ρ' 20 = .slice WA W.length wc ∧ lk ρ' 21 = .bool fb ∧ lk ρ' 22 = .slice B22 Q.length k22 ∧ lk ρ' 23 = .int .u32 (s.1 : Int) ∧ lk ρ' 24 = .int .i64 (s.2 : Int) ∧ lk ρ' 25 = .int .i64 (i : Int) ∧ Γ' = Γ10) W.length
  · exact ⟨0, (a, 3), Nat.zero_add _, hr, Nat.le_refl _, rfl, rfl, rfl, rfl, rfl, rfl, rfl, rfl, rfl⟩
  rintro j IH ρ' Γ10 ⟨i, ⟨s1, s2⟩, hij, hri, hs2, e11, e14, e20, e21, e22, e23, e24, e25, rfl⟩
  refine TK.know8 e11 e14 e20 e21 e22 e23 e24 e25 ?_
  by_cases hi : i < W.length
  · obtain ⟨v, hv⟩ : ∃ v, W[i]? = some v := ⟨W[i], List.getElem?_eq_getElem hi⟩
    obtain ⟨X, hX, hXi, hs0, hrn⟩ := run_step hri hv
    obtain ⟨_, hd0, hd3, _⟩ := hLb v X hX
    simp only at hXi hs0 hrn
    have hvl : v < L.length := (List.getElem?_eq_some_iff.1 hX).1
    refine TK.mem fun m0 hm0 => ?_
    obtain ⟨g, u, rfl⟩ := src_some (w20 m0 hm0) (by rw [ints_len]; omega)
    obtain ⟨g2, u2, rfl⟩ := src_some (w11.src m0 hm0) (by rw [crsC_len]; omega)
    clear hm0 m0
    have hcv := has_ints w20 hv
    have q0 : has Γ10 (fun m => cellAt m g2 (u2 + v * 15) (.int .u32 (X.iss : Int))) := cr_cell w11.src hX 0 rfl
    have q8 : has Γ10 (fun m => cellAt m g2 (u2 + v * 15 + 13) (.int .u32 (X.to : Int))) := cr_cell w11.src hX 13 rfl
    have q9 : has Γ10 (fun m => cellAt m g2 (u2 + v * 15 + 14) (.int .i64 X.dep)) := cr_cell w11.src hX 14 rfl
    refine m_run ?_
    have hmin : (if X.dep < IntKind.i64.wrap ((s2 : Int) - 1) then X.dep else IntKind.i64.wrap ((s2 : Int) - 1)) = ((min (s2 - 1) X.dep.toNat : Nat) : Int) := by
      rw [i64_in (by omega) (by omega)]
      split <;> omega
    exact IH (j - 1) _ _ (by omega) ⟨i + 1, (X.to, min (s2 - 1) X.dep.toNat), by omega, hrn, by show min (s2 - 1) _ ≤ 3; omega, rfl, rfl, rfl, rfl, rfl, rfl, congrArg (Value.int .i64) hmin, congrArg (Value.int .i64) (i64_succ i (by omega)), rfl⟩
  obtain rfl : i = W.length := by omega
  clear IH
  rw [List.drop_length] at hri
  have hst : fb = true → s1 = b := fun h => by
    have := ht h
    simp only [Rch.runW, Option.some.injEq] at hri
    rw [← hri] at this
    exact this
  clear hri hr ht t
  refine m_run ?_
  refine TL.cut (I := fun ρ' Γ' => lk ρ' 20 = .slice WA W.length wc ∧ lk ρ' 22 = .slice B22 Q.length k22 ∧ lk ρ' 212 = .bool false ∧ Γ' = Γ10) ?_ ?_
  · intro k' hk'
    cases fb with
    | true =>
      obtain rfl := hst rfl
      refine m_run ?_
      exact hk' _ _ ⟨rfl, rfl, congrArg Value.bool (bne_self_eq_false _), rfl⟩
    | false =>
      refine m_run ?_
      exact hk' _ _ ⟨rfl, rfl, rfl, rfl⟩
  rintro ρ' Γ10 ⟨e20, e22, e212, rfl⟩
  refine TK.know3 e20 e22 e212 ?_
  refine m_run ?_
  apply TK.iter (fun j ρ' Γ' => ∃ i : Nat, i + j = Q.length ∧ lk ρ' 20 = .slice WA W.length wc ∧ lk ρ' 22 = .slice B22 Q.length k22 ∧ lk ρ' 26 = .int .i64 (i : Int) ∧ Γ' = Γ10) Q.length
  · exact ⟨0, Nat.zero_add _, rfl, rfl, rfl, rfl⟩
  rintro j IH ρ' Γ10 ⟨i, hij, e20, e22, e26, rfl⟩
  refine TK.know3 e20 e22 e26 ?_
  by_cases hi : i < Q.length
  · obtain ⟨q, hq⟩ : ∃ q, Q[i]? = some q := ⟨Q[i], List.getElem?_eq_getElem hi⟩
    have hqW := hQw q (List.mem_of_getElem? hq)
    refine m_run ?_
    apply TK.iter (fun j ρ' Γ' => ∃ n : Nat, n + j = W.length ∧ lk ρ' 20 = .slice WA W.length wc ∧ lk ρ' 22 = .slice B22 Q.length k22 ∧ lk ρ' 26 = .int .i64 (i : Int) ∧ lk ρ' 27 = .bool (decide (q ∈ W.take n)) ∧ lk ρ' 28 = .int .i64 (n : Int) ∧ Γ' = Γ10) W.length
    · exact ⟨0, Nat.zero_add _, rfl, rfl, rfl, rfl, rfl, rfl⟩
    rintro j' IH2 ρ' Γ10 ⟨n, hnj, e20, e22, e26, e27, e28, rfl⟩
    refine TK.know5 e20 e22 e26 e27 e28 ?_
    by_cases hn : n < W.length
    · obtain ⟨v, hv⟩ : ∃ v, W[n]? = some v := ⟨W[n], List.getElem?_eq_getElem hn⟩
      have htk : decide (q ∈ W.take (n + 1)) = (decide (q ∈ W.take n) || decide (v = q)) := by
        rw [List.take_add_one, hv, Bool.eq_iff_iff]
        simp only [Option.toList_some, List.mem_append, List.mem_singleton, decide_eq_true_iff, Bool.or_eq_true]
        exact or_congr_right ⟨Eq.symm, Eq.symm⟩
      refine TK.mem fun m0 hm0 => ?_
      obtain ⟨g, u, rfl⟩ := src_some (w20 m0 hm0) (by rw [ints_len]; omega)
      obtain ⟨g2, u2, rfl⟩ := src_some (w22 m0 hm0) (by rw [ints_len]; omega)
      clear hm0 m0
      have hcv := has_ints w20 hv
      have hcq := has_ints w22 hq
      refine m_run ?_
      refine TK.drawS mixed rfl ?_
      generalize decide (q ∈ W.take n) = on at *
      cases on with
      | true =>
        refine m_take (At.mk : At 0) ?_; refine m_take (At.mk : At 1) ?_; refine m_take (At.mk : At 2) ?_; refine m_take (At.mk : At 3) ?_; refine m_take (At.mk : At 4) ?_; refine m_take (At.mk : At 5) ?_; refine m_take (At.mk : At 6) ?_; refine m_take (At.mk : At 7) ?_; refine m_take (At.mk : At 8) ?_; refine m_take (At.mk : At 9) ?_; refine m_take (At.mk : At 10) ?_; refine m_take (At.mk : At 11) ?_; refine m_take (At.mk : At 12) ?_
        refine TA.done (by kernel_rfl) ?_
        refine m_run ?_
        exact IH2 (j' - 1) _ _ (by omega) ⟨n + 1, by omega, rfl, rfl, rfl, by rw [htk]; rfl, congrArg (Value.int .i64) (i64_succ n (by omega)), rfl⟩
      | false =>
        refine m_take (At.mk : At 0) ?_; refine m_take (At.mk : At 1) ?_; refine m_take (At.mk : At 2) ?_; refine m_take (At.mk : At 3) ?_; refine m_take (At.mk : At 4) ?_; refine m_take (At.mk : At 5) ?_; refine m_take (At.mk : At 6) ?_; refine m_take (At.mk : At 7) ?_; refine m_take (At.mk : At 8) ?_; refine m_take (At.mk : At 9) ?_; refine m_take (At.mk : At 10) ?_
        refine TA.know (t := 235) (v := .bool (decide (v = q))) (congrArg Value.bool (by rw [Bool.eq_iff_iff, beq_iff_eq, decide_eq_true_iff]; omega)) ?_
        refine m_take (At.mk : At 11) ?_; refine m_take (At.mk : At 12) ?_
        refine TA.done (by kernel_rfl) ?_
        refine m_run ?_
        exact IH2 (j' - 1) _ _ (by omega) ⟨n + 1, by omega, rfl, rfl, rfl, by rw [htk]; rfl, congrArg (Value.int .i64) (i64_succ n (by omega)), rfl⟩
    obtain rfl : n = W.length := by omega
    refine TK.know (t := 27) (v := .bool true) (congrArg Value.bool (decide_eq_true (by rw [List.take_length]; exact hqW))) ?_
    refine m_run ?_
    exact IH (j - 1) _ _ (by omega) ⟨i + 1, by omega, rfl, rfl, congrArg (Value.int .i64) (i64_succ i (by omega)), rfl⟩
  obtain rfl : i = Q.length := by omega
  refine m_run ?_
  (apply TL.callV; exact rfl; exact callB_of (by kernel_rfl); exact rfl; exact fun _ h => h)
  exact works_t _
  rintro _ Γ11 ⟨rfl, hS11⟩
  refine m_run ?_
  (apply TK.retS1; exact rfl; exact rfl; (exact m_val))
  exact ⟨_, rfl, rfl, rfl⟩
  exact hS10.trans hS11
end Go.Proofs.Ythbcfamfaicneaa.E
