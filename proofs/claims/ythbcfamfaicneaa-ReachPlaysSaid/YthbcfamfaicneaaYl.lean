/- Links, plainly; which they are, as the program finds them. -/
import Derived.Test.YthbcfamfaicneaaYj
import Derived.Test.YthbcfamfaicneaaYk
import Derived.Test.YthbcfamfaicneaaSs
import Derived.Test.YthbcfamfaicneaaSza
namespace Go.Proofs.Ythbcfamfaicneaa.E
open Go Go.RowKit Go.Proofs
attribute [local irreducible] TK TL TQ TA TB Fn PV
abbrev ints (w : List Nat) : List Value := w.map fun n : Nat => Value.int .i64 (n : Int)
theorem ints_len (w : List Nat) : (ints w).length = w.length := by simp
theorem ints_one (w : List Nat) : ∀ u ∈ ints w, u.oneCell' = true := by
  intro u hu
  obtain ⟨n, _, rfl⟩ := List.mem_map.1 hu
  rfl
theorem has_ints {Γ : List HP} {b o n i x : Nat} {l : List Nat} (h : has Γ (srcAt 1 (some ⟨b, o, none⟩) n (ints l))) (hi : l[i]? = some x) : has Γ (fun m => cellAt m b (o + i) (.int .i64 (x : Int))) := fun m hm => by
  rcases (h m hm).2 with h | ⟨b', o', e, h⟩
  · have : l = [] := by simpa using h
    subst this; simp at hi
  · injection e with e; injection e with e1 e2 _
    subst e1; subst e2
    exact h i _ (by simp [hi])
abbrev crsC (l : List Cr) : List Value := l.flatMap Cr.cells
theorem crsC_len (l : List Cr) : (crsC l).length = l.length * 15 := by
  induction l with
  | nil => rfl
  | cons x l ih => rw [show crsC (x :: l) = x.cells ++ crsC l from rfl, List.length_append, ih, List.length_cons, show x.cells.length = 15 from rfl]; omega
/-- Credentials that a call has at hand. -/
structure Crs (A : Option Addr) (l : List Cr) (Γ : List HP) : Prop where
  src : has Γ (srcAt 15 A l.length (crsC l))
  ok : ∀ x ∈ l, x.ok Γ
  few : ∀ x ∈ l, x.few
  len : l.length ≤ 100000
theorem Crs.tl {A : Option Addr} {l : List Cr} {Γ : List HP} {H : HP} (h : Crs A l Γ) : Crs A l (H :: Γ) := ⟨has_tls h.src, fun x hx => Cr.ok_tl (h.ok x hx), h.few, h.len⟩
def linkB (p : Nat) (args : Int) (c : Cr) : Bool := decide (c.kind = 2) && decide (c.p = p) && decide (c.args = args) && mayCr c && (predS p args true 0).2
def linksOf (l : List Cr) (p : Nat) (args : Int) : List Nat := (l.zipIdx.filter fun x => linkB p args x.1).map (·.2)
def nxL (l : List Cr) : Rch.Sp → Nat → Option Rch.Sp := fun s i => match l[i]? with
  | some c => if c.iss = s.1 ∧ 0 < s.2 then some (c.to, min (s.2 - 1) c.dep.toNat) else none
  | none => none
theorem nxL_law (l : List Cr) : Rch.Law (nxL l) where
  down s i t h := by
    unfold nxL at h
    split at h
    · split at h
      · injection h with h
        rw [← h]
        show min (s.2 - 1) _ < s.2
        omega
      · cases h
    · cases h
  one s i t s' t' h h' := by
    unfold nxL at h h'
    split at h
    · rename_i c hc
      split at h
      · rename_i h1
        injection h with h
        rw [hc] at h'
        simp only at h'
        split at h'
        · rename_i h2
          injection h' with h'
          rw [← h, ← h']
          exact ⟨h1.1.symm.trans h2.1, rfl⟩
        · cases h'
      · cases h
    · cases h
  more a k m i t h hk := by
    unfold nxL at h ⊢
    split at h
    · rename_i c hc
      split at h
      · rename_i h1
        injection h with h
        simp only at h1 ⊢
        rw [if_pos ⟨h1.1, by omega⟩, ← h]
        refine ⟨_, rfl, ?_⟩
        show min (k - 1) _ ≤ min (m - 1) _
        omega
      · cases h
    · cases h
theorem linksOf_take {l : List Cr} {p : Nat} {args : Int} {i : Nat} {x : Cr} (h : l[i]? = some x) : linksOf (l.take (i + 1)) p args = linksOf (l.take i) p args ++ (if linkB p args x then [i] else []) := by
  have hi : i < l.length := (List.getElem?_eq_some_iff.1 h).1
  unfold linksOf
  rw [List.take_add_one, h, Option.toList_some, List.zipIdx_append, List.filter_append, List.map_append]
  congr 1
  simp only [List.zipIdx_cons, List.zipIdx_nil, List.length_take, Nat.min_eq_left (Nat.le_of_lt hi), Nat.zero_add, List.filter_cons, List.filter_nil]
  split <;> rfl
theorem linksOf_mem {l : List Cr} {p : Nat} {args : Int} {i : Nat} : i ∈ linksOf l p args ↔ ∃ x, l[i]? = some x ∧ linkB p args x = true := by
  unfold linksOf
  simp only [List.mem_map, List.mem_filter, Prod.exists]
  constructor
  · rintro ⟨x, j, ⟨h1, h2⟩, rfl⟩
    exact ⟨x, by simpa using List.mem_zipIdx_iff_getElem?.1 h1, h2⟩
  · rintro ⟨x, h1, h2⟩
    exact ⟨x, i, ⟨List.mem_zipIdx_iff_getElem?.2 h1, h2⟩, rfl⟩
theorem linkB_dep {p : Nat} {args : Int} {x : Cr} (h : linkB p args x = true) : 0 ≤ x.dep ∧ x.dep ≤ 3 := by
  unfold linkB mayCr giveB at h
  simp only [Bool.and_eq_true, Bool.or_eq_true, decide_eq_true_eq] at h
  obtain ⟨⟨⟨⟨h1, _⟩, _⟩, _, h2⟩, _⟩ := h
  rcases h2 with ⟨h3, _⟩ | ⟨_, h3⟩
  · omega
  · exact ⟨h3.1.2, h3.2⟩
theorem linksOf_no {l : List Cr} {p : Nat} {args : Int} (h : (predS p args true 0).2 = false) : linksOf l p args = [] := by
  unfold linksOf
  rw [List.map_eq_nil_iff, List.filter_eq_nil_iff]
  intro x _
  unfold linkB
  rw [h]
  simp
theorem linksOf_len (l : List Cr) (p : Nat) (args : Int) : (linksOf l p args).length ≤ l.length := by
  unfold linksOf
  rw [List.length_map]
  exact Nat.le_trans (List.length_filter_le _ _) (by simp)
set_option maxRecDepth 100000 in
set_option maxHeartbeats 8000000 in
theorem of_t (A : Option Addr) (c : Nat) (l : List Cr) (p : Nat) (args : Int) (Γ : List HP) (h : Crs A l Γ) :
    FnV Try.prog 34 [.slice A l.length c, .int .u32 (p : Int), .int .i64 args] Γ fun v Γ' => ∃ B k, (linksOf l p args).length ≤ k ∧ v = .agg #[.slice A l.length c, .slice B (linksOf l p args).length k, .bool (predS p args true 0).2] ∧ Γ' = own 3 1 (.slice B (linksOf l p args).length k) (linksOf l p args).length (ints (linksOf l p args)) :: Γ := by
  refine Fn.enter Try.func34 rfl rfl rfl fun E => ?_
  have hlen := h.len
  refine m_run ?_
  (apply TL.alloc; exact rfl; exact tb rfl; exact (rfl : _ = [_, _, _]))
  intro b6
  refine m_run ?_
  (apply TL.pv; exact rfl; (apply PV.build tabs; exact rfl; exact rfl; exact rfl; exact rfl; exact rfl; exact (rfl : _ = ([.slice A l.length c, .slice none 0 0, .bool false] : List Value))))
  (apply TL.alloc; exact rfl; exact tb rfl; exact (rfl : _ = [_, _, _]))
  intro b7
  refine m_run ?_
  (apply TL.callV; exact rfl; exact callB_of (by kernel_rfl); exact rfl; exact fun _ h => h)
  exact pred_t p args true 0 _
  rintro _ _ ⟨rfl, rfl⟩
  cases hp : (predS p args true 0).2 with
  | false =>
    refine m_run ?_
    rw [linksOf_no hp]
    refine TK.free (H := own 3 1 (.slice none 0 0) 0 []) (fun m hm => own_nil _ _ hm) ?_
    (apply TK.retRow (i := 2) (Δ := own 3 1 (.slice none 0 0) 0 [] :: Γ); exact rfl; exact rfl; exact rfl; exact rfl; exact tb rfl; exact rfl; exact (rfl : _ = [_, _, _]); exact rfl)
    · exact ⟨_, rfl, none, 0, Nat.le_refl _, rfl, rfl⟩
    · (repeat (first | exact List.Sublist.refl _ | apply List.Sublist.cons_cons | apply List.Sublist.cons))
  | true =>
  refine m_run ?_
  refine TK.free (H := own 3 1 (.slice none 0 0) 0 []) (fun m hm => own_nil _ _ hm) ?_
  apply TK.iter (fun j ρ' Γ' => ∃ (i : Nat) (B : Option Addr) (k : Nat), l.length = i + j ∧ (linksOf (l.take i) p args).length ≤ k ∧ lk ρ' 1 = .int .u32 (p : Int) ∧ lk ρ' 2 = .int .i64 args ∧ lk ρ' 6 = .pointer (some ⟨b6, 0, none⟩) ∧ lk ρ' 7 = .pointer (some ⟨b7, 0, none⟩) ∧ lk ρ' 23 = .slice A l.length c ∧ lk ρ' 24 = .int .i64 (l.length : Int) ∧ lk ρ' 25 = .int .i64 (i : Int) ∧ Γ' = own 3 1 (.slice B (linksOf (l.take i) p args).length k) (linksOf (l.take i) p args).length (ints (linksOf (l.take i) p args)) :: row b7 [.slice A l.length c, .slice B (linksOf (l.take i) p args).length k, .bool true] 82 :: row b6 [.slice none 0 0, .slice none 0 0, .bool false] 82 :: Γ) l.length
  · exact ⟨0, none, 0, by omega, Nat.le_refl _, rfl, rfl, rfl, rfl, rfl, rfl, rfl, rfl⟩
  rintro j IH ρ' _ ⟨i, B, k, hj, hk, e1, e2, e6, e7, e23, e24, e25, rfl⟩
  refine TK.know7 e1 e2 e6 e7 e23 e24 e25 ?_
  by_cases hi : i < l.length
  · obtain ⟨x, hx⟩ : ∃ x, l[i]? = some x := ⟨l[i], List.getElem?_eq_getElem hi⟩
    have hxm := List.mem_of_getElem? hx
    have hxo := h.ok x hxm
    have hxf := h.few x hxm
    have hKl := linksOf_len (l.take i) p args
    rw [List.length_take, Nat.min_eq_left (Nat.le_of_lt hi)] at hKl
    have hsn := linksOf_take (p := p) (args := args) hx
    generalize linksOf (l.take i) p args = K at *
    refine TK.mem fun m0 hm0 => ?_
    obtain ⟨g, u, rfl⟩ := src_some ((has_tls (has_tls (has_tls h.src)) : has (_ :: _ :: _ :: Γ) _) m0 hm0) (by rw [crsC_len]; omega)
    clear hm0 m0
    have hel : has Γ (fun m => cellsAt m g (u + i * 15) [.int .u32 (x.iss : Int), .int .u64 (x.ser : Int), .int .u64 (x.frm : Int), .int .u64 (x.til : Int), .int .u8 (x.kind : Int), .bool x.r.h.s, .bool x.r.h.w.v, .int .u32 (x.r.h.w.n : Int), .int .u32 (x.r.h.a.p : Int), .slice x.r.h.a.A x.r.h.a.l.length x.r.h.a.c, .slice x.r.A x.r.l.length x.r.c, .int .u32 (x.p : Int), .int .i64 x.args, .int .u32 (x.to : Int), .int .i64 x.dep]) := has_el (sz := 15) (f := Cr.cells) (fun _ => rfl) (by decide) h.src hx
    refine m_run ?_
    (apply TL.alloc; exact rfl; exact tb rfl; exact (rfl : _ = [_, _, _, _, _, _, _, _, _, _, _, _, _, _, _]))
    intro b9
    refine m_rrun ?_
    refine TL.nil ?_
    refine TK.imp (Δ := crRow b9 x :: own 3 1 (.slice B K.length k) K.length (ints K) :: row b7 [.slice (some ⟨g, u, none⟩) l.length c, .slice B K.length k, .bool true] 82 :: row b6 [.slice none 0 0, .slice none 0 0, .bool false] 82 :: Γ) (fun _ h => h) ?_
    have hb9 : has (crRow b9 x :: own 3 1 (.slice B K.length k) K.length (ints K) :: row b7 [.slice (some ⟨g, u, none⟩) l.length c, .slice B K.length k, .bool true] 82 :: row b6 [.slice none 0 0, .slice none 0 0, .bool false] 82 :: Γ) (fun m => cellsAt m b9 0 x.cells) := has_rows 0 rfl rfl
    by_cases h1 : x.kind = 2
    rotate_left
    · have hl : linkB p args x = false := by simp [linkB, h1]
      refine m_run ?_
      refine TK.drop ?_
      exact IH (j - 1) _ _ (by omega) ⟨i + 1, B, k, by omega, by rw [hsn, hl]; simpa using hk, rfl, rfl, rfl, rfl, rfl, rfl, congrArg (Value.int .i64) (i64_succ i (by omega)), by rw [hsn, hl]; simp⟩
    by_cases h2 : x.p = p
    rotate_left
    · have hl : linkB p args x = false := by simp [linkB, h2]
      refine m_run ?_
      refine TK.drop ?_
      exact IH (j - 1) _ _ (by omega) ⟨i + 1, B, k, by omega, by rw [hsn, hl]; simpa using hk, rfl, rfl, rfl, rfl, rfl, rfl, congrArg (Value.int .i64) (i64_succ i (by omega)), by rw [hsn, hl]; simp⟩
    by_cases h3 : x.args = args
    rotate_left
    · have hl : linkB p args x = false := by simp [linkB, h3]
      have h3' : (x.args == args) = false := by simpa using h3
      refine m_run ?_
      refine TK.drop ?_
      exact IH (j - 1) _ _ (by omega) ⟨i + 1, B, k, by omega, by rw [hsn, hl]; simpa using hk, rfl, rfl, rfl, rfl, rfl, rfl, congrArg (Value.int .i64) (i64_succ i (by omega)), by rw [hsn, hl]; simp⟩
    have h3' : (x.args == args) = true := by simpa using h3
    refine m_run ?_
    (apply TL.callV; exact rfl; exact callB_of (by kernel_rfl); exact rfl; exact fun _ h => h)
    exact credMay_t x _ (Cr.ok_tl (Cr.ok_tl (Cr.ok_tl (Cr.ok_tl hxo)))) hxf
    rintro _ _ ⟨rfl, rfl⟩
    cases hm : mayCr x with
    | false =>
      have hl : linkB p args x = false := by simp [linkB, hm]
      refine m_run ?_
      refine TK.drop ?_
      exact IH (j - 1) _ _ (by omega) ⟨i + 1, B, k, by omega, by rw [hsn, hl]; simpa using hk, rfl, rfl, rfl, rfl, rfl, rfl, congrArg (Value.int .i64) (i64_succ i (by omega)), by rw [hsn, hl]; simp⟩
    | true =>
    have hl : linkB p args x = true := by simp [linkB, h1, h2, h3, hm, hp]
    refine m_run ?_
    (apply TL.buildSlice (l := ints [i]); exact rfl; exact tb rfl; exact rfl; exact tb rfl; exact rfl; exact rfl; exact rfl; exact rfl; exact rfl)
    intro b52
    refine m_run ?_
    (apply TL.append 2; exact rfl; exact rfl; exact tb rfl; exact rfl; exact tb rfl; exact rfl; exact rfl; exact rfl)
    · exact fun _ h => h
    · exact rfl
    · exact has_src_row 0 rfl rfl
    · exact ints_one [i]
    · show (K.length + 1) * 8 ≤ _; omega
    · show K.length + 1 ≤ maxLen; unfold maxLen; omega
    · exact fun _ => (rfl : _ = _ :: _ :: _ :: _)
    intro B2 k2 hk2
    rw [show ints K ++ ints [i] = ints (K ++ [i]) by simp, show K.length + 1 = (K ++ [i]).length by simp] at *
    refine m_run ?_
    refine TK.drop ?_
    refine TK.drop ?_
    exact IH (j - 1) _ _ (by omega) ⟨i + 1, B2, k2, by omega, by rw [hsn, hl]; exact hk2, rfl, rfl, rfl, rfl, rfl, rfl, congrArg (Value.int .i64) (i64_succ i (by omega)), by rw [hsn, hl]; rfl⟩
  · obtain rfl : i = l.length := by omega
    rw [List.take_length] at hk ⊢
    refine m_run ?_
    (apply TK.retRow (i := 2) (Δ := own 3 1 (.slice B (linksOf l p args).length k) (linksOf l p args).length (ints (linksOf l p args)) :: Γ); exact rfl; exact rfl; exact rfl; exact rfl; exact tb rfl; exact rfl; exact (rfl : _ = [_, _, _]); exact rfl)
    · exact ⟨_, rfl, B, k, hk, rfl, rfl⟩
    · (repeat (first | exact List.Sublist.refl _ | apply List.Sublist.cons_cons | apply List.Sublist.cons))
end Go.Proofs.Ythbcfamfaicneaa.E
