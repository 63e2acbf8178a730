/- Lengths of facts: Arities, as the program and the document tell it, walked. -/
import Derived.Test.YtndmjpceocecdaaUk
namespace Go.Proofs.Ytndmjpceocecdaa.E
open Go Go.RowKit Go.Proofs
attribute [local irreducible] TK TL TQ TA Fn PV
abbrev fcsC (l : List Fct) : List Value := l.flatMap Fct.cells
theorem fcsC_len (l : List Fct) : (fcsC l).length = l.length * 2 := flat_len (f := Fct.cells) (sz := 2) (fun _ => rfl) l
theorem src_block {A : Option Addr} {n c e sz : Nat} {cs : List Value} {m : Mem} (h : own e sz (.slice A n c) n cs m) (h0 : 0 < n) : ∃ g, A = some ⟨g, 0, none⟩ := by
  obtain ⟨_, ⟨_, h, _⟩ | ⟨g, cap, cur, hv, _⟩⟩ := h
  · omega
  · injection hv with hv _ _
    exact ⟨g, hv⟩
/-- What Arities answers. -/
def ArIs (L : List (Nat × Nat)) (fs : List Fct) (v : Value) : Prop := ∃ (n : Nat) (e : Int), v = .tuple #[.int .i64 (n : Int), .int .i64 e] ∧ ResA L fs n e
set_option maxRecDepth 100000 in
set_option maxHeartbeats 4000000 in
theorem arities_t (A F : Option Addr) (cc fc : Nat) (l : List Cl) (fs : List Fct) (Γ : List HP) (h : clsOk A l Γ) (hf : has Γ (srcAt 2 F fs.length (fcsC fs))) (hn : l.length ≤ 1000000) (hfn : fs.length ≤ 1000000) :
    FnV Try.prog 18 [.slice A l.length cc, .slice F fs.length fc] Γ fun v Γ' => ((∃ (n e : Int), v = .tuple #[.int .i64 n, .int .i64 e]) ∧ (Cons (atsL l) → ArIs (atsL l) fs v)) ∧ Γ' = Γ := by
  refine Fn.enter Try.func18 rfl rfl rfl fun E => ?_
  refine m_run ?_
  (apply TL.makeMap u32N lenN; exact rfl)
  intro mb
  refine m_run ?_
  apply TK.iter (fun j ρ' Γ' => ∃ (i : Nat) (es : List (Nat × Nat)), l.length = i + j ∧ Says es (atsL (l.take i)) ∧ lk ρ' 1 = .slice F fs.length fc ∧ lk ρ' 6 = .map (some mb) ∧ lk ρ' 12 = .slice A l.length cc ∧ lk ρ' 13 = .int .i64 (l.length : Int) ∧ lk ρ' 14 = .int .i64 (i : Int) ∧ Γ' = mapA u32N lenN mb es :: Γ) l.length
  · exact ⟨0, [], by omega, fun q => rfl, rfl, rfl, rfl, rfl, rfl, rfl⟩
  rintro j IH ρ' _ ⟨i, es, hj, hS, e1, e6, e12, e13, e14, rfl⟩
  refine TK.know5 e1 e6 e12 e13 e14 ?_
  by_cases hi : i < l.length
  · obtain ⟨c, hc⟩ : ∃ c, l[i]? = some c := ⟨l[i], List.getElem?_eq_getElem hi⟩
    obtain ⟨hco, hcs⟩ := h.2 c (List.mem_of_getElem? hc)
    refine TK.mem fun m0 hm0 => ?_
    obtain ⟨b, o, rfl⟩ := src_some (has_tls h.1 m0 hm0) (by rw [clsC_len]; omega)
    clear hm0 m0
    have hel := has_el (sz := 3) (f := Cl.cells) (fun _ => rfl) (by decide) h.1 hc
    refine m_run ?_
    (apply TL.alloc; exact rfl; exact tb rfl; exact (rfl : _ = [_, _, _]))
    intro b8
    refine m_run ?_
    refine TL.perm (.swap _ _ _) ?_
    (apply TL.callV; exact rfl; exact callB_of (by kernel_rfl); exact rfl; exact fun _ h => h)
    exact clause_t mb c es _ _ hS (Cl.ok_tl hco) hcs
    rintro _ _ ⟨rfl, es2, rfl, hS2⟩
    refine m_run ?_
    refine TK.sub (Δ := mapA u32N lenN mb es2 :: Γ) (by (repeat (first | exact List.Sublist.refl _ | apply List.Sublist.cons_cons | apply List.Sublist.cons))) ?_
    refine IH (j - 1) _ _ (by omega) ⟨i + 1, es2, by omega, ?_, rfl, rfl, rfl, rfl, congrArg (Value.int .i64) (i64_succ i (by omega)), rfl⟩
    rw [atsL_snoc hc]; exact hS2
  rw [List.take_of_length_le (by omega)] at hS
  clear IH
  generalize atsL l = L at *
  refine m_run ?_
  apply TK.iter (fun j ρ' Γ' => ∃ (i : Nat) (es : List (Nat × Nat)), fs.length = i + j ∧ Says es (L ++ fa (fs.take i)) ∧ (Cons L → okF L fs i) ∧ lk ρ' 6 = .map (some mb) ∧ lk ρ' 22 = .slice F fs.length fc ∧ lk ρ' 23 = .int .i64 (fs.length : Int) ∧ lk ρ' 24 = .int .i64 (i : Int) ∧ Γ' = mapA u32N lenN mb es :: Γ) fs.length
  · exact ⟨0, es, by omega, by simpa [fa] using hS, fun _ k f hk => by omega, rfl, rfl, rfl, rfl, rfl⟩
  rintro j IH ρ2 _ ⟨i, es, hj, hS, hok, e6, e22, e23, e24, rfl⟩
  refine TK.know4 e6 e22 e23 e24 ?_
  by_cases hi : i < fs.length
  · obtain ⟨f, hfi⟩ : ∃ f, fs[i]? = some f := ⟨fs[i], List.getElem?_eq_getElem hi⟩
    refine TK.mem fun m0 hm0 => ?_
    obtain ⟨b, o, rfl⟩ := src_some (has_tls hf m0 hm0) (by rw [fcsC_len]; omega)
    clear hm0 m0
    have hel := has_el (sz := 2) (f := Fct.cells) (fun _ => rfl) (by decide) hf hfi
    have hbad : Cons L → ((fitB (lookE (L ++ fa (fs.take i)) f.p) f.l.length = false ∨ 6 < f.l.length) ↔ badF L fs i f) := fun hC => fit_bad (okF_cons hC (hok hC) (by omega))
    refine m_run ?_
    (apply TL.alloc; exact rfl; exact tb rfl; exact (rfl : _ = [_, _]))
    intro b10
    by_cases h6 : 6 < f.l.length
    · refine m_run ?_
      (apply TK.retS2; exact rfl; exact rfl; (exact m_val); (exact m_val))
      exact ⟨_, rfl, ⟨⟨_, _, rfl⟩, fun hC => ⟨i, 9, rfl, .inl ⟨f, hfi, hok hC, (hbad hC).1 (.inr h6), rfl⟩⟩⟩, rfl⟩
      (repeat (first | exact List.Sublist.refl _ | apply List.Sublist.cons_cons | apply List.Sublist.cons))
    · refine m_run ?_
      refine TL.perm (.swap _ _ _) ?_
      (apply TL.callV; exact rfl; exact callB_of (by kernel_rfl); exact rfl; exact fun _ h => h)
      exact fits_t mb f.p f.l.length es _ _ hS
      rintro _ _ ⟨rfl, es2, rfl, hS2⟩
      cases hfit : fitB (lookE (L ++ fa (fs.take i)) f.p) f.l.length with
      | false =>
        refine m_run ?_
        (apply TK.retS2; exact rfl; exact rfl; (exact m_val); (exact m_val))
        exact ⟨_, rfl, ⟨⟨_, _, rfl⟩, fun hC => ⟨i, 9, rfl, .inl ⟨f, hfi, hok hC, (hbad hC).1 (.inl hfit), rfl⟩⟩⟩, rfl⟩
        (repeat (first | exact List.Sublist.refl _ | apply List.Sublist.cons_cons | apply List.Sublist.cons))
      | true =>
        refine m_run ?_
        refine TK.sub (Δ := mapA u32N lenN mb es2 :: Γ) (by (repeat (first | exact List.Sublist.refl _ | apply List.Sublist.cons_cons | apply List.Sublist.cons))) ?_
        refine IH (j - 1) _ _ (by omega) ⟨i + 1, es2, by omega, ?_, fun hC => okF_snoc (hok hC) hfi (fun hb => ?_), rfl, rfl, rfl, congrArg (Value.int .i64) (i64_succ i (by omega)), rfl⟩
        · rw [fa_snoc hfi, ← List.append_assoc]; exact hS2
        · rcases (hbad hC).2 hb with h | h
          · rw [hfit] at h; cases h
          · exact h6 h
  · obtain rfl : i = fs.length := by omega
    refine m_run ?_
    (apply TK.retS2; exact rfl; exact rfl; (exact m_val); (exact m_val))
    exact ⟨_, rfl, ⟨⟨_, _, rfl⟩, fun hC => ⟨0, 0, rfl, .inr ⟨hok hC, rfl, rfl⟩⟩⟩, rfl⟩
    (repeat (first | exact List.Sublist.refl _ | apply List.Sublist.cons_cons | apply List.Sublist.cons))
set_option maxRecDepth 100000 in
set_option maxHeartbeats 8000000 in
theorem rarities_t (A F : Option Addr) (cc fc : Nat) (l : List Cl) (fs : List Fct) (Γ : List HP) (h : clsOk A l Γ) (hf : has Γ (srcAt 2 F fs.length (fcsC fs))) (hn : l.length ≤ 1000000) (hfn : fs.length ≤ 1000000) (hall : (allA l).length ≤ 1000000) :
    FnV Try.prog 19 [.slice A l.length cc, .slice F fs.length fc] Γ fun v Γ' => ArIs (atsL l) fs v ∧ Γ' = Γ := by
  refine Fn.enter Try.func19 rfl rfl rfl fun E => ?_
  refine TK.free (H := own 33 2 (.slice none 0 0) 0 []) (fun m hm => own_nil _ _ hm) ?_
  refine m_run ?_
  apply TK.iter (fun j ρ' Γ' => ∃ (i : Nat) (B : Option Addr) (k : Nat), l.length = i + j ∧ lk ρ' 0 = .slice A l.length cc ∧ lk ρ' 1 = .slice F fs.length fc ∧ lk ρ' 6 = .slice B (allA (l.take i)).length k ∧ lk ρ' 7 = .int .i64 (i : Int) ∧ Γ' = own 33 2 (.slice B (allA (l.take i)).length k) (allA (l.take i)).length (atmsC (allA (l.take i))) :: Γ) l.length
  · exact ⟨0, none, 0, by omega, rfl, rfl, rfl, rfl, rfl⟩
  rintro j IH ρ' _ ⟨i, B, k, hj, e0, e1, e6, e7, rfl⟩
  refine TK.know4 e0 e1 e6 e7 ?_
  by_cases hi : i < l.length
  · obtain ⟨c, hc⟩ : ∃ c, l[i]? = some c := ⟨l[i], List.getElem?_eq_getElem hi⟩
    have hcm := List.mem_of_getElem? hc
    refine TK.mem fun m0 hm0 => ?_
    obtain ⟨b, o, rfl⟩ := src_some (has_tls h.1 m0 hm0) (by rw [clsC_len]; omega)
    clear hm0 m0
    have hel := has_el (sz := 3) (f := Cl.cells) (fun _ => rfl) (by decide) h.1 hc
    have hsn := allA_snoc hc
    have hle := allA_le (l := l) (i + 1)
    have hlen : (allA (l.take (i + 1))).length = (allA (l.take i)).length + (atomsOf c).length := by rw [hsn, List.length_append]
    refine m_run ?_
    (apply TL.callV; exact rfl; exact callB_of (by kernel_rfl); exact rfl; exact fun _ h => h)
    exact atoms_t c _ (Cl.ok_tl (h.2 c hcm).1) (h.2 c hcm).2
    rintro _ _ ⟨B2, k2, hk2, rfl, rfl⟩
    refine m_run ?_
    (apply TL.append 1; exact rfl; exact rfl; exact tb rfl; exact rfl; exact tb rfl; exact rfl; exact rfl; exact rfl)
    · exact fun _ h => h
    · exact rfl
    · exact has_at (up_src _ _ _ _) 0 rfl fun _ h => own_src h
    · exact atmsC_one _
    · show ((allA (l.take i)).length + (atomsOf c).length) * 32 ≤ _; omega
    · show (allA (l.take i)).length + (atomsOf c).length ≤ maxLen; unfold maxLen; omega
    · exact fun _ => (rfl : _ = _ :: _ :: _)
    intro B3 k3 hk3
    rw [show atmsC (allA (l.take i)) ++ atmsC (atomsOf c) = atmsC (allA (l.take (i + 1))) by rw [hsn]; simp [atmsC], ← hlen]
    refine m_run ?_
    refine TK.drop ?_
    exact IH (j - 1) _ _ (by omega) ⟨i + 1, B3, k3, by omega, rfl, rfl, rfl, congrArg (Value.int .i64) (i64_succ i (by omega)), rfl⟩
  rw [List.take_of_length_le (by omega)] at e6 ⊢
  clear IH
  have hM := allA_ats l
  generalize atsL l = L at *
  generalize allA l = X at *
  have hXM : L.length = X.length := by rw [← hM, List.length_map]
  refine m_run ?_
  apply TK.iter (fun j ρ' Γ' => ∃ (i : Nat), fs.length = i + j ∧ okF L fs i ∧ lk ρ' 1 = .slice F fs.length fc ∧ lk ρ' 6 = .slice B X.length k ∧ lk ρ' 8 = .int .i64 (i : Int) ∧ Γ' = own 33 2 (.slice B X.length k) X.length (atmsC X) :: Γ) fs.length
  · exact ⟨0, by omega, fun k f hk => by omega, rfl, rfl, rfl, rfl⟩
  rintro j IH ρ2 _ ⟨i, hj, hok, e1, e6, e8, rfl⟩
  refine TK.know3 e1 e6 e8 ?_
  by_cases hi : i < fs.length
  · obtain ⟨f, hfi⟩ : ∃ f, fs[i]? = some f := ⟨fs[i], List.getElem?_eq_getElem hi⟩
    refine TK.mem fun m0 hm0 => ?_
    obtain ⟨b, o, rfl⟩ := src_some (has_tls hf m0 hm0) (by rw [fcsC_len]; omega)
    clear hm0 m0
    have hel := has_el (sz := 2) (f := Fct.cells) (fun _ => rfl) (by decide) hf hfi
    refine m_run ?_
    (apply TL.alloc; exact rfl; exact tb rfl; exact (rfl : _ = [_, _]))
    intro b9
    by_cases h6 : 6 < f.l.length
    · refine m_run ?_
      (apply TK.retS2; exact rfl; exact rfl; (exact m_val); (exact m_val))
      exact ⟨_, rfl, ⟨i, 9, rfl, .inl ⟨f, hfi, hok, .inl h6, rfl⟩⟩, rfl⟩
      (repeat (first | exact List.Sublist.refl _ | apply List.Sublist.cons_cons | apply List.Sublist.cons))
    refine m_run ?_
    apply TK.iter (fun j ρ' Γ' => ∃ (q : Nat), X.length = q + j ∧ (∀ x a, x < q → L[x]? = some a → a.1 = f.p → a.2 = f.l.length) ∧ lk ρ' 1 = .slice (some ⟨b, o, none⟩) fs.length fc ∧ lk ρ' 6 = .slice B X.length k ∧ lk ρ' 8 = .int .i64 (i : Int) ∧ lk ρ' 9 = .pointer (some ⟨b9, 0, none⟩) ∧ lk ρ' 10 = .int .i64 (q : Int) ∧ Γ' = row b9 [.int .u32 (f.p : Int), .slice f.A f.l.length f.c] 43 :: own 33 2 (.slice B X.length k) X.length (atmsC X) :: Γ) X.length
    · exact ⟨0, by omega, fun x a hx => by omega, rfl, rfl, rfl, rfl, rfl, rfl⟩
    rintro j2 IH2 ρ3 _ ⟨q, hq, hPq, f1, f6, f8, f9, f10, rfl⟩
    refine TK.know5 f1 f6 f8 f9 f10 ?_
    by_cases hqi : q < X.length
    · obtain ⟨d, hd⟩ : ∃ d, X[q]? = some d := ⟨X[q], List.getElem?_eq_getElem (by omega)⟩
      have hd' : L[q]? = some (d.p, d.l.length) := by rw [← hM, List.getElem?_map, hd]; rfl
      refine TK.fact (all_at 1 rfl fun m h => src_block h (by omega)) ?_
      rintro ⟨g, rfl⟩
      have hown : has (row b9 [.int .u32 (f.p : Int), .slice f.A f.l.length f.c] 43 :: own 33 2 (.slice (some ⟨g, 0, none⟩) X.length k) X.length (atmsC X) :: Γ) (srcAt 2 (some ⟨g, 0, none⟩) X.length (atmsC X)) := has_at (up_src _ _ _ _) 1 rfl fun _ h => own_src h
      have hqa := has_el (sz := 2) (f := Atm.cells) (fun _ => rfl) (by decide) hown hd
      rw [Nat.zero_add] at hqa
      have hq0 := has_cell hqa 0 rfl
      have hq1 := has_cell hqa 1 rfl
      have hnext : (d.p = f.p → d.l.length = f.l.length) → ∀ x a, x < q + 1 → L[x]? = some a → a.1 = f.p → a.2 = f.l.length := fun hd2 x a hx ha => by
        rcases Nat.lt_or_ge x q with hxq | hxq
        · exact hPq x a hxq ha
        · obtain rfl : x = q := by omega
          rw [hd'] at ha; injection ha with ha; subst ha
          exact hd2
      by_cases hp : d.p = f.p
      · by_cases hl : d.l.length = f.l.length
        · refine m_run ?_
          refine m_quiet ?_
          refine m_run ?_
          exact IH2 (j2 - 1) _ _ (by omega) ⟨q + 1, by omega, hnext (fun _ => hl), rfl, rfl, rfl, rfl, congrArg (Value.int .i64) (i64_succ q (by omega)), rfl⟩
        · refine m_run ?_
          refine m_quiet ?_
          refine m_run ?_
          (apply TK.retS2; exact rfl; exact rfl; (exact m_val); (exact m_val))
          exact ⟨_, rfl, ⟨i, 9, rfl, .inl ⟨f, hfi, hok, .inr ⟨_, List.mem_append_left _ (List.mem_of_getElem? hd'), hp, hl⟩, rfl⟩⟩, rfl⟩
          (repeat (first | exact List.Sublist.refl _ | apply List.Sublist.cons_cons | apply List.Sublist.cons))
      · refine m_run ?_
        refine m_quiet ?_
        refine m_run ?_
        exact IH2 (j2 - 1) _ _ (by omega) ⟨q + 1, by omega, hnext (fun e => absurd e hp), rfl, rfl, rfl, rfl, congrArg (Value.int .i64) (i64_succ q (by omega)), rfl⟩
    clear IH2
    have hLall : ∀ a ∈ L, a.1 = f.p → a.2 = f.l.length := fun a ha => by
      obtain ⟨x, hx, hxa⟩ := List.mem_iff_getElem.1 ha
      exact hPq x a (by omega) (by rw [List.getElem?_eq_getElem hx, hxa])
    refine m_run ?_
    apply TK.iter (fun j ρ' Γ' => ∃ (q : Nat), i = q + j ∧ (∀ x g, x < q → fs[x]? = some g → g.p = f.p → g.l.length = f.l.length) ∧ lk ρ' 1 = .slice (some ⟨b, o, none⟩) fs.length fc ∧ lk ρ' 6 = .slice B X.length k ∧ lk ρ' 8 = .int .i64 (i : Int) ∧ lk ρ' 9 = .pointer (some ⟨b9, 0, none⟩) ∧ lk ρ' 11 = .int .i64 (q : Int) ∧ Γ' = row b9 [.int .u32 (f.p : Int), .slice f.A f.l.length f.c] 43 :: own 33 2 (.slice B X.length k) X.length (atmsC X) :: Γ) i
    · exact ⟨0, by omega, fun x a hx => by omega, rfl, rfl, rfl, rfl, rfl, rfl⟩
    rintro j2 IH2 ρ3 _ ⟨q, hq, hFq, f1, f6, f8, f9, f11, rfl⟩
    refine TK.know5 f1 f6 f8 f9 f11 ?_
    by_cases hqi : q < i
    · obtain ⟨d, hd⟩ : ∃ d, fs[q]? = some d := ⟨fs[q], List.getElem?_eq_getElem (by omega)⟩
      have hqa := has_el (sz := 2) (f := Fct.cells) (fun _ => rfl) (by decide) hf hd
      have hq0 := has_cell hqa 0 rfl
      have hq1 := has_cell hqa 1 rfl
      have hnext : (d.p = f.p → d.l.length = f.l.length) → ∀ x g, x < q + 1 → fs[x]? = some g → g.p = f.p → g.l.length = f.l.length := fun hd2 x a hx ha => by
        rcases Nat.lt_or_ge x q with hxq | hxq
        · exact hFq x a hxq ha
        · obtain rfl : x = q := by omega
          rw [hd] at ha; injection ha with ha; subst ha
          exact hd2
      by_cases hp : d.p = f.p
      · by_cases hl : d.l.length = f.l.length
        · refine m_run ?_
          refine m_quiet ?_
          refine m_run ?_
          exact IH2 (j2 - 1) _ _ (by omega) ⟨q + 1, by omega, hnext (fun _ => hl), rfl, rfl, rfl, rfl, congrArg (Value.int .i64) (i64_succ q (by omega)), rfl⟩
        · refine m_run ?_
          refine m_quiet ?_
          refine m_run ?_
          (apply TK.retS2; exact rfl; exact rfl; (exact m_val); (exact m_val))
          refine ⟨_, rfl, ⟨i, 9, rfl, .inl ⟨f, hfi, hok, .inr ⟨(d.p, d.l.length), List.mem_append_right _ (List.mem_map.2 ⟨d, ?_, rfl⟩), hp, hl⟩, rfl⟩⟩, rfl⟩
          · exact List.mem_take_iff_getElem.2 ⟨q, by omega, (List.getElem?_eq_some_iff.1 hd).2⟩
          (repeat (first | exact List.Sublist.refl _ | apply List.Sublist.cons_cons | apply List.Sublist.cons))
      · refine m_run ?_
        refine m_quiet ?_
        refine m_run ?_
        exact IH2 (j2 - 1) _ _ (by omega) ⟨q + 1, by omega, hnext (fun e => absurd e hp), rfl, rfl, rfl, rfl, congrArg (Value.int .i64) (i64_succ q (by omega)), rfl⟩
    · obtain rfl : q = i := by omega
      refine m_run ?_
      refine TK.drop ?_
      refine IH (j - 1) _ _ (by omega) ⟨q + 1, by omega, okF_snoc hok hfi ?_, rfl, rfl, congrArg (Value.int .i64) (i64_succ q (by omega)), rfl⟩
      rintro (h | ⟨a, ha, hap, hne⟩)
      · exact h6 h
      · rcases List.mem_append.1 ha with ha | ha
        · exact hne (hLall a ha hap)
        · obtain ⟨g, hg, rfl⟩ := List.mem_map.1 ha
          obtain ⟨x, hx, hxg⟩ := List.mem_take_iff_getElem.1 hg
          exact hne (hFq x g (by omega) (by rw [List.getElem?_eq_getElem (by omega), hxg]) hap)
  · obtain rfl : i = fs.length := by omega
    refine m_run ?_
    (apply TK.retS2; exact rfl; exact rfl; (exact m_val); (exact m_val))
    exact ⟨_, rfl, ⟨0, 0, rfl, .inr ⟨hok, rfl, rfl⟩⟩, rfl⟩
    (repeat (first | exact List.Sublist.refl _ | apply List.Sublist.cons_cons | apply List.Sublist.cons))
end Go.Proofs.Ytndmjpceocecdaa.E
