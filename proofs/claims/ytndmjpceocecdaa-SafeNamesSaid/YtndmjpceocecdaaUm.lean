/- Few: whether clauses and facts are gone through, walked. -/
import Derived.Test.YtndmjpceocecdaaUl
namespace Go.Proofs.Ytndmjpceocecdaa.E
open Go Go.RowKit Go.Proofs
attribute [local irreducible] TK TL TQ TA Fn PV
/-- Clauses that are handed in, of whatever lengths. -/
def clsAt (A : Option Addr) (l : List Cl) (Γ : List HP) : Prop := has Γ (srcAt 3 A l.length (clsC l)) ∧ ∀ c ∈ l, c.ok Γ
theorem clsAt_tl {A : Option Addr} {l : List Cl} {Γ : List HP} {H : HP} (h : clsAt A l Γ) : clsAt A l (H :: Γ) := ⟨has_tls h.1, fun s hs => Cl.ok_tl (h.2 s hs)⟩
def Cl.few (c : Cl) : Prop := c.l.length ≤ 30 ∧ c.h.l.length ≤ 30 ∧ ∀ x ∈ c.l, x.a.l.length ≤ 30
def FewOk (l : List Cl) (fs : List Fct) : Prop := l.length ≤ 1000 ∧ (l.length ≤ 60 ∨ 400 < l.length) ∧ fs.length ≤ 120 ∧ (∀ c ∈ l, c.few) ∧ ∀ f ∈ fs, f.l.length ≤ 30
theorem few_small {c : Cl} (h : c.few) : c.small := ⟨Nat.le_trans h.1 (by decide), Nat.le_trans h.2.1 (by decide), fun x hx => Nat.le_trans (h.2.2 x hx) (by decide)⟩
theorem few_cls {A : Option Addr} {l : List Cl} {Γ : List HP} (h : clsAt A l Γ) (hf : ∀ c ∈ l, c.few) : clsOk A l Γ := ⟨h.1, fun c hc => ⟨h.2 c hc, few_small (hf c hc)⟩⟩
theorem few_all {l : List Cl} (h : ∀ c ∈ l, c.few) : (allA l).length ≤ l.length * 31 := by
  induction l with
  | nil => simp [allA]
  | cons c l ih =>
    have h1 := (h c (List.mem_cons_self ..)).1
    have h2 := ih fun d hd => h d (List.mem_cons_of_mem _ hd)
    have : (atomsOf c).length = c.l.length + 1 := by simp [atomsOf]
    simp only [allA, List.flatMap_cons, List.length_append, List.length_cons] at h2 ⊢
    omega
theorem mem_take_succ {α : Type} {l : List α} {i : Nat} {x y : α} (h : l[i]? = some x) (hy : y ∈ l.take (i + 1)) : y ∈ l.take i ∨ y = x := by
  rw [List.take_add_one, h, List.mem_append] at hy
  rcases hy with hy | hy
  · exact .inl hy
  · exact .inr (by simpa using hy)
set_option maxRecDepth 100000 in
set_option maxHeartbeats 8000000 in
theorem few_t (A F : Option Addr) (cc fc : Nat) (l : List Cl) (fs : List Fct) (Γ : List HP) (h : clsAt A l Γ) (hf : has Γ (srcAt 2 F fs.length (fcsC fs))) :
    FnV Try.prog 14 [.slice A l.length cc, .slice F fs.length fc] Γ fun v Γ' => (∃ B, v = .bool B ∧ (B = true → FewOk l fs)) ∧ Γ' = Γ := by
  refine Fn.enter Try.func14 rfl rfl rfl fun E => ?_
  by_cases h1 : 60 < l.length ∧ l.length ≤ 400
  · obtain ⟨h1, h2⟩ := h1
    refine m_run ?_
    (apply TK.ret1; exact rfl; exact rfl; (exact m_val))
    exact ⟨_, rfl, ⟨_, rfl, fun h => by cases h⟩, rfl⟩
  by_cases h3 : 1000 < l.length
  · refine m_run ?_
    (apply TK.ret1; exact rfl; exact rfl; (exact m_val))
    exact ⟨_, rfl, ⟨_, rfl, fun h => by cases h⟩, rfl⟩
  by_cases h4 : 120 < fs.length
  · by_cases h5 : 60 < l.length
    · refine m_run ?_
      (apply TK.ret1; exact rfl; exact rfl; (exact m_val))
      exact ⟨_, rfl, ⟨_, rfl, fun h => by cases h⟩, rfl⟩
    · refine m_run ?_
      (apply TK.ret1; exact rfl; exact rfl; (exact m_val))
      exact ⟨_, rfl, ⟨_, rfl, fun h => by cases h⟩, rfl⟩
  refine TK.seq ?_
  refine TK.region ?_
  refine m_rrun ?_
  refine TL.nil ?_
  (repeat (first | refine TK.seq ?_ | refine TK.skip ?_))
  refine TK.cut (fun ρ' Γ' => lk ρ' 25 = .bool false ∧ lk ρ' 0 = .slice A l.length cc ∧ lk ρ' 1 = .slice F fs.length fc ∧ Γ' = Γ) ?_ ?_
  · intro k' hk'
    by_cases h5 : 60 < l.length
    · refine m_run ?_
      exact hk' _ _ ⟨congrArg Value.bool (decide_eq_false (by omega)), rfl, rfl, rfl⟩
    · refine m_run ?_
      exact hk' _ _ ⟨congrArg Value.bool (decide_eq_false (by omega)), rfl, rfl, rfl⟩
  rintro ρ1 Γ ⟨f25, f0, f1, rfl⟩
  refine TK.know3 f25 f0 f1 ?_
  refine m_run ?_
  apply TK.iter (fun j ρ' Γ' => ∃ (i : Nat), l.length = i + j ∧ (∀ c ∈ l.take i, c.few) ∧ lk ρ' 0 = .slice A l.length cc ∧ lk ρ' 1 = .slice F fs.length fc ∧ lk ρ' 5 = .int .i64 (i : Int) ∧ Γ' = Γ) l.length
  · exact ⟨0, by omega, by simp, rfl, rfl, rfl, rfl⟩
  rintro j IH ρ' Γ ⟨i, hj, hall, e0, e1, e5, rfl⟩
  refine TK.know3 e0 e1 e5 ?_
  by_cases hi : i < l.length
  · obtain ⟨c, hc⟩ : ∃ c, l[i]? = some c := ⟨l[i], List.getElem?_eq_getElem hi⟩
    have hcm := List.mem_of_getElem? hc
    have hco := h.2 c hcm
    refine TK.mem fun m0 hm0 => ?_
    obtain ⟨b, o, rfl⟩ := src_some (h.1 m0 hm0) (by rw [clsC_len]; omega)
    clear hm0 m0
    have hel := has_el (sz := 3) (f := Cl.cells) (fun _ => rfl) (by decide) h.1 hc
    have hc1 := has_cell hel 1 rfl
    have hc2 := has_cell hel 2 rfl
    by_cases h6 : 30 < c.l.length
    · refine m_run ?_
      (apply TK.ret1; exact rfl; exact rfl; (exact m_val))
      exact ⟨_, rfl, ⟨_, rfl, fun h => by cases h⟩, rfl⟩
    by_cases h7 : 30 < c.h.l.length
    · refine m_run ?_
      (apply TK.ret1; exact rfl; exact rfl; (exact m_val))
      exact ⟨_, rfl, ⟨_, rfl, fun h => by cases h⟩, rfl⟩
    refine m_run ?_
    apply TK.iter (fun j ρ' Γ' => ∃ (q : Nat), c.l.length = q + j ∧ (∀ x ∈ c.l.take q, x.a.l.length ≤ 30) ∧ lk ρ' 0 = .slice (some ⟨b, o, none⟩) l.length cc ∧ lk ρ' 1 = .slice F fs.length fc ∧ lk ρ' 5 = .int .i64 (i : Int) ∧ lk ρ' 6 = .int .i64 (q : Int) ∧ Γ' = Γ) c.l.length
    · exact ⟨0, by omega, by simp, rfl, rfl, rfl, rfl, rfl⟩
    rintro j2 IH2 ρ3 Γ ⟨q, hq, hxs, f0, f1, f5, f6, rfl⟩
    refine TK.know4 f0 f1 f5 f6 ?_
    by_cases hqi : q < c.l.length
    · obtain ⟨x, hx⟩ : ∃ x, c.l[q]? = some x := ⟨c.l[q], List.getElem?_eq_getElem hqi⟩
      have hL0 : has Γ (srcAt 3 c.A c.l.length (ltsC c.l)) := hco.2.1
      refine TK.mem fun m0 hm0 => ?_
      obtain ⟨g, u, hA⟩ := src_some (hL0 m0 hm0) (by rw [ltsC_len]; omega)
      clear hm0 m0
      rw [hA] at hL0 hc2
      obtain ⟨_, _, hat⟩ := has_lit hL0 hx
      have hat1 := has_cell hat 1 rfl
      by_cases h8 : 30 < x.a.l.length
      · refine m_run ?_
        (apply TK.ret1; exact rfl; exact rfl; (exact m_val))
        exact ⟨_, rfl, ⟨_, rfl, fun h => by cases h⟩, rfl⟩
      · refine m_run ?_
        refine IH2 (j2 - 1) _ _ (by omega) ⟨q + 1, by omega, fun y hy => ?_, rfl, rfl, rfl, congrArg (Value.int .i64) (i64_succ q (by omega)), rfl⟩
        rcases mem_take_succ hx hy with hy | rfl
        · exact hxs y hy
        · omega
    · rw [List.take_of_length_le (by omega)] at hxs
      refine m_run ?_
      refine IH (j - 1) _ _ (by omega) ⟨i + 1, by omega, fun y hy => ?_, rfl, rfl, congrArg (Value.int .i64) (i64_succ i (by omega)), rfl⟩
      rcases mem_take_succ hc hy with hy | rfl
      · exact hall y hy
      · exact ⟨by omega, by omega, hxs⟩
  rw [List.take_of_length_le (by omega)] at hall
  clear IH
  refine m_run ?_
  apply TK.iter (fun j ρ' Γ' => ∃ (i : Nat), fs.length = i + j ∧ (∀ f ∈ fs.take i, f.l.length ≤ 30) ∧ lk ρ' 1 = .slice F fs.length fc ∧ lk ρ' 7 = .int .i64 (i : Int) ∧ Γ' = Γ) fs.length
  · exact ⟨0, by omega, by simp, rfl, rfl, rfl⟩
  rintro j IH ρ2 Γ ⟨i, hj, hfs, e1, e7, rfl⟩
  refine TK.know2 e1 e7 ?_
  by_cases hi : i < fs.length
  · obtain ⟨f, hfi⟩ : ∃ f, fs[i]? = some f := ⟨fs[i], List.getElem?_eq_getElem hi⟩
    refine TK.mem fun m0 hm0 => ?_
    obtain ⟨b, o, rfl⟩ := src_some (hf m0 hm0) (by rw [fcsC_len]; omega)
    clear hm0 m0
    have hel := has_el (sz := 2) (f := Fct.cells) (fun _ => rfl) (by decide) hf hfi
    have hc1 := has_cell hel 1 rfl
    by_cases h8 : 30 < f.l.length
    · refine m_run ?_
      (apply TK.ret1; exact rfl; exact rfl; (exact m_val))
      exact ⟨_, rfl, ⟨_, rfl, fun h => by cases h⟩, rfl⟩
    · refine m_run ?_
      refine IH (j - 1) _ _ (by omega) ⟨i + 1, by omega, fun y hy => ?_, rfl, congrArg (Value.int .i64) (i64_succ i (by omega)), rfl⟩
      rcases mem_take_succ hfi hy with hy | rfl
      · exact hfs y hy
      · omega
  · rw [List.take_of_length_le (by omega)] at hfs
    refine m_run ?_
    (apply TK.ret1; exact rfl; exact rfl; (exact m_val))
    exact ⟨_, rfl, ⟨_, rfl, fun _ => ⟨by omega, by omega, by omega, hall, hfs⟩⟩, rfl⟩
end Go.Proofs.Ytndmjpceocecdaa.E
