/- The document's ring: place, Key, Drop, Put, walked. -/
import Derived.Test.YtdookobgkcnncaaGi
import Derived.Test.YtdookobgkcnncaaSk
namespace Go.Proofs.Ytdookobgkcnncaa.E
open Go Go.RowKit Go.Proofs
attribute [local irreducible] TK TL TQ TA TB Fn PV
def entC (p : Nat × List UInt8) : List Value := [.int .u32 (p.1 : Int), .string (S p.2)]
abbrev entsC (L : Kys) : List Value := L.flatMap entC
theorem entsC_len (L : Kys) : (entsC L).length = L.length * 2 := flat_len (f := entC) (sz := 2) (fun _ => rfl) L
abbrev docA (bd : Nat) (A : Option Addr) (c : Nat) (L : Kys) (Γ : List HP) : List HP := row bd [.slice A L.length c] 30 :: own 43 2 (.slice A L.length c) L.length (entsC L) :: Γ
theorem doc_src (bd : Nat) (A : Option Addr) (c : Nat) (L : Kys) (Γ : List HP) : has (docA bd A c L Γ) (srcAt 2 A L.length (entsC L)) := has_at (up_src _ _ _ _) 1 rfl fun _ h => own_src h
/-- The place of somebody's. -/
def PlaceIs (L : Kys) (w : Nat) (z : Int) : Prop := (z = -1 ∧ lookE L w = none) ∨ ∃ (i : Nat) (k : List UInt8), z = (i : Int) ∧ L[i]? = some (w, k) ∧ lookE L w = some k ∧ dropE L w = L.eraseIdx i
theorem place_at {w : Nat} {k : List UInt8} : ∀ {L : Kys} {i : Nat}, (∀ p ∈ L.take i, w ≠ p.1) → L[i]? = some (w, k) → lookE L w = some k ∧ dropE L w = L.eraseIdx i
  | [], i, _, h => by simp at h
  | p :: L, 0, _, h => by
    simp at h
    subst h
    simp [lookE, dropE]
  | p :: L, i + 1, hn, h => by
    simp only [List.getElem?_cons_succ] at h
    have h0 : w ≠ p.1 := hn p (by simp)
    have := place_at (L := L) (i := i) (fun q hq => hn q (by simp [hq])) h
    simp [lookE, dropE, h0, this]
theorem place_no {w : Nat} {L : Kys} (h : ∀ p ∈ L, w ≠ p.1) : lookE L w = none := by
  rw [lookE_none]
  intro hm
  obtain ⟨p, hp, he⟩ := List.mem_map.1 hm
  exact h p hp he.symm
set_option maxRecDepth 100000 in
set_option maxHeartbeats 1000000 in
theorem place_t (bd w : Nat) (A : Option Addr) (c : Nat) (L : Kys) (Γ : List HP) (hc : has Γ (fun m => cellAt m bd 0 (.slice A L.length c))) (hs : has Γ (srcAt 2 A L.length (entsC L))) (hn : L.length ≤ 1000000) :
    FnV Try.prog 16 [.pointer (some ⟨bd, 0, none⟩), .int .u32 (w : Int)] Γ fun v Γ' => (∃ z, v = .int .i64 z ∧ PlaceIs L w z) ∧ Γ' = Γ := by
  refine Fn.enter Try.func16 rfl rfl rfl fun E => ?_
  refine m_run ?_
  apply TK.iter (fun j ρ' Γ' => ∃ i : Nat, L.length = i + j ∧ (∀ p ∈ L.take i, w ≠ p.1) ∧ lk ρ' 0 = .pointer (some ⟨bd, 0, none⟩) ∧ lk ρ' 1 = .int .u32 (w : Int) ∧ lk ρ' 5 = .int .i64 (i : Int) ∧ Γ' = Γ) L.length
  · exact ⟨0, by omega, by simp, rfl, rfl, rfl, rfl⟩
  rintro j IH ρ' _ ⟨i, hj, hall, e0, e1, e5, rfl⟩
  refine TK.know3 e0 e1 e5 ?_
  by_cases hi : i < L.length
  · refine TK.mem fun m0 hm0 => ?_
    obtain ⟨b, o, rfl⟩ := src_some (hs m0 hm0) (by rw [entsC_len]; omega)
    clear hm0 m0
    obtain ⟨p, hp⟩ : ∃ p, L[i]? = some p := ⟨L[i], by simp [hi]⟩
    obtain ⟨q, k⟩ := p
    have hc0 := has_cell (has_el (sz := 2) (f := entC) (fun _ => rfl) (by decide) hs hp) 0 rfl
    by_cases hw : q = w
    · subst hw
      obtain ⟨g1, g2⟩ := place_at hall hp
      refine m_run ?_
      (apply TK.ret1; exact rfl; exact rfl; (exact m_val))
      exact ⟨_, rfl, ⟨_, rfl, .inr ⟨i, k, rfl, hp, g1, g2⟩⟩, rfl⟩
    · refine m_run ?_
      refine IH (j - 1) _ _ (by omega) ⟨i + 1, by omega, ?_, rfl, rfl, congrArg (Value.int .i64) (i64_succ i (by omega)), rfl⟩
      rw [List.take_add_one, hp]
      intro p hp'
      rcases List.mem_append.1 hp' with hp' | hp'
      · exact hall p hp'
      · simp at hp'; subst hp'; exact fun e => hw e.symm
  · refine m_run ?_
    (apply TK.ret1; exact rfl; exact rfl; (exact m_val))
    rw [List.take_of_length_le (by omega)] at hall
    exact ⟨_, rfl, ⟨_, rfl, .inl ⟨rfl, place_no hall⟩⟩, rfl⟩
set_option maxRecDepth 100000 in
set_option maxHeartbeats 1000000 in
theorem keyD_t (bd w : Nat) (A : Option Addr) (c : Nat) (L : Kys) (Γ : List HP) (hn : L.length ≤ 1000000) :
    FnV Try.prog 14 [.pointer (some ⟨bd, 0, none⟩), .int .u32 (w : Int)] (docA bd A c L Γ)
      fun v Γ' => ∃ B k H, v = .tuple #[.slice B ((lookE L w).getD []).length k, .bool (lookE L w).isSome] ∧ Γ' = H :: docA bd A c L Γ ∧ ∀ m, H m → srcAt 1 B ((lookE L w).getD []).length (bytesV ((lookE L w).getD [])) m := by
  refine Fn.enter Try.func14 rfl rfl rfl fun E => ?_
  have hs := doc_src bd A c L Γ
  refine m_run ?_
  (apply TL.callV; exact rfl; exact callB_of (by kernel_rfl); exact rfl; exact fun _ h => h)
  exact place_t bd w A c L _ (has_row 0 rfl rfl) hs hn
  rintro _ _ ⟨⟨z, rfl, hz⟩, rfl⟩
  rcases hz with ⟨rfl, hl⟩ | ⟨i, k, rfl, hp, hl, _⟩
  · refine TL.free (H := emp) (fun _ h => h) ?_
    refine m_run ?_
    (apply TK.ret2; exact rfl; exact rfl; (exact m_val); (exact m_val))
    exact ⟨_, rfl, none, 0, emp, by rw [hl]; rfl, rfl, fun m _ => by rw [hl]; exact src_nil 1 none⟩
  · have hi : i < L.length := (List.getElem?_eq_some_iff.1 hp).1
    refine TL.mem fun m0 hm0 => ?_
    obtain ⟨b, o, rfl⟩ := src_some (hs m0 hm0) (by rw [entsC_len]; omega)
    clear hm0 m0
    have hc1 := has_cell (has_el (sz := 2) (f := entC) (fun _ => rfl) (by decide) hs hp) 1 rfl
    refine m_run ?_
    (apply TL.convSB; exact rfl; exact rfl; exact tb rfl; exact tb rfl; exact rfl; exact tb rfl; exact rfl)
    intro b2 c2 hc2
    refine m_run ?_
    (apply TK.ret2; exact rfl; exact rfl; (exact m_val); (exact m_val))
    exact ⟨_, rfl, _, c2, _, by rw [hl]; rfl, rfl, fun m hm => by rw [hl]; exact roB_src hm (bytesV_length _).symm⟩
end Go.Proofs.Ytdookobgkcnncaa.E
