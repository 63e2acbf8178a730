/- The document on who is reached: walked, Chain, Of, walked. -/
import Derived.Test.YthbcfamfaicneaaYq
namespace Go.Proofs.Ythbcfamfaicneaa.E
open Go Go.RowKit Go.Proofs
attribute [local irreducible] TK TL TQ TA TB Fn PV
theorem rchP_spec (x : Nat) : ∀ (L : List Rch.Stp) (st : List Nat × Option (List Nat)), st.1.Nodup → (L.foldl (rchP x) st).1.Nodup ∧ (∀ v, v ∈ (L.foldl (rchP x) st).1 ↔ v ∈ st.1 ∨ ∃ s ∈ L, s.1.1 = v) ∧ (L.foldl (rchP x) st).2 = if st.2.isSome then st.2 else (L.find? fun s => decide (s.1.1 = x)).map (·.2)
  | [], st, h => ⟨h, by simp, by obtain ⟨a, b⟩ := st; cases b <;> rfl⟩
  | s :: L, st, h => by
    rw [List.foldl_cons]
    have h1 : (rchP x st s).1.Nodup := by
      unfold rchP
      simp only
      split
      · exact h
      · rename_i hn
        refine List.nodup_append.2 ⟨h, by simp, fun a ha b hb => ?_⟩
        simp at hb
        subst hb
        exact fun e => hn (e ▸ ha)
    obtain ⟨i1, i2, i3⟩ := rchP_spec x L (rchP x st s) h1
    refine ⟨i1, fun v => ?_, ?_⟩
    · rw [i2]
      have h2 : v ∈ (rchP x st s).1 ↔ v ∈ st.1 ∨ s.1.1 = v := by
        unfold rchP
        simp only
        split
        · rename_i hin
          exact ⟨.inl, fun h => h.elim id fun e => e ▸ hin⟩
        · simp [eq_comm]
      rw [h2, or_assoc]
      simp only [List.mem_cons]
      constructor
      · rintro (h | h | ⟨t, ht, e⟩)
        · exact .inl h
        · exact .inr ⟨s, .inl rfl, h⟩
        · exact .inr ⟨t, .inr ht, e⟩
      · rintro (h | ⟨t, rfl | ht, e⟩)
        · exact .inl h
        · exact .inr (.inl e)
        · exact .inr (.inr ⟨t, ht, e⟩)
    · rw [i3]
      unfold rchP
      simp only
      cases st.2 with
      | some w => rfl
      | none =>
        by_cases hx : s.1.1 = x <;> simp [hx]
theorem allC_le (K : List Nat) (nx : Rch.Sp → Nat → Option Rch.Sp) (s0 : Rch.Sp) (h : K.length ≤ 50) {n : Nat} (hn : n ≤ 4) : (Rch.allC K nx s0 n).length ≤ 200000 := by
  have h4 := Rch.allC_len K nx s0 h
  have e4 : (Rch.allC K nx s0 4).length = (Rch.allC K nx s0 3).length + (Rch.chs K nx s0 3).length := by rw [← List.length_append, ← Rch.allC_succ]
  have e3 : (Rch.allC K nx s0 3).length = (Rch.allC K nx s0 2).length + (Rch.chs K nx s0 2).length := by rw [← List.length_append, ← Rch.allC_succ]
  have e2 : (Rch.allC K nx s0 2).length = (Rch.allC K nx s0 1).length + (Rch.chs K nx s0 1).length := by rw [← List.length_append, ← Rch.allC_succ]
  have e1 : (Rch.allC K nx s0 1).length = (Rch.allC K nx s0 0).length + (Rch.chs K nx s0 0).length := by rw [← List.length_append, ← Rch.allC_succ]
  rcases (by omega : n = 0 ∨ n = 1 ∨ n = 2 ∨ n = 3 ∨ n = 4) with rfl | rfl | rfl | rfl | rfl <;> omega
set_option maxRecDepth 100000 in
set_option maxHeartbeats 8000000 in
theorem walked_t (A : Option Addr) (c : Nat) (l : List Cr) (who p : Nat) (args : Int) (x : Nat) (Γ : List HP) (h : Crs A l Γ) (hl : l.length ≤ 50) :
    FnV Try.prog 36 [.slice A l.length c, .int .u32 (who : Int), .int .u32 (p : Int), .int .i64 args, .int .u32 (x : Int)] Γ fun v Γ' => ∃ (bw : Nat) (O : Option Addr) (ko : Nat) (out : List Nat) (f : Option Wy) (Γ3 : List HP), v = .pointer (some ⟨bw, 0, none⟩) ∧ Γ' = own 31 1 (.slice O out.length ko) out.length (u32s out) :: wkRow bw A l.length c p args O out.length ko x f :: Γ3 ∧ Γ.Sublist Γ3 ∧ (∀ s, f = some s → s.ok Γ3) ∧ (out, f.map (·.w)) = if (predS p args true 0).2 then (Rch.allC (linksOf l p args) (nxL l) (who, 3) 4).foldl (rchP x) ([], none) else ([], none) := by
  refine Fn.enter Try.func36 rfl rfl rfl fun E => ?_
  have hKl : (linksOf l p args).length ≤ 50 := Nat.le_trans (linksOf_len l p args) hl
  refine m_run ?_
  (apply TL.pv; exact rfl; (apply PV.build tabs; exact rfl; exact rfl; exact rfl; exact rfl; exact rfl; exact (rfl : _ = ([.slice A l.length c, .int .u32 (p : Int), .int .i64 args, .slice none 0 0, .int .u32 (x : Int), wayV none, .bool (none : Option Wy).isSome] : List Value))))
  (apply TL.box; exact rfl; exact rfl; (exact m_lst))
  intro bw
  refine m_run ?_
  refine TK.imp (Δ := wkRow bw A l.length c p args none 0 0 x none :: Γ) (fun _ h => h) ?_
  refine TK.free (H := own 31 1 (.slice none 0 0) 0 []) (fun m hm => own_nil _ _ hm) ?_
  cases hp : (predS p args true 0).2 with
  | false =>
    refine TK.loop ?_
    refine m_run ?_
    (apply TL.callV; exact rfl; exact callB_of (by kernel_rfl); exact rfl; exact fun _ h => h)
    exact takes_t p args _
    rintro _ _ ⟨rfl, rfl⟩
    rw [hp]
    refine m_run ?_
    (apply TK.ret1; exact rfl; exact rfl; (exact m_val))
    exact ⟨_, rfl, bw, none, 0, [], none, Γ, rfl, rfl, .refl _, by simp, rfl⟩
  | true =>
  apply TK.iter (fun j ρ' Γ' => ∃ (n : Nat) (O : Option Addr) (ko : Nat) (out : List Nat) (f : Option Wy) (Γ3 : List HP), n + j = 4 ∧ Γ.Sublist Γ3 ∧ (∀ s, f = some s → s.ok Γ3) ∧ (out, f.map (·.w)) = (Rch.allC (linksOf l p args) (nxL l) (who, 3) n).foldl (rchP x) ([], none) ∧ lk ρ' 1 = .int .u32 (who : Int) ∧ lk ρ' 2 = .int .u32 (p : Int) ∧ lk ρ' 3 = .int .i64 args ∧ lk ρ' 11 = .pointer (some ⟨bw, 0, none⟩) ∧ lk ρ' 12 = .int .i64 (n : Int) ∧ Γ' = own 31 1 (.slice O out.length ko) out.length (u32s out) :: wkRow bw A l.length c p args O out.length ko x f :: Γ3) 4
  · exact ⟨0, none, 0, [], none, Γ, rfl, .refl _, by simp, rfl, rfl, rfl, rfl, rfl, rfl, rfl⟩
  rintro j IH ρ' _ ⟨n, O, ko, out, f, Γ3, hnj, hsub, hf, hst, e1, e2, e3, e11, e12, rfl⟩
  refine TK.know5 e1 e2 e3 e11 e12 ?_
  by_cases hn : n ≤ 3
  · refine m_run ?_
    (apply TL.callV; exact rfl; exact callB_of (by kernel_rfl); exact rfl; exact fun _ h => h)
    exact takes_t p args _
    rintro _ _ ⟨rfl, rfl⟩
    rw [hp]
    refine m_run ?_
    have hlen : out.length + (Rch.goes (linksOf l p args) (nxL l) n ((who, 3), [])).length ≤ 1000000 := by
      have h1 := rchP_len x (Rch.allC (linksOf l p args) (nxL l) (who, 3) n) ([], none)
      rw [← hst] at h1
      have h2 := allC_le (linksOf l p args) (nxL l) (who, 3) hKl (show n + 1 ≤ 4 by omega)
      rw [Rch.allC_succ, List.length_append] at h2
      rw [Rch.goes_flat]
      simp only [List.length_nil] at h1
      omega
    (apply TL.callV; exact rfl; exact callB_of (by kernel_rfl); exact rfl; exact fun _ h => h)
    exact from_t bw A c l p args x Γ h n who 3 ⟨who, 3, none, 0, []⟩ O ko out f Γ3 hsub ⟨has_srcnil _ _, Nat.le_refl _⟩ (by show 0 + n ≤ 10; omega) (Nat.le_refl _) hn hf hlen
    rintro _ _ ⟨rfl, O2, k2, out2, f2, Γ4, rfl, hsub4, hf2, hst2⟩
    refine m_run ?_
    refine IH (j - 1) _ _ (by omega) ⟨n + 1, O2, k2, out2, f2, Γ4, by omega, hsub.trans hsub4, hf2, ?_, rfl, rfl, rfl, rfl, congrArg (Value.int .i64) (i64_succ n (by omega)), rfl⟩
    rw [hst2, hst, Rch.allC_succ, List.foldl_append]
    show (Rch.goes (linksOf l p args) (nxL l) n ((who, 3), [])).foldl (rchP x) _ = _
    rw [Rch.goes_flat]
  obtain rfl : n = 4 := by omega
  refine m_run ?_
  (apply TK.ret1; exact rfl; exact rfl; (exact m_val))
  exact ⟨_, rfl, bw, O, ko, out, f, Γ3, rfl, rfl, hsub, hf, hst⟩
set_option maxRecDepth 100000 in
theorem rchain_t (A : Option Addr) (c : Nat) (l : List Cr) (who p : Nat) (args : Int) (x : Nat) (Γ : List HP) (h : Crs A l Γ) (hl : l.length ≤ 50) :
    FnV Try.prog 16 [.slice A l.length c, .int .u32 (who : Int), .int .u32 (p : Int), .int .i64 args, .int .u32 (x : Int)] Γ fun v Γ' => ∃ f : Option Wy, v = .tuple #[wayV f, .bool f.isSome] ∧ Γ.Sublist Γ' ∧ (∀ s, f = some s → s.ok Γ') ∧ f.map (·.w) = chainS l who p args x (-1) := by
  refine Fn.enter Try.func16 rfl rfl rfl fun E => ?_
  refine m_run ?_
  (apply TL.callV; exact rfl; exact callB_of (by kernel_rfl); exact rfl; exact fun _ h => h)
  exact walked_t A c l who p args x _ h hl
  rintro _ _ ⟨bw, O, ko, out, f, Γ3, rfl, rfl, hsub, hf, hst⟩
  have hfw : f.map (·.w) = chainS l who p args x (-1) := by
    unfold chainS
    rw [unskip_no]
    have h1 := congrArg Prod.snd hst
    simp only at h1
    rw [h1]
    split
    · exact ((rchP_spec x _ ([], none) List.nodup_nil).2.2).trans rfl
    · rfl
  refine m_run ?_
  refine TK.drawS mixed rfl ?_
  refine m_take (At.mk : At 0) ?_; refine m_take (At.mk : At 1) ?_; refine m_take (At.mk : At 2) ?_; refine m_take (At.mk : At 3) ?_; refine m_take (At.mk : At 4) ?_; refine m_take (At.mk : At 5) ?_; refine m_take (At.mk : At 6) ?_; refine m_take (At.mk : At 7) ?_; refine m_take (At.mk : At 8) ?_; refine m_take (At.mk : At 9) ?_
  refine TA.done (by kernel_rfl) ?_
  refine m_run ?_
  (apply TK.ret2; exact rfl; exact rfl; exact (rfl : _ = wayV f); exact (rfl : _ = Value.bool f.isSome))
  exact ⟨_, rfl, f, rfl, .cons _ (.cons _ hsub), fun s hs => Wy.ok_tl (Wy.ok_tl (hf s hs)), hfw⟩
end Go.Proofs.Ythbcfamfaicneaa.E
