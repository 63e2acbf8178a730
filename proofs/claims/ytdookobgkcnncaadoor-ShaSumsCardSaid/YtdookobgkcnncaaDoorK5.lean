/- copies (law 02), walked: byte strings in memory of one's own. -/
import Derived.Test.YtdookobgkcnncaaDoorJ5
import Derived.Test.YtdookobgkcnncaaDoorK2
namespace Go.Proofs.YtdookobgkcnncaaDoor.E
open Go Go.RowKit Go.Proofs
attribute [local irreducible] TK TL TQ TA Fn PV
/-- A byte string in memory of one's own. -/
def ownS (s : Sl UInt8) : HP := bsA 5 (.slice s.A s.l.length s.c) s.l
theorem ownS_src {s : Sl UInt8} {m : Mem} (h : ownS s m) : srcAt 1 s.A s.l.length (bytesV s.l) m := bs_src h
abbrev copiesAt (A : Option Addr) (k : Nat) (ds : List (Sl UInt8)) (Γ : List HP) : List HP := own 30 1 (.slice A ds.length k) ds.length (ds.map Sl.v) :: alls ownS ds :: Γ
theorem copies_more {A : Option Addr} {k c : Nat} {ds : List (Sl UInt8)} {l : List UInt8} {A2 : Option Addr} {Γ : List HP} {m : Mem} (h : all (bsA 5 (.slice A2 l.length c) l :: own 30 1 (.slice A (ds.length + 1) k) (ds.length + 1) (ds.map Sl.v ++ [.slice A2 l.length c]) :: alls ownS ds :: Γ) m) : all (copiesAt A k (ds ++ [⟨A2, c, l⟩]) Γ) m := by
  have h1 : all (own 30 1 (.slice A (ds.length + 1) k) (ds.length + 1) (ds.map Sl.v ++ [.slice A2 l.length c]) :: alls ownS ds :: bsA 5 (.slice A2 l.length c) l :: Γ) m := all_perm ((List.Perm.swap _ _ _).trans (.cons _ (.swap _ _ _))) h
  refine sep_mono h1 (fun q hq => ?_) (fun q hq => ?_)
  · rw [List.length_append, List.map_append]; exact hq
  · exact sep_mono (sep_assoc' hq) (fun r hr => alls_append.2 (sep_mono hr (fun _ => id) (fun _ h => alls_one.2 h))) (fun _ => id)
set_option maxRecDepth 100000 in
set_option maxHeartbeats 1000000 in
theorem copies_t (A : Option Addr) (c : Nat) (ss : List (Sl UInt8)) (Γ : List HP) (hs : has Γ (srcAt 1 A ss.length (ss.map Sl.v))) (hss : ∀ s ∈ ss, has Γ (srcAt 1 s.A s.l.length (bytesV s.l))) (hn : ss.length ≤ 200) (hlen : (flatS ss).length ≤ 16384) :
    FnV Tryd.prog 12 [.slice A ss.length c] Γ fun v Γ' => ∃ A' k ds, v = .slice A' ds.length k ∧ ds.length ≤ k ∧ ds.map (·.l) = ss.map (·.l) ∧ (∀ d ∈ ds, d.l.length ≤ d.c) ∧ Γ' = copiesAt A' k ds Γ := by
  refine Fn.enter Tryd.func12 rfl rfl rfl fun E => ?_
  refine m_run ?_
  refine TK.free (H := alls ownS []) (fun m h => alls_nil h) ?_
  refine TK.free (H := own 30 1 (.slice none 0 0) 0 []) (fun m hm => own_nil _ _ hm) ?_
  apply TK.iter (fun j ρ' Γ' => ∃ (i : Nat) (A' : Option Addr) (k : Nat) (ds : List (Sl UInt8)), i + j = ss.length ∧ ds.length = i ∧ ds.map (·.l) = (ss.take i).map (·.l) ∧ (∀ d ∈ ds, d.l.length ≤ d.c) ∧ lk ρ' 0 = .slice A ss.length c ∧ lk ρ' 3 = .slice A' ds.length k ∧ ds.length ≤ k ∧ lk ρ' 4 = .int .i64 (i : Int) ∧ Γ' = copiesAt A' k ds Γ) ss.length
  · exact ⟨0, none, 0, [], Nat.zero_add _, rfl, rfl, (fun _ h => nomatch h), rfl, rfl, Nat.le_refl _, rfl, rfl⟩
  rintro j IH ρ' _ ⟨i, A1, k1, ds, hij, hdl, hds, hdc, e0, e3, hk1, e4, rfl⟩
  refine TK.know3 e0 e3 e4 ?_
  by_cases hi : i < ss.length
  · obtain ⟨s, hsi⟩ : ∃ s, ss[i]? = some s := ⟨ss[i], by simp [hi]⟩
    have hmem := List.mem_of_getElem? hsi
    have hsrc := hss s hmem
    refine TK.mem fun m0 hm0 => ?_
    obtain ⟨b2, o2, rfl⟩ := src_some (has_tls (has_tls hs) m0 hm0) (by rw [List.length_map]; omega)
    clear hm0 m0
    have hcell := has_get hs (slsV_get hsi)
    have hl1 := flatS_len ss (i + 1)
    rw [flatS_take hsi, List.length_append] at hl1
    refine m_run ?_
    (apply TL.buildSlice; exact rfl; exact tb rfl; exact rfl; exact tb rfl; exact rfl; exact rfl; exact rfl; exact rfl; (exact m_lst))
    intro b3
    refine m_run ?_
    (apply TL.appB 0; exact rfl; exact rfl; exact tb rfl; exact rfl; exact tb rfl; exact rfl; exact rfl; exact rfl; exact rfl; exact fun _ h => bs_row (l := []) rfl rfl (by decide) h; exact rfl; (exact m_hsrc))
    · rw [List.length_nil]; omega
    · exact fun _ => (rfl : _ = _ :: _)
    intro A2 c2 hc2
    rw [List.nil_append] at hc2 ⊢
    refine m_run ?_
    (apply TL.buildSlice; exact rfl; exact tb rfl; exact rfl; exact tb rfl; exact rfl; exact rfl; exact rfl; exact rfl; (exact m_lst))
    intro b5
    refine m_run ?_
    (apply TL.append 2; exact rfl; exact rfl; exact tb rfl; exact rfl; exact tb rfl; exact rfl; exact rfl; exact rfl)
    · exact fun _ h => h
    · exact rfl
    · exact has_src_row 0 rfl rfl
    · exact one_of rfl
    · show (ds.length + 1) * 24 ≤ _; omega
    · show ds.length + 1 ≤ maxLen; unfold maxLen; omega
    · exact fun _ => (rfl : _ = _ :: _ :: _ :: _)
    intro A3 k3 hk3
    refine m_run ?_
    refine TK.sub (Δ := bsA 5 (.slice A2 s.l.length c2) s.l :: own 30 1 (.slice A3 (ds.length + 1) k3) (ds.length + 1) (ds.map Sl.v ++ [.slice A2 s.l.length c2]) :: alls ownS ds :: Γ) (by (repeat (first | exact List.Sublist.refl _ | apply List.Sublist.cons_cons | apply List.Sublist.cons))) ?_
    refine TK.imp (fun m hm => copies_more hm) ?_
    refine IH (j - 1) _ _ (by omega) ⟨i + 1, A3, k3, ds ++ [⟨A2, c2, s.l⟩], by omega, by rw [List.length_append, hdl]; rfl, ?_, ?_, rfl, ?_, ?_, congrArg (Value.int .i64) (i64_succ i (by omega)), rfl⟩
    · rw [List.map_append, hds, List.take_add_one, hsi, List.map_append]; rfl
    · intro d hd
      rcases List.mem_append.1 hd with h | h
      · exact hdc d h
      · simp only [List.mem_cons, List.not_mem_nil, or_false] at h
        subst h; exact hc2
    · rw [List.length_append]; rfl
    · rw [List.length_append]; exact hk3
  obtain rfl : i = ss.length := by omega
  rw [List.take_length] at hds
  refine m_run ?_
  (apply TK.ret1; exact rfl; exact rfl; (exact m_val))
  exact ⟨_, rfl, A1, k1, ds, rfl, hk1, hds, hdc, rfl⟩
end Go.Proofs.YtdookobgkcnncaaDoor.E
