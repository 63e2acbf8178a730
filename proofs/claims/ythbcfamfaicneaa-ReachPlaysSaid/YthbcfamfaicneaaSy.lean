/- MY OWN LAYER, ELEVENTH PART: make of a slice, bytes as a string. P is a variable. -/
import Derived.Test.YthbcfamfaicneaaSx
import Derived.Laws.BytesArg
import Derived.Laws.MakeOwn
namespace Go.Proofs.Ythbcfamfaicneaa.E
open Go Go.RowKit
section
variable {P : Program} {E : World} {ρ : Env} {Γ : List HP} {d : Nat} {ty : TypeId} {pos : String} {after : Array Edge}
/-- string(b) -/
theorem PV.convBS {t t' e : TypeId} {x : Operand} {A : Option Addr} {n c : Nat} {l : List UInt8} {r r' r'' : TR} (ea : ev ρ x = .slice A n c) (ht : TabOk P t r) (hq : r.und = .slice e) (he : TabOk P e r'') (hu : r''.und = .int .u8) (ht' : TabOk P t' r') (hq' : r'.und = .string) (hs : has Γ (srcAt 1 A n (bytesV l))) :
    PV P ρ (Sat E Γ) ⟨some d, .convert t t' x, ty, pos, after, none⟩ (.string (S l)) := fun w hw => by
  obtain ⟨_, _, m, hm, hh⟩ := id hw
  obtain ⟨h1, h2⟩ := hs m hm
  have hln : l.length = n := by rw [bytesV_length, Nat.mul_one] at h1; exact h1
  have hrun : (convert t t' (.slice A n c)).run P w = .ok (.string (S l)) w := by
    rcases Nat.eq_zero_or_pos l.length with h0 | h0
    · obtain rfl : l = [] := List.eq_nil_of_length_eq_zero h0
      obtain rfl : n = 0 := hln.symm
      cases A with
      | none => exact run_convert_bytes_nil w t e (by rw [ht.1, hq]) (by rw [he.1, hu]) 0 c t' (by rw [ht'.1, hq'])
      | some a =>
        rw [run_convert_bytes_string w t t' e _ 0 c (by rw [ht.1, hq]) (by rw [he.1, hu]) (by rw [ht'.1, hq'])]
        simp [Conv.bytesToString, loadCells]
        rfl
    · rcases h2 with h2 | ⟨b, o, rfl, h2⟩
      · have h9 : (bytesV l).length = 0 := by rw [h2]; rfl
        rw [bytesV_length] at h9; omega
      · have hlen : (l.map fun c => (c.toNat : Int)).length = n := by simp [hln]
        have := run_convert_bytes_arg w t e (by rw [ht.1, hq]) (by rw [he.1, hu]) b o n c (l.map fun c => (c.toNat : Int)) hlen (fun i hi => by
          have hil : i < l.length := by omega
          obtain ⟨cc, ee, fr, h3, h4⟩ := h2 i (.int .u8 (l[i].toNat : Int)) (by simp [bytesV, hil])
          have h5 := hh _ _ h3
          simp [World.cell?, h5, h4, List.getD, hil]) t' (by rw [ht'.1, hq'])
        rw [this]
        congr 2
        unfold strOfNums S
        congr 1
        congr 1
        rw [List.map_map]
        exact (List.map_congr_left (fun c _ => by simp)).trans (List.map_id l)
  simp [execOp, ea, hrun]
end
section
variable {cx : Cx} {ops : Array Oper} {K : Act → World → Prop} {rest : List Oper} {ρ : Env} {ds : List Deferred} {Γ : List HP} {d : Nat} {ty : TypeId} {pos : String} {after : Array Edge}
theorem made_one (z : Value) (n : Nat) : (madeCells #[z] n) = (List.replicate n z).toArray := by
  apply Array.ext'
  apply List.ext_getElem?
  intro i
  simp [madeCells, List.getElem?_replicate]
  by_cases h : i < n <;> simp [h, Nat.mod_one]
/-- make of a slice whose elements have one cell. -/
theorem TL.makeN {t e : TypeId} {x y : Operand} {q q' : IntKind} {n c : Nat} {r r' : TR} (hd : Nat.blt d cx.n = true) (ea : ev ρ x = .int q (n : Int)) (eb : ev ρ y = .int q' (c : Int)) (ht : TabOk cx.P t r) (hq : r.und = .slice e) (ht' : TabOk cx.P e r') (hsz : (r'.size == 1) = true) (hz : r'.zero.cells = #[r'.zero])
    (hle : n ≤ c) (hb : r'.bytes * c ≤ 281474976710656) (h63 : c ≤ maxLen) (h : ∀ b, TL cx ops K rest ((d, .slice (some ⟨b, 0, none⟩) n c) :: ρ) ds (own e 1 (.slice (some ⟨b, 0, none⟩) n c) n (List.replicate n r'.zero) :: Γ)) : TL cx ops K (⟨some d, .makeSlice t x y, ty, pos, after, none⟩ :: rest) ρ ds Γ :=
  .act (X := Nat) (φ := fun _ => True) (v := fun b => .slice (some ⟨b, 0, none⟩) n c) (Δ := fun b => own e 1 (.slice (some ⟨b, 0, none⟩) n c) n (List.replicate n r'.zero) :: Γ) hd (fun w hs => by
    obtain ⟨_, i, hi, h1, h2, h3⟩ := id ht'
    have hsz' : r'.size = 1 := by simpa using hsz
    have hrun := run_make (P := cx.P) w t e i r'.zero (by rw [ht.1, hq]) hi h3 q q' (n : Int) (c : Int) (by omega) (by omega) (by rw [h2, ← Int.natCast_mul]; omega) (by unfold maxLen at h63; omega)
    rw [Int.toNat_natCast, Int.toNat_natCast, h1, hsz', Nat.mul_one, hz, made_one] at hrun
    refine ⟨w.heap.size, _, trivial, (hs.alloc (.cells (List.replicate c r'.zero).toArray e)).imp fun m hm => sep_mono hm (fun p hp => ⟨by rw [List.length_replicate, Nat.mul_one], .inr ⟨w.heap.size, c, List.replicate c r'.zero, rfl, hle, h63, by rw [List.length_replicate, Nat.mul_one], by rw [List.take_replicate, Nat.mul_one, Nat.min_eq_left hle], hp⟩⟩) (fun _ => id), ?_⟩
    rw [show execOp (ev ρ) ⟨some d, .makeSlice t x y, ty, pos, after, none⟩ = (do pure (.value (← Instr.makeSlice t (ev ρ x) (ev ρ y)))) from rfl, ea, eb]
    simp only [Sem.run_bind, hrun, Result.andThen_ok]
    rfl) (fun b _ => h b)
end
end Go.Proofs.Ythbcfamfaicneaa.E
