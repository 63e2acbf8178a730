/- MY OWN LAYER, FOURTEENTH PART: words of 32 bits; parts of arrays and strings; copy. P is a variable. -/
import Derived.Test.YthbcfamfaicneaaSb
import Derived.Laws.CopyRow
namespace Go.Proofs.Ythbcfamfaicneaa.E
open Go Go.RowKit
/-- A word as a value. -/
def w32 (x : BitVec 32) : Value := .int .u32 (x.toNat : Int)
theorem w32_nat (n : Nat) : Value.int .u32 (IntKind.u32.wrap (n : Int)) = w32 (BitVec.ofNat 32 n) := by
  unfold w32
  rw [wrap_nat rfl, BitVec.toNat_ofNat]; rfl
section
variable {P : Program} {Sw : World → Prop} {ρ : Env} {d : Nat} {ty : TypeId} {pos : String} {after : Array Edge} {t t' : TypeId} {x y : Operand} {a b : BitVec 32}
theorem PV.addW (ea : ev ρ x = w32 a) (eb : ev ρ y = w32 b) : PV P ρ Sw ⟨some d, .binOp .add t x y t', ty, pos, after, none⟩ (w32 (a + b)) := by
  have h := PV.arith (P := P) (S := Sw) (d := d) (ty := ty) (pos := pos) (after := after) (t := t) (t' := t') (op := .add) ea eb rfl
  have e : Value.int .u32 (IntKind.u32.wrap ((a.toNat : Int) + (b.toNat : Int))) = w32 (a + b) := by
    rw [← Int.natCast_add, w32_nat]
    congr 1
  rwa [e] at h
theorem PV.xorW (ea : ev ρ x = w32 a) (eb : ev ρ y = w32 b) : PV P ρ Sw ⟨some d, .binOp .xor t x y t', ty, pos, after, none⟩ (w32 (a ^^^ b)) := by
  have h := PV.bits (P := P) (S := Sw) (d := d) (ty := ty) (pos := pos) (after := after) (t := t) (t' := t') (op := .xor) rfl ea eb
  have e : Value.int .u32 (bitsOf .xor .u32 (a.toNat : Int) (b.toNat : Int)) = w32 (a ^^^ b) := by
    rw [bits_xor rfl a.isLt b.isLt]; rfl
  rwa [e] at h
theorem PV.andW (ea : ev ρ x = w32 a) (eb : ev ρ y = w32 b) : PV P ρ Sw ⟨some d, .binOp .and t x y t', ty, pos, after, none⟩ (w32 (a &&& b)) := by
  have h := PV.bits (P := P) (S := Sw) (d := d) (ty := ty) (pos := pos) (after := after) (t := t) (t' := t') (op := .and) rfl ea eb
  have e : Value.int .u32 (bitsOf .and .u32 (a.toNat : Int) (b.toNat : Int)) = w32 (a &&& b) := by
    rw [bits_and rfl a.isLt b.isLt]; rfl
  rwa [e] at h
theorem PV.orW (ea : ev ρ x = w32 a) (eb : ev ρ y = w32 b) : PV P ρ Sw ⟨some d, .binOp .or t x y t', ty, pos, after, none⟩ (w32 (a ||| b)) := by
  have h := PV.bits (P := P) (S := Sw) (d := d) (ty := ty) (pos := pos) (after := after) (t := t) (t' := t') (op := .or) rfl ea eb
  have e : Value.int .u32 (bitsOf .or .u32 (a.toNat : Int) (b.toNat : Int)) = w32 (a ||| b) := by
    rw [bits_or rfl a.isLt b.isLt]; rfl
  rwa [e] at h
theorem PV.notW (ea : ev ρ x = w32 a) : PV P ρ Sw ⟨some d, .unOp .xor t x, ty, pos, after, none⟩ (w32 (~~~a)) := by
  have h := PV.compl (P := P) (S := Sw) (d := d) (ty := ty) (pos := pos) (after := after) (t := t) ea
  have e : Value.int .u32 (bitsOf .xor .u32 (if IntKind.u32.signed then -1 else IntKind.u32.max) (a.toNat : Int)) = w32 (~~~a) := by
    have : (if IntKind.u32.signed then -1 else IntKind.u32.max) = ((4294967295 : Nat) : Int) := rfl
    rw [this, bits_xor rfl (by decide) a.isLt]
    unfold w32
    congr 2
  rwa [e] at h
theorem PV.shlW {k : Nat} {q' : IntKind} {c : Int} (ea : ev ρ x = w32 a) (eb : ev ρ y = .int q' c) (hc : c = (k : Int)) (hk : k ≤ 32) : PV P ρ Sw ⟨some d, .binOp .shl t x y t', ty, pos, after, none⟩ (w32 (a <<< k)) := by
  have h := PV.shlN (P := P) (Sw := Sw) (d := d) (ty := ty) (pos := pos) (after := after) (t := t) (t' := t') (n := a.toNat) (m := k) ea eb hc hk rfl
  have e : Value.int .u32 ((a.toNat * 2 ^ k % 2 ^ IntKind.u32.bits : Nat) : Int) = w32 (a <<< k) := by
    unfold w32
    rw [BitVec.toNat_shiftLeft, Nat.shiftLeft_eq]; rfl
  rwa [e] at h
theorem PV.shrW {k : Nat} {q' : IntKind} {c : Int} (ea : ev ρ x = w32 a) (eb : ev ρ y = .int q' c) (hc : c = (k : Int)) (hk : k ≤ 32) : PV P ρ Sw ⟨some d, .binOp .shr t x y t', ty, pos, after, none⟩ (w32 (a >>> k)) := by
  have h := PV.shrN (P := P) (Sw := Sw) (d := d) (ty := ty) (pos := pos) (after := after) (t := t) (t' := t') (n := a.toNat) (m := k) ea eb hc hk
  have e : Value.int .u32 ((a.toNat / 2 ^ k : Nat) : Int) = w32 (a >>> k) := by
    unfold w32
    rw [BitVec.toNat_ushiftRight, Nat.shiftRight_eq_div_pow]
  rwa [e] at h
theorem PV.conv8W {c : UInt8} {r r' : TR} (ea : ev ρ x = .int .u8 (c.toNat : Int)) (ht : TabOk P t r) (ht' : TabOk P t' r') (hq : r'.und = .int .u32) : PV P ρ Sw ⟨some d, .convert t t' x, ty, pos, after, none⟩ (w32 (BitVec.ofNat 32 c.toNat)) := by
  have h := PV.conv (P := P) (S := Sw) (d := d) (ty := ty) (pos := pos) (after := after) ea ht ht' hq
  rwa [w32_nat] at h
theorem PV.convW8 {r r' : TR} (ea : ev ρ x = w32 a) (ht : TabOk P t r) (ht' : TabOk P t' r') (hq : r'.und = .int .u8) : PV P ρ Sw ⟨some d, .convert t t' x, ty, pos, after, none⟩ (.int .u8 ((b8 a.toNat).toNat : Int)) := by
  have h := PV.conv (P := P) (S := Sw) (d := d) (ty := ty) (pos := pos) (after := after) ea ht ht' hq
  rwa [u8_wrap] at h
/-- x[i] of an array that is a value. -/
theorem PV.indexArr {e n i : Nat} {q : IntKind} {vs : List Value} {v : Value} {r r' : TR} (ea : ev ρ x = .agg vs.toArray) (eb : ev ρ y = .int q (i : Int)) (ht : TabOk P t r) (hq : r.und = .array n e) (ht' : TabOk P e r') (hs : (r'.size == 1) = true) (hg : isAggD r'.und = false) (hi : i < n) (hv : vs[i]? = some v) : PV P ρ Sw ⟨some d, .index t x y, ty, pos, after, none⟩ v := fun w _ => by
  have hs1 : r'.size = 1 := by simpa using hs
  have h0 : (0 : Int) ≤ (i : Int) := by omega
  have h1 : (i : Int) < (n : Int) := by omega
  have hlt := (List.getElem?_eq_some_iff.1 hv).1
  have hex : (vs.toArray.extract i (i + 1)) = #[v] := by
    have := (List.getElem?_eq_some_iff.1 hv).2
    apply Array.ext'
    simp only [Array.toList_extract, List.extract, List.drop_eq_getElem_cons hlt, this]
    rw [show i + 1 - i = 1 by omega]
    rfl
  simp [execOp, Instr.index, asIntOf, ea, eb, ht.run_und, hq, ht'.run_size, hs1, hi, part, ht'.run_agg, hg, hv]
/-- a[i:j] of an array by its address. -/
theorem PV.sliceArr {e n i j b0 o : Nat} {lo hi : Option Operand} {r r' : TR} (ea : ev ρ x = .pointer (some ⟨b0, o, none⟩)) (ht : TabOk P t r) (hq : r.und = .array n e) (ht' : TabOk P e r') (hlo : LoIs ρ lo i) (hhi : HiIs ρ n hi j) (hij : i ≤ j) (hj : j ≤ n) :
    PV P ρ Sw ⟨some d, .slice t x lo hi none, ty, pos, after, none⟩ (.slice (some (if n = i then ⟨b0, o, none⟩ else ⟨b0, o + i * r'.size, none⟩)) (j - i) (n - i)) := fun w _ => by
  have h0 : (0 : Int) ≤ (i : Int) := by omega
  have h1 : (i : Int) ≤ (j : Int) := by omega
  have h2 : (j : Int) ≤ (n : Int) := by omega
  have h3 : (0 : Int) ≤ (j : Int) := by omega
  have h4 : i ≤ n := by omega
  cases hlo with
  | none =>
    cases hhi with
    | none => simp [execOp, Instr.sliceAt, Instr.sliceBounds, Instr.sureAddr, ea, ht.run_und, hq, ht'.run_size, add_at]
    | some e2 => simp [execOp, Instr.sliceAt, Instr.sliceBounds, Instr.sliceBound, asIntOf, Instr.sureAddr, ea, e2, ht.run_und, hq, ht'.run_size, h3, hj, add_at]
  | some e1 =>
    cases hhi with
    | none => simp [execOp, Instr.sliceAt, Instr.sliceBounds, Instr.sliceBound, asIntOf, Instr.sureAddr, ea, e1, ht.run_und, hq, ht'.run_size, h0, h4, add_at]
    | some e2 => simp [execOp, Instr.sliceAt, Instr.sliceBounds, Instr.sliceBound, asIntOf, Instr.sureAddr, ea, e1, e2, ht.run_und, hq, ht'.run_size, h0, h3, hij, hj, add_at]
/-- s[i:j] of a string. -/
theorem PV.sliceStr {i j : Nat} {l : List UInt8} {lo hi : Option Operand} {r : TR} (ea : ev ρ x = .string (S l)) (ht : TabOk P t r) (hq : r.und = .string) (hlo : LoIs ρ lo i) (hhi : HiIs ρ l.length hi j) (hij : i ≤ j) (hj : j ≤ l.length) :
    PV P ρ Sw ⟨some d, .slice t x lo hi none, ty, pos, after, none⟩ (.string (S ((l.drop i).take (j - i)))) := fun w _ => by
  have h0 : (0 : Int) ≤ (i : Int) := by omega
  have h1 : (i : Int) ≤ (j : Int) := by omega
  have h2 : (j : Int) ≤ (l.length : Int) := by omega
  have h3 : (0 : Int) ≤ (j : Int) := by omega
  have h4 : i ≤ l.length := by omega
  have hex : ∀ i j, i ≤ j → (S l).extract i j = S ((l.drop i).take (j - i)) := by
    intro i j _
    apply ByteArray.ext
    simp [S, ByteArray.data_extract]
  cases hlo with
  | none =>
    cases hhi with
    | none => simp [execOp, Instr.sliceAt, Instr.slice, Instr.sliceBounds, ea, ht.run_und, hq]
    | some e2 => simp [execOp, Instr.sliceAt, Instr.slice, Instr.sliceBounds, Instr.sliceBound, asIntOf, ea, e2, ht.run_und, hq, S_size, h3, hj, hex]
  | some e1 =>
    cases hhi with
    | none => simp [execOp, Instr.sliceAt, Instr.slice, Instr.sliceBounds, Instr.sliceBound, asIntOf, ea, e1, ht.run_und, hq, S_size, h0, h4, hex]
    | some e2 => simp [execOp, Instr.sliceAt, Instr.slice, Instr.sliceBounds, Instr.sliceBound, asIntOf, ea, e1, e2, ht.run_und, hq, S_size, h0, h3, hij, hj, hex]
end
section
variable {cx : Cx} {ops : Array Oper} {K : Act → World → Prop} {rest : List Oper} {ρ : Env} {ds : List Deferred} {Γ : List HP} {d : Nat} {ty : TypeId} {pos : String} {after : Array Edge}
/-- copy into a row, of what is read at a place that is there. -/
theorem TL.copyRow {t e t2 : TypeId} {x y : Operand} {g o n cap m c k : Nat} {A : Addr} {cur cur' news : List Value} {r r' : TR} {Δ : List HP} (i : Nat) (hi : Γ[i]? = some (row g cur t2)) (hd : Nat.blt d cx.n = true) (ht : TabOk cx.P t r) (hq : r.und = .slice e) (ht' : TabOk cx.P e r') (hsz : (r'.size == 1) = true)
    (ea : ev ρ x = .slice (some ⟨g, o, none⟩) n cap) (eb : ev ρ y = .slice (some A) m c) (hs : has Γ (srcAt 1 (some A) m news)) (h1 : ∀ u ∈ news, u.oneCell' = true) (hk : k = Nat.min m n) (hfit : o + k ≤ cur.length) (hcur : cur.take o ++ news.take k ++ cur.drop (o + k) = cur') (hΔ : Γ.set i (row g cur' t2) = Δ)
    (h : TL cx ops K rest ((d, .int .i64 (k : Int)) :: ρ) ds Δ) {ts : Array TypeId} (hts : ts[0]? = some t) (h2 : ts.size = 2) : TL cx ops K (⟨some d, .call ⟨.builtin .copy, #[x, y], ts⟩, ty, pos, after, none⟩ :: rest) ρ ds Γ := by
  subst hcur; subst hΔ
  refine .mem fun m0 hm0 => ?_
  have hlen : news.length = m := by have := (hs m0 hm0).1; omega
  have hkl : (news.take k).length = k := by rw [List.length_take, hlen, hk]; exact Nat.min_eq_left (Nat.min_le_left _ _)
  refine .act (X := Unit) (φ := fun _ => True) (v := fun _ => .int .i64 (k : Int)) (Δ := fun _ => Γ.set i (row g (cur.take o ++ news.take k ++ cur.drop (o + k)) t2)) hd (fun w hS => ?_) (fun _ _ => h)
  obtain ⟨_, inf, hinf, h5, _, _⟩ := id ht'
  have hu : cx.P.underlying t = some (.slice e) := by rw [← hq]; exact ht.1
  have hblk := hS.block hi
  have hsz1 : r'.size = 1 := by simpa using hsz
  have hrun := run_copy_row (P := cx.P) w t (ts.getD 1 0) ty e g o n cap A m c cur.toArray t2 (news.take k) hu (by rw [hinf]; simp [h5, hsz1]) hblk (by rw [hkl, hk])
    (fun j v hj => by
      rw [List.getElem?_take] at hj
      split at hj
      · obtain ⟨_, _, mm, hmm, hw⟩ := hS
        obtain ⟨_, h6⟩ := hs mm hmm
        rcases h6 with h6 | ⟨b, o', hA, hc⟩
        · rw [h6] at hj; cases hj
        · injection hA with hA
          subst hA
          rw [add_at]
          obtain ⟨cs, ee, fr, hb, hv⟩ := hc j v hj
          simp [World.cell?, hw _ _ hb, hv]
      · cases hj) (by rw [hkl]; simpa using hfit) (fun u hu => h1 u (List.mem_of_mem_take hu))
  rw [hkl] at hrun
  have hgo : goInt k = .int .i64 (k : Int) := rfl
  rw [hgo] at hrun
  have hts2 : ts = #[t, ts.getD 1 0] := by
    apply Array.ext
    · simp [h2]
    · intro j hj1 hj2
      have : j = 0 ∨ j = 1 := by simp at hj2; omega
      rcases this with rfl | rfl
      · have := (Array.getElem?_eq_some_iff.1 hts).2; simpa using this
      · simp [Array.getD, h2]
  have hrun2 : (execOp (ev ρ) ⟨some d, .call ⟨.builtin .copy, #[x, y], ts⟩, ty, pos, after, none⟩).run cx.P w = .ok (.value (.int .i64 (k : Int))) (w.setRow g (cur.take o ++ news.take k ++ cur.drop (o + k)).toArray) := by
    rw [hts2]
    simp only [execOp, resolve, invoke, builtin, List.map_toArray, List.map_cons, List.map_nil, ea, eb, Sem.run_bind, Sem.run_pure, Result.andThen_ok]
    simp only at hrun
    rw [hrun]
    rfl
  exact ⟨(), _, trivial, hS.put (w' := w.setRow g (cur.take o ++ news.take k ++ cur.drop (o + k)).toArray) hi rfl rfl rfl (setRow_heap w g _ _ t2 _ hblk) (fun k' hk' q hq => (setRow_other w g _ k' hk').trans hq), hrun2⟩
end
end Go.Proofs.Ythbcfamfaicneaa.E
