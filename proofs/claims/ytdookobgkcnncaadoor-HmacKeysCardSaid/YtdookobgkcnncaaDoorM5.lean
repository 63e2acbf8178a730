/- hmac: a key's block, begun, New, walked. -/
import Derived.Test.YtdookobgkcnncaaDoorM1
import Derived.Test.YtdookobgkcnncaaDoorK2
namespace Go.Proofs.YtdookobgkcnncaaDoor.E
open Go Go.RowKit Go.Proofs
section
variable {cx : Cx} {ops : Array Oper} {K : Act → World → Prop} {rest : List Oper} {ρ : Env} {ds : List Deferred} {Γ : List HP} {d : Nat} {ty : TypeId} {pos : String} {after : Array Edge}
/-- copy into a row, of what is read anywhere, or nowhere. -/
theorem TL.copyAny {t e t2 : TypeId} {x y : Operand} {g o n cap m c k : Nat} {A : Option Addr} {cur cur' news : List Value} {r r' : TR} {Δ : List HP} (i : Nat) (hi : Γ[i]? = some (row g cur t2)) (hd : Nat.blt d cx.n = true) (ht : TabOk cx.P t r) (hq : r.und = .slice e) (ht' : TabOk cx.P e r') (hsz : (r'.size == 1) = true)
    (ea : ev ρ x = .slice (some ⟨g, o, none⟩) n cap) (eb : ev ρ y = .slice A m c) (hs : has Γ (srcAt 1 A m news)) (h1 : ∀ u ∈ news, u.oneCell' = true) (hk : k = Nat.min m n) (hfit : o + k ≤ cur.length) (hcur : cur.take o ++ news.take k ++ cur.drop (o + k) = cur') (hΔ : Γ.set i (row g cur' t2) = Δ)
    (h : TL cx ops K rest ((d, .int .i64 (k : Int)) :: ρ) ds Δ) {t' : TypeId} : TL cx ops K (⟨some d, .call ⟨.builtin .copy, #[x, y], #[t, t']⟩, ty, pos, after, none⟩ :: rest) ρ ds Γ := by
  cases A with
  | some a => exact TL.copyRow i hi hd ht hq ht' hsz ea eb hs h1 hk hfit hcur hΔ h rfl rfl
  | none =>
    refine .mem fun m0 hm0 => ?_
    obtain ⟨hl, h6 | ⟨_, _, h6, _⟩⟩ := hs m0 hm0
    · subst h6
      have hm : m = 0 := by simpa using hl.symm
      subst hm
      have hk0 : k = 0 := by rw [hk]; exact Nat.zero_min _
      subst hk0
      have hcc : cur' = cur := by rw [← hcur]; simp
      subst hcc
      have hΔ2 : Γ = Δ := by
        rw [← hΔ]
        have := (List.getElem?_eq_some_iff.1 hi)
        obtain ⟨h7, h8⟩ := this
        rw [← h8]; exact (List.set_getElem_self h7).symm
      subst hΔ2
      refine TL.read (v := .int .i64 ((0 : Nat) : Int)) hd (fun w _ => ?_) h
      have hu : cx.P.underlying t = some (.slice e) := by rw [← hq]; exact ht.1
      obtain ⟨_, inf, hinf, _, _, _⟩ := id ht'
      have hrun : (Builtin.copy_ #[t, t'] ty #[.slice (some ⟨g, o, none⟩) n cap, .slice none 0 c]).run cx.P w = .ok (.int .i64 ((0 : Nat) : Int)) w := by
        simp [Builtin.copy_, run_underlying hu, Builtin.lenOf, Builtin.firstCells, sizeOf, typeInfo, hinf, storeCells, goInt]
      simp only [execOp, resolve, invoke, builtin, List.map_toArray, List.map_cons, List.map_nil, ea, eb, Sem.run_bind, Sem.run_pure, Result.andThen_ok, hrun]
    · cases h6
end
attribute [local irreducible] TK TL TQ TA Fn PV
/-- A byte, exclusive or one. -/
def xorB (k : Nat) (c : UInt8) : UInt8 := b8 (c.toNat ^^^ k)
def fill64 (l : List UInt8) : List UInt8 := l ++ List.replicate (64 - l.length) 0
/-- A key's block, each byte exclusive or one. -/
def blkB (l : List UInt8) (k : Nat) : List UInt8 := (fill64 l).map (xorB k)
/-- What a key is. -/
def keyB (key : List UInt8) : List UInt8 := if 64 < key.length then hashB key else key
def innerB (key msg : List UInt8) : List UInt8 := hashB (blkB (keyB key) 54 ++ msg)
def tagB (key msg : List UInt8) : List UInt8 := hashB (blkB (keyB key) 92 ++ innerB key msg)
theorem fill64_len {l : List UInt8} (h : l.length ≤ 64) : (fill64 l).length = 64 := by
  rw [fill64, List.length_append, List.length_replicate]; omega
theorem blkB_len {l : List UInt8} (k : Nat) (h : l.length ≤ 64) : (blkB l k).length = 64 := by rw [blkB, List.length_map, fill64_len h]
theorem keyB_len (key : List UInt8) : (keyB key).length ≤ 64 := by
  unfold keyB
  split
  · rw [hashB_len]; decide
  · omega
theorem bytesV_zeros (n : Nat) : bytesV (List.replicate n 0) = List.replicate n (Value.int .u8 0) := by
  unfold bytesV; simp
/-- So far. -/
def mixB (L : List UInt8) (k i : Nat) : List UInt8 := (L.take i).map (xorB k) ++ L.drop i
theorem mixB_get {L : List UInt8} {k i : Nat} {c : UInt8} (h : L[i]? = some c) : (mixB L k i)[i]? = some c := by
  have hi : i < L.length := (List.getElem?_eq_some_iff.1 h).1
  unfold mixB
  rw [List.getElem?_append_right (by simp; omega)]
  simp [h, Nat.min_eq_left (Nat.le_of_lt hi)]
theorem mixB_step {L : List UInt8} {k i : Nat} {c : UInt8} (h : L[i]? = some c) : (mixB L k i).set i (xorB k c) = mixB L k (i + 1) := by
  have hi : i < L.length := (List.getElem?_eq_some_iff.1 h).1
  have hl : ((L.take i).map (xorB k)).length = i := by simp; omega
  have hd : L.drop i = c :: L.drop (i + 1) := by
    have := List.drop_eq_getElem_cons hi
    rw [this]
    congr 1
    exact (List.getElem?_eq_some_iff.1 h).2
  unfold mixB
  rw [List.set_append_right _ _ (by omega), hl, Nat.sub_self, hd, List.set_cons_zero, List.take_add_one, h, List.map_append, List.append_assoc]
  rfl
attribute [local irreducible] rounds sched kC comp1 compN rotr hashB hashW
set_option maxRecDepth 100000 in
set_option maxHeartbeats 1000000 in
theorem begun_t (A : Option Addr) (c : Nat) (l : List UInt8) (k : Nat) (hk : k < 256) (Γ : List HP) (hs : has Γ (srcAt 1 A l.length (bytesV l))) (hl : l.length ≤ 64) (hB : gBegin Γ) (hK : gConst Γ) :
    FnV Tryd.prog 35 [.slice A l.length c, .int .u8 (k : Int)] Γ fun v Γ' => ∃ b, v = .pointer (some ⟨b, 0, none⟩) ∧ Γ' = stA b (blkB l k) :: Γ := by
  refine Fn.enter Tryd.func35 rfl rfl rfl fun E => ?_
  refine m_run ?_
  (apply TL.alloc; exact rfl; exact tb rfl; exact (by kernel_rfl : _ = List.replicate 64 (Value.int .u8 0)))
  intro b5
  refine m_run ?_
  (apply TL.pv; exact rfl; (apply PV.sliceArr (i := 0) (j := 64); exact rfl; exact tb rfl; exact rfl; exact tb rfl; exact .none; exact .none; exact (by omega); exact (by omega)))
  refine m_run ?_
  (apply TL.copyAny 0 (k := l.length) (o := 0) (n := 64) (cap := 64) (news := bytesV l) (cur' := bytesV (fill64 l)); exact rfl; exact rfl; exact tb rfl; exact rfl; exact tb rfl; exact rfl; exact rfl; exact rfl; exact has_tls hs; exact bs_one l; exact (Nat.min_eq_left hl).symm; exact (by rw [List.length_replicate]; omega))
  · rw [List.take_zero, List.nil_append, List.take_of_length_le (by rw [bytesV_length]; exact Nat.le_refl _), List.drop_replicate, fill64, bytesV_append, bytesV_zeros, Nat.zero_add]
  · exact rfl
  refine m_run ?_
  obtain ⟨L, hL⟩ : ∃ L, fill64 l = L := ⟨_, rfl⟩
  have h64 : L.length = 64 := by rw [← hL]; exact fill64_len hl
  rw [hL]
  apply TK.iter (fun j ρ' Γ' => ∃ i : Nat, i + j = 64 ∧ lk ρ' 1 = .int .u8 (k : Int) ∧ lk ρ' 5 = .pointer (some ⟨b5, 0, none⟩) ∧ lk ρ' 11 = .int .i64 (i : Int) ∧ Γ' = row b5 (bytesV (mixB L k i)) 56 :: Γ) 64
  · exact ⟨0, Nat.zero_add _, rfl, rfl, rfl, rfl⟩
  rintro j IH ρ' _ ⟨i, hij, e1, e5, e11, rfl⟩
  refine TK.know3 e1 e5 e11 ?_
  by_cases hi : i < 64
  · obtain ⟨ch, hch⟩ : ∃ ch, L[i]? = some ch := ⟨L[i]'(by omega), by simp [h64, hi]⟩
    have hcell := has_rowC (b := b5) (e := 56) (Γ := Γ) (bytesV_get (mixB_get (k := k) hch))
    refine m_run ?_
    refine TL.know (t := 18) (v := .int .u8 ((xorB k ch).toNat : Int)) (congrArg (Value.int .u8) (xor_b8 ch k hk)) ?_
    (apply TL.storeE 0 (l' := bytesV (mixB L k (i + 1))); exact rfl; exact rfl; exact rfl; exact rfl; exact tb rfl; exact rfl; exact (by rw [bytesV_length]; simp [mixB]; omega); exact (by rw [← mixB_step hch, bytesV_set]; rfl); exact rfl)
    refine m_run ?_
    exact IH (j - 1) _ _ (by omega) ⟨i + 1, by omega, rfl, rfl, congrArg (Value.int .i64) (i64_succ i (by omega)), rfl⟩
  obtain rfl : i = 64 := by omega
  have hM : mixB L k 64 = blkB l k := by rw [mixB, List.take_of_length_le (by omega), List.drop_of_length_le (by omega), List.append_nil, blkB, hL]
  have hMl := blkB_len k hl
  rw [hM]
  generalize blkB l k = M at hMl
  clear IH e1 e5 e11 hM hij hi
  refine m_run ?_
  (apply TL.callV; exact rfl; exact callB_of (by kernel_rfl); exact rfl; exact fun _ h => h)
  exact new_t _ (has_tlg hB)
  rintro _ _ ⟨b7, rfl, rfl⟩
  refine m_run ?_
  (apply TL.pv; exact rfl; (apply PV.sliceArr (i := 0) (j := 64); exact rfl; exact tb rfl; exact rfl; exact tb rfl; exact .none; exact .none; exact (by omega); exact (by omega)))
  refine TL.know (t := 23) (v := .slice (some ⟨b5, 0, none⟩) M.length 64) (congrArg (fun z : Nat => Value.slice (some ⟨b5, 0, none⟩) z 64) hMl.symm) ?_
  (apply TL.callV; exact rfl; exact callB_of (by kernel_rfl); exact rfl; exact fun _ h => h)
  exact write_t b7 [] M (some ⟨b5, 0, none⟩) 64 _ (has_src_row 0 rfl (by rw [bytesV_length, Nat.mul_one])) (by omega) (by simp; omega) (has_tlg hK)
  rintro _ _ ⟨rfl, rfl⟩
  rw [List.nil_append]
  refine m_run ?_
  (apply TK.retS1; exact rfl; exact rfl; (exact m_val))
  · exact ⟨_, rfl, _, rfl, rfl⟩
  · (repeat (first | exact List.Sublist.refl _ | apply List.Sublist.cons_cons | apply List.Sublist.cons))
end Go.Proofs.YtdookobgkcnncaaDoor.E
