/- strings.Join by the kit's contract; lex.Join, walked. -/
import Derived.Test.YtebeckkkckijeaaDoorR6
import Derived.Shelf.Strings.OnBuilder
namespace Go.Proofs.YtebeckkkckijeaaDoor.E
open Go Go.RowKit Go.Proofs
/-! ### the library's bodies, as the kit's command lays them -/
def joinRen : Go.Shelf.Ren := ⟨fun | 156 => 19 | 165 => 25 | 166 => 26 | 169 => 27 | 240 => 31 | 241 => 32 | 276 => 37 | 277 => 38 | n => n, fun | 31 => 37 | 9 => 9 | 3 => 3 | 4 => 4 | 0 => 0 | 20 => 20 | 72 => 56 | 76 => 60 | 70 => 54 | 37 => 34 | 75 => 59 | 127 => 66 | 164 => 69 | 5 => 5 | 80 => 62 | n => n, fun | n => n⟩
theorem joinLays : Go.Proofs.Lays.n156 Tryd.prog joinRen where
  mixed := by kernel_rfl
  f156 := Tryd.func19.trans (congrArg some (by kernel_rfl))
  f165 := Tryd.func25.trans (congrArg some (by kernel_rfl))
  f166 := Tryd.func26.trans (congrArg some (by kernel_rfl))
  f169 := Tryd.func27.trans (congrArg some (by kernel_rfl))
  f240 := Tryd.func31.trans (congrArg some (by kernel_rfl))
  f241 := Tryd.func32.trans (congrArg some (by kernel_rfl))
  f276 := Tryd.func37.trans (congrArg some (by kernel_rfl))
  f277 := Tryd.func38.trans (congrArg some (by kernel_rfl))
  t0 := Tryd.underlying0
  a0 := Tryd.isAgg0
  z0 := Tryd.sizeOf0
  v0 := Tryd.zeroValue0
  t3 := Tryd.underlying3
  a3 := Tryd.isAgg3
  z3 := Tryd.sizeOf3
  v3 := Tryd.zeroValue3
  t4 := Tryd.underlying4
  a4 := Tryd.isAgg4
  z4 := Tryd.sizeOf4
  v4 := Tryd.zeroValue4
  t9 := Tryd.underlying9
  a9 := Tryd.isAgg9
  z9 := Tryd.sizeOf9
  v9 := Tryd.zeroValue9
  t20 := Tryd.underlying20
  a20 := Tryd.isAgg20
  z20 := Tryd.sizeOf20
  v20 := Tryd.zeroValue20
  t31 := Tryd.underlying37
  a31 := Tryd.isAgg37
  z31 := Tryd.sizeOf37
  v31 := Tryd.zeroValue37
  t37 := Tryd.underlying34
  a37 := Tryd.isAgg34
  z37 := Tryd.sizeOf34
  v37 := Tryd.zeroValue34
  t70 := Tryd.underlying54
  a70 := Tryd.isAgg54
  z70 := Tryd.sizeOf54
  v70 := Tryd.zeroValue54
  t72 := Tryd.underlying56
  a72 := Tryd.isAgg56
  z72 := Tryd.sizeOf56
  v72 := Tryd.zeroValue56
  t75 := Tryd.underlying59
  a75 := Tryd.isAgg59
  z75 := Tryd.sizeOf59
  v75 := Tryd.zeroValue59
  t76 := Tryd.underlying60
  a76 := Tryd.isAgg60
  z76 := Tryd.sizeOf60
  v76 := Tryd.zeroValue60
  t127 := Tryd.underlying66
  a127 := Tryd.isAgg66
  z127 := Tryd.sizeOf66
  v127 := Tryd.zeroValue66
  t164 := Tryd.underlying69
  a164 := Tryd.isAgg69
  z164 := Tryd.sizeOf69
  v164 := Tryd.zeroValue69
theorem joinExtra : Go.Proofs.Builder.Extra Tryd.prog joinRen where
  sizeBuilder := by kernel_rfl
  liesBuilder := by kernel_rfl
  t5 := Tryd.underlying5
  a5 := Tryd.isAgg5
  z5 := Tryd.sizeOf5
  v5 := Tryd.zeroValue5
  infoByte := by kernel_rfl
  cellsByte := by kernel_rfl
  sizeByte := by kernel_rfl
  neB5 := by decide
theorem Sat.below {E : World} {Γ : List HP} {w w' : World} (h : Sat E Γ w) (hb : Below w.heap.size w w') : Sat E Γ w' := by
  obtain ⟨g1, g2, g3, m, hm, hw⟩ := h
  refine ⟨hb.os.trans g1, hb.tape.trans g2, hb.output.trans g3, m, hm, fun k o hk => ?_⟩
  have h1 := hw k o hk
  rw [hb.block k (Array.getElem?_eq_some_iff.1 h1).1]; exact h1
def strsV (L : List (List UInt8)) : List Value := L.map fun k => Value.string (S k)
def joinS : List (List UInt8) → List UInt8
  | [] => []
  | k :: L => match L with
    | [] => k
    | _ :: _ => k ++ 32 :: joinS L
theorem join_eq : ∀ L : List (List UInt8), Lib.join L [32] = joinS L
  | [] => rfl
  | [k] => Lib.join_one k [32]
  | k :: k2 :: L => by
    have ih := join_eq (k2 :: L)
    show [32].intercalate (k :: k2 :: L) = k ++ 32 :: joinS (k2 :: L)
    rw [← ih]
    simp [Lib.join, List.intercalate, List.intersperse]
theorem strjoin_t (A : Option Addr) (c : Nat) (L : List (List UInt8)) (Γ : List HP) (hs : has Γ (srcAt 1 A L.length (strsV L))) (hc : L.length ≤ c) (hn : L.length ≤ 1000000) (hj : (joinS L).length ≤ 100000000) :
    FnV Tryd.prog 19 [.slice A L.length c, .string (S [32])] Γ fun v Γ' => v = .string (S (joinS L)) ∧ Γ' = Γ := by
  intro E w hS
  have hSs := hS
  obtain ⟨g1, g2, g3, m, hm, hw⟩ := hS
  cases hL : L with
  | nil =>
    refine (Any.strings_Join_none joinLays joinExtra A c (S [32]) w).mono fun e w' ⟨he, hw'⟩ => ?_
    subst hw'
    exact ⟨Γ, ⟨_, he, rfl, rfl⟩, hSs⟩
  | cons k r =>
    rw [← hL]
    obtain ⟨_, h2⟩ := hs m hm
    rcases h2 with h2 | ⟨b, o, hA, hcl⟩
    · rw [hL] at h2; cases h2
    · have hcell : ∀ (j : Nat) (x : ByteArray), (L.map S)[j]? = some x → w.cell? ⟨b, o + j, none⟩ = some (.string x) := by
        intro j x hx
        have h3 : (strsV L)[j]? = some (.string x) := by
          rw [List.getElem?_map] at hx
          cases hLj : L[j]? with
          | none => rw [hLj] at hx; cases hx
          | some z =>
            rw [hLj] at hx
            injection hx with hx
            simp [strsV, hLj, hx]
        obtain ⟨cs, e, fr, hb, hv⟩ := hcl j _ h3
        have := hw b _ hb
        simp [World.cell?, this, hv]
      have hbk : b < w.heap.size := by
        have h3 : (strsV L)[0]? = some (.string (S k)) := by rw [hL]; rfl
        obtain ⟨cs, e, fr, hb, hv⟩ := hcl 0 _ h3
        exact (Array.getElem?_eq_some_iff.1 (hw b _ hb)).1
      have hmap : (L.map S).map (fun x => x.data.toList) = L := by
        rw [List.map_map]
        conv => rhs; rw [← List.map_id L]
        rfl
      have hlen : (L.map S).length = L.length := List.length_map ..
      have hk := Any.strings_Join joinLays joinExtra b o c (L.map S) (S [32]) w hcell hbk (by omega) (by omega) (by rw [hmap, show (S [32]).data.toList = [32] from rfl, join_eq]; omega)
      rw [hmap, show (S [32]).data.toList = [32] from rfl, join_eq, hlen] at hk
      subst hA
      refine hk.mono fun e w' ⟨he, hb⟩ => ?_
      exact ⟨Γ, ⟨_, he, rfl, rfl⟩, hSs.below hb⟩
/-! ### lex.Join -/
theorem joinL_S : ∀ l : List Wrd, joinL l = joinS (l.map (·.text))
  | [] => rfl
  | [w] => rfl
  | w :: v :: l => by
    have ih := joinL_S (v :: l)
    show w.text ++ 32 :: joinL (v :: l) = w.text ++ 32 :: joinS ((v :: l).map (·.text))
    rw [ih]
attribute [local irreducible] TK TL TQ TA Fn PV
theorem wcells_part {l : List Wrd} {i : Nat} {w : Wrd} (h : l[i]? = some w) : ((wcells l).drop (i * 3)).take 3 = wcell w := by
  induction l generalizing i with
  | nil => simp at h
  | cons v l ih =>
    cases i with
    | zero =>
      simp only [List.getElem?_cons_zero, Option.some.injEq] at h
      subst h; rfl
    | succ i =>
      have e : wcells (v :: l) = wcell v ++ wcells l := by simp [wcells]
      rw [e, show (i + 1) * 3 = (wcell v).length + i * 3 by simp [wcell]; omega, ← List.drop_drop, List.drop_left]
      exact ih (by simpa using h)
theorem has_word {Γ : List HP} {b o n : Nat} {l : List Wrd} {i : Nat} {w : Wrd} (h : has Γ (srcAt 3 (some ⟨b, o, none⟩) n (wcells l))) (hi : l[i]? = some w) : has Γ (fun m => cellsAt m b (o + i * 3) (wcell w)) := fun m hm j v hj => by
  obtain ⟨_, h2⟩ := h m hm
  have hp := wcells_part hi
  have hj3 : j < 3 := (List.getElem?_eq_some_iff.1 hj).1
  have hg : (wcells l)[i * 3 + j]? = some v := by
    rw [← hp, List.getElem?_take, if_pos hj3, List.getElem?_drop] at hj
    exact hj
  rcases h2 with h2 | ⟨b', o', e, h2⟩
  · rw [h2] at hg; simp at hg
  · injection e with e
    injection e with e1 e2 _
    subst e1; subst e2
    have := h2 _ _ hg
    rwa [Nat.add_assoc]
set_option maxRecDepth 100000 in
set_option maxHeartbeats 1000000 in
theorem ljoin_t (A : Option Addr) (c : Nat) (l : List Wrd) (Γ : List HP) (hs : has Γ (srcAt 3 A l.length (wcells l))) (hn : l.length ≤ 100000) (hj : (joinL l).length ≤ 10000000) :
    FnV Tryd.prog 12 [.slice A l.length c] Γ fun v Γ' => v = .string (S (joinL l)) ∧ Γ' = Γ := by
  refine Fn.enter Tryd.func12 rfl rfl rfl fun E => ?_
  refine m_run ?_
  refine TK.free (H := own 9 1 (.slice none 0 0) 0 []) (fun m hm => own_nil _ _ hm) ?_
  apply TK.iter (fun j ρ' Γ' => ∃ (i : Nat) (A' : Option Addr) (k : Nat), i + j = l.length ∧ lk ρ' 3 = .slice A' i k ∧ i ≤ k ∧ lk ρ' 6 = .slice A l.length c ∧ lk ρ' 7 = .int .i64 (l.length : Int) ∧ lk ρ' 8 = .int .i64 (i : Int) ∧ Γ' = own 9 1 (.slice A' i k) i (strsV ((l.take i).map (·.text))) :: Γ) l.length
  · exact ⟨0, none, 0, Nat.zero_add _, rfl, Nat.le_refl _, rfl, rfl, rfl, rfl⟩
  rintro j IH ρ' _ ⟨i, A1, k1, hij, e3, hk1, e6, e7, e8, rfl⟩
  refine TK.know4 e3 e6 e7 e8 ?_
  by_cases hi : i < l.length
  · obtain ⟨w, hw⟩ : ∃ w, l[i]? = some w := ⟨l[i], by simp [hi]⟩
    refine TK.mem fun m0 hm0 => ?_
    obtain ⟨b2, o2, rfl⟩ := src_some (has_tls hs m0 hm0) (by rw [wcells_len]; omega)
    clear hm0 m0
    have hcw := has_word hs hw
    have hstep : strsV ((l.take i).map (·.text)) ++ [.string (S w.text)] = strsV ((l.take (i + 1)).map (·.text)) := by
      rw [List.take_add_one, hw]
      simp [strsV]
    refine m_run ?_
    (apply TL.alloc; exact rfl; exact tb rfl; exact (rfl : _ = [_, _, _]))
    intro b5
    (apply TL.storeAggE 0 (l' := wcell w); exact rfl; exact rfl; exact rfl; exact rfl; exact tb rfl; exact rfl; exact (Nat.le_refl 3); exact rfl; exact rfl)
    refine m_run ?_
    (apply TL.buildSlice (l := [.string (S w.text)]); exact rfl; exact tb rfl; exact rfl; exact tb rfl; exact rfl; exact rfl; exact rfl; exact rfl; exact rfl)
    intro b15
    refine m_run ?_
    (apply TL.append 2; exact rfl; exact rfl; exact tb rfl; exact rfl; exact tb rfl; exact rfl; exact rfl; exact rfl)
    · exact fun _ h => h
    · exact rfl
    · exact has_src_row 0 rfl rfl
    · exact one_of rfl
    · show (i + 1) * 16 ≤ _; omega
    · show i + 1 ≤ maxLen; unfold maxLen; omega
    · exact fun _ => (rfl : _ = _ :: _ :: _ :: _)
    intro A2 c2 hc2
    rw [hstep]
    refine m_run ?_
    refine TK.sub (Δ := own 9 1 (.slice A2 (i + 1) c2) (i + 1) (strsV ((l.take (i + 1)).map (·.text))) :: Γ) (by (repeat (first | exact List.Sublist.refl _ | apply List.Sublist.cons_cons | apply List.Sublist.cons))) ?_
    exact IH (j - 1) _ _ (by omega) ⟨i + 1, A2, c2, by omega, rfl, hc2, rfl, rfl, congrArg (Value.int .i64) (i64_succ i (by omega)), rfl⟩
  obtain rfl : i = l.length := by omega
  rw [List.take_length]
  have hml : (l.map (·.text)).length = l.length := List.length_map ..
  refine m_run ?_
  refine TL.know (t := 18) (v := .slice A1 (l.map (·.text)).length k1) (congrArg (fun z : Nat => Value.slice A1 z k1) hml.symm) ?_
  (apply TL.callV; exact rfl; exact callB_of (by kernel_rfl); exact rfl; exact fun _ h => h)
  have hso : has (own 9 1 (.slice A1 l.length k1) l.length (strsV (l.map (·.text))) :: Γ) (srcAt 1 A1 (l.map (·.text)).length (strsV (l.map (·.text)))) := by
    rw [hml]
    exact has_at (up_src _ _ _ _) 0 rfl fun _ h => own_src h
  exact strjoin_t A1 k1 (l.map (·.text)) _ hso (by omega) (by omega) (by rw [← joinL_S]; omega)
  rintro _ _ ⟨rfl, rfl⟩
  rw [← joinL_S]
  refine m_run ?_
  (apply TK.retS1; exact rfl; exact rfl; (exact m_val))
  · exact ⟨_, rfl, rfl, rfl⟩
  · (repeat (first | exact List.Sublist.refl _ | apply List.Sublist.cons_cons | apply List.Sublist.cons))
end Go.Proofs.YtebeckkkckijeaaDoor.E
