/- LexBlanks, walked. -/
import Derived.Test.YtebeckkkckijeaaDoorR9
namespace Go.Proofs.YtebeckkkckijeaaDoor.E
open Go Go.RowKit Go.Proofs
attribute [local irreducible] TK TL TQ TA Fn PV
theorem piece_len (i : Nat) : (piece i).length ≤ 11 := by
  unfold piece
  split <;> decide
theorem pieces_len (l : List Nat) : (pieces l).length ≤ 11 * l.length := by
  induction l with
  | nil => exact Nat.zero_le _
  | cons i l ih =>
    rw [pieces_cons, List.length_append, List.length_cons]
    have := piece_len i
    omega
theorem pieces_snoc (l : List Nat) (i : Nat) : pieces (l ++ [i]) = pieces l ++ piece i := by simp [pieces]
def allP : List (List UInt8) := [piece 0, piece 1, piece 2, piece 3, piece 4]
theorem allP_get {k : Nat} (h : k < 5) : (strsV allP)[k]? = some (.string (S (piece k))) := by
  match k, h with
  | 0, _ => rfl
  | 1, _ => rfl
  | 2, _ => rfl
  | 3, _ => rfl
  | 4, _ => rfl
/-- What words a text has, wherever it begins. -/
theorem lexA_off {p : Nat} {s : List UInt8} {l : List Wrd} (h : lexA 0 s = .ok l) : lexA p s = .ok (l.map (Wrd.shift p)) := by rw [lexA_at, h]; rfl
theorem lexA_offE {p e : Nat} {s : List UInt8} (h : lexA 0 s = .error e) : lexA p s = .error (e + p) := by rw [lexA_at, h]; rfl
theorem words_any {Γ : List HP} {s : List UInt8} {v : Value} {Γ' : List HP} (hM : gMeans Γ) (hK : gMarks Γ) (h : WordsR Γ (lexA 0 s) v Γ') : ∃ A n c p e, v = .tuple #[.slice A n c, .int .i64 p, .int .i64 e] ∧ Γ.Sublist Γ' ∧ gMeans Γ' ∧ gMarks Γ' := by
  cases hb : lexA 0 s with
  | ok m =>
    rw [hb] at h
    obtain ⟨A, c, _, rfl, rfl⟩ := h
    exact ⟨_, _, _, _, _, rfl, List.sublist_cons_self _ _, gMeans_tail hM, gMarks_tail hK⟩
  | error e =>
    rw [hb] at h
    obtain ⟨rfl, rfl⟩ := h
    exact ⟨_, _, _, _, _, rfl, List.Sublist.refl _, hM, hK⟩
set_option maxRecDepth 100000 in
set_option maxHeartbeats 4000000 in
theorem blanks_t (a b : List UInt8) (A : Option Addr) (c : Nat) (l : List UInt8) (Γ : List HP) (hs : has Γ (srcAt 1 A l.length (bytesV l))) (hM : gMeans Γ) (hK : gMarks Γ) :
    FnV Tryd.prog 5 [.string (S a), .string (S b), .slice A l.length c] Γ fun v Γ' => v = .bool true ∧ Γ' = Γ := by
  refine Fn.enter Tryd.func5 rfl rfl rfl fun E => ?_
  by_cases va : 2048 < a.length
  · refine m_run ?_
    (apply TL.callV; exact rfl; exact callB_of (by kernel_rfl); exact rfl; exact fun _ h => h)
    exact works7_t _ hM hK
    rintro _ _ ⟨rfl, rfl⟩
    refine m_run ?_
    (apply TK.ret1; exact rfl; exact rfl; (exact m_val))
    exact ⟨_, rfl, rfl, rfl⟩
  by_cases vb : 2048 < b.length
  · refine m_run ?_
    (apply TL.callV; exact rfl; exact callB_of (by kernel_rfl); exact rfl; exact fun _ h => h)
    exact works7_t _ hM hK
    rintro _ _ ⟨rfl, rfl⟩
    refine m_run ?_
    (apply TK.ret1; exact rfl; exact rfl; (exact m_val))
    exact ⟨_, rfl, rfl, rfl⟩
  by_cases vz : l.length = 0
  · refine m_run ?_
    (apply TL.callV; exact rfl; exact callB_of (by kernel_rfl); exact rfl; exact fun _ h => h)
    exact works7_t _ hM hK
    rintro _ _ ⟨rfl, rfl⟩
    refine m_run ?_
    (apply TK.ret1; exact rfl; exact rfl; (exact m_val))
    exact ⟨_, rfl, rfl, rfl⟩
  by_cases vl : 100 < l.length
  · refine m_run ?_
    (apply TL.callV; exact rfl; exact callB_of (by kernel_rfl); exact rfl; exact fun _ h => h)
    exact works7_t _ hM hK
    rintro _ _ ⟨rfl, rfl⟩
    refine m_run ?_
    (apply TK.ret1; exact rfl; exact rfl; (exact m_val))
    exact ⟨_, rfl, rfl, rfl⟩
  refine m_run ?_
  (apply TL.buildSlice (l := strsV allP); exact rfl; exact tb rfl; exact rfl; exact tb rfl; exact rfl; exact rfl; exact rfl; exact rfl; kernel_rfl)
  intro b40
  refine m_run ?_
  refine TK.imp (Δ := row b40 (strsV allP) 9 :: Γ) (fun _ h => h) ?_
  apply TK.iter (fun j ρ' Γ' => ∃ i : Nat, i + j = l.length ∧ lk ρ' 0 = .string (S a) ∧ lk ρ' 1 = .string (S b) ∧ lk ρ' 2 = .slice A l.length c ∧ lk ρ' 7 = .slice (some ⟨b40, 0, none⟩) 5 5 ∧ lk ρ' 8 = .string (S (pieces ((l.take i).map fun c => c.toNat % 5))) ∧ lk ρ' 9 = .int .i64 (i : Int) ∧ Γ' = row b40 (strsV allP) 9 :: Γ) l.length
  · exact ⟨0, Nat.zero_add _, rfl, rfl, rfl, rfl, rfl, rfl, rfl⟩
  rintro j IH ρ' _ ⟨i, hij, e0, e1, e2, e7, e8, e9, rfl⟩
  refine TK.know6 e0 e1 e2 e7 e8 e9 ?_
  have hpl := pieces_len ((l.take i).map fun c => c.toNat % 5)
  rw [List.length_map, List.length_take] at hpl
  by_cases hi : i < l.length
  · obtain ⟨ch, hch⟩ : ∃ ch, l[i]? = some ch := ⟨l[i], by simp [hi]⟩
    refine TK.mem fun m0 hm0 => ?_
    obtain ⟨bA, oA, rfl⟩ := src_some (has_tls hs m0 hm0) (by rw [bytesV_length]; omega)
    clear hm0 m0
    have hc1 := has_byte (has_tls (K := row b40 (strsV allP) 9) hs) hch
    have hc2 : has (row b40 (strsV allP) 9 :: Γ) (fun m => cellAt m b40 (ch.toNat % 5) (.string (S (piece (ch.toNat % 5))))) := has_row 0 rfl (allP_get (Nat.mod_lt _ (by decide)))
    have hpc := piece_len (ch.toNat % 5)
    have hch256 := ch.toNat_lt
    refine m_run ?_
    refine TL.know (t := 56) (v := .int .i64 ((ch.toNat % 5 : Nat) : Int)) (congrArg (Value.int .i64) (by rw [i64_nat (by omega)]; rfl)) ?_
    refine m_run ?_
    (apply TL.pv; exact rfl; (apply PV.catS (a := pieces ((l.take i).map fun c => c.toNat % 5)) (b := piece (ch.toNat % 5)); exact rfl; exact rfl; exact (by (try simp only [List.length_append, List.length_cons, List.length_nil]); omega)))
    have hst : pieces ((l.take i).map fun c => c.toNat % 5) ++ piece (ch.toNat % 5) = pieces ((l.take (i + 1)).map fun c => c.toNat % 5) := by
      rw [List.take_add_one, hch, List.map_append, ← pieces_snoc]; rfl
    rw [hst]
    refine m_run ?_
    exact IH (j - 1) _ _ (by omega) ⟨i + 1, by omega, rfl, rfl, rfl, rfl, rfl, congrArg (Value.int .i64) (i64_succ i (by omega)), rfl⟩
  obtain rfl : i = l.length := by omega
  rw [List.take_length]
  rw [List.take_length, Nat.min_self] at hpl
  obtain ⟨q, hq⟩ : ∃ q, l.map (fun c => c.toNat % 5) = q := ⟨_, rfl⟩
  rw [hq] at hpl ⊢
  clear IH
  have hM1 : gMeans (row b40 (strsV allP) 9 :: Γ) := gMeans_tail hM
  have hK1 : gMarks (row b40 (strsV allP) 9 :: Γ) := gMarks_tail hK
  have hblk := lexA_blanks q a b
  have hassoc : pieces q ++ a ++ [10] ++ pieces q ++ b ++ pieces q = pieces q ++ a ++ 10 :: (pieces q ++ b ++ pieces q) := by simp
  rw [← hassoc] at hblk
  have hlen : (pieces q ++ a ++ [10] ++ pieces q ++ b ++ pieces q).length ≤ 65536 := by simp only [List.length_append, List.length_cons, List.length_nil]; omega
  refine m_run ?_
  cases ha : lexA 0 a with
  | error e =>
    (apply TL.callV; exact rfl; exact callB_of (by kernel_rfl); exact rfl; exact fun _ h => h)
    exact words_er ha _ (by omega) hM1 hK1
    rintro _ _ ⟨rfl, rfl⟩
    rw [lexA_offE ha] at hblk
    refine m_run ?_
    (apply TL.callV; exact rfl; exact callB_of (by kernel_rfl); exact rfl; exact fun _ h => h)
    exact words_t b _ (by omega) hM1 hK1
    intro v Γ' hv
    obtain ⟨A2, n2, c2, p2, e2, rfl, hsub, hM', hK'⟩ := words_any hM1 hK1 hv
    refine m_run ?_
    (apply TL.pv; exact rfl; (apply PV.catS (a := pieces q) (b := a); exact rfl; exact rfl; exact (by (try simp only [List.length_append, List.length_cons, List.length_nil]); omega)))
    refine m_run ?_
    (apply TL.pv; exact rfl; (apply PV.catS (a := pieces q ++ a) (b := [10]); exact rfl; exact rfl; exact (by (try simp only [List.length_append, List.length_cons, List.length_nil]); omega)))
    refine m_run ?_
    (apply TL.pv; exact rfl; (apply PV.catS (a := pieces q ++ a ++ [10]) (b := pieces q); exact rfl; exact rfl; exact (by (try simp only [List.length_append, List.length_cons, List.length_nil]); omega)))
    refine m_run ?_
    (apply TL.pv; exact rfl; (apply PV.catS (a := pieces q ++ a ++ [10] ++ pieces q) (b := b); exact rfl; exact rfl; exact (by (try simp only [List.length_append, List.length_cons, List.length_nil]); omega)))
    refine m_run ?_
    (apply TL.pv; exact rfl; (apply PV.catS (a := pieces q ++ a ++ [10] ++ pieces q ++ b) (b := pieces q); exact rfl; exact rfl; exact (by (try simp only [List.length_append, List.length_cons, List.length_nil]); omega)))
    refine m_run ?_
    refine m_run ?_
    (apply TL.callV; exact rfl; exact callB_of (by kernel_rfl); exact rfl; exact fun _ h => h)
    exact words_er hblk _ hlen hM' hK'
    rintro _ _ ⟨rfl, rfl⟩
    refine m_run ?_
    (apply TL.callV; exact rfl; exact callB_of (by kernel_rfl); exact rfl; exact fun _ h => h)
    exact works7_t _ hM' hK'
    rintro _ _ ⟨rfl, rfl⟩
    refine m_run ?_
    (apply TK.retS1; exact rfl; exact rfl; (exact m_val))
    · exact ⟨_, rfl, rfl, rfl⟩
    · exact (List.sublist_cons_self _ _).trans hsub
  | ok la =>
    rw [lexA_off ha] at hblk
    (apply TL.callV; exact rfl; exact callB_of (by kernel_rfl); exact rfl; exact fun _ h => h)
    exact words_ok ha _ (by omega) hM1 hK1
    rintro _ _ ⟨A1, c1, hc1, rfl, rfl⟩
    cases hb : lexA 0 b with
    | error e =>
      rw [lexA_offE hb] at hblk
      refine m_run ?_
      (apply TL.callV; exact rfl; exact callB_of (by kernel_rfl); exact rfl; exact fun _ h => h)
      exact words_er hb _ (by omega) (gMeans_tail hM1) (gMarks_tail hK1)
      rintro _ _ ⟨rfl, rfl⟩
      refine m_run ?_
      (apply TL.pv; exact rfl; (apply PV.catS (a := pieces q) (b := a); exact rfl; exact rfl; exact (by (try simp only [List.length_append, List.length_cons, List.length_nil]); omega)))
      refine m_run ?_
      (apply TL.pv; exact rfl; (apply PV.catS (a := pieces q ++ a) (b := [10]); exact rfl; exact rfl; exact (by (try simp only [List.length_append, List.length_cons, List.length_nil]); omega)))
      refine m_run ?_
      (apply TL.pv; exact rfl; (apply PV.catS (a := pieces q ++ a ++ [10]) (b := pieces q); exact rfl; exact rfl; exact (by (try simp only [List.length_append, List.length_cons, List.length_nil]); omega)))
      refine m_run ?_
      (apply TL.pv; exact rfl; (apply PV.catS (a := pieces q ++ a ++ [10] ++ pieces q) (b := b); exact rfl; exact rfl; exact (by (try simp only [List.length_append, List.length_cons, List.length_nil]); omega)))
      refine m_run ?_
      (apply TL.pv; exact rfl; (apply PV.catS (a := pieces q ++ a ++ [10] ++ pieces q ++ b) (b := pieces q); exact rfl; exact rfl; exact (by (try simp only [List.length_append, List.length_cons, List.length_nil]); omega)))
      refine m_run ?_
      refine m_run ?_
      (apply TL.callV; exact rfl; exact callB_of (by kernel_rfl); exact rfl; exact fun _ h => h)
      exact words_er hblk _ hlen (gMeans_tail hM1) (gMarks_tail hK1)
      rintro _ _ ⟨rfl, rfl⟩
      refine m_run ?_
      (apply TL.callV; exact rfl; exact callB_of (by kernel_rfl); exact rfl; exact fun _ h => h)
      exact works7_t _ (gMeans_tail hM1) (gMarks_tail hK1)
      rintro _ _ ⟨rfl, rfl⟩
      refine m_run ?_
      (apply TK.retS1; exact rfl; exact rfl; (exact m_val))
      · exact ⟨_, rfl, rfl, rfl⟩
      · (repeat (first | exact List.Sublist.refl _ | apply List.Sublist.cons_cons | apply List.Sublist.cons))
    | ok lb =>
      rw [lexA_off hb] at hblk
      refine m_run ?_
      (apply TL.callV; exact rfl; exact callB_of (by kernel_rfl); exact rfl; exact fun _ h => h)
      exact words_ok hb _ (by omega) (gMeans_tail hM1) (gMarks_tail hK1)
      rintro _ _ ⟨A2, c2, hc2, rfl, rfl⟩
      refine m_run ?_
      (apply TL.pv; exact rfl; (apply PV.catS (a := pieces q) (b := a); exact rfl; exact rfl; exact (by (try simp only [List.length_append, List.length_cons, List.length_nil]); omega)))
      refine m_run ?_
      (apply TL.pv; exact rfl; (apply PV.catS (a := pieces q ++ a) (b := [10]); exact rfl; exact rfl; exact (by (try simp only [List.length_append, List.length_cons, List.length_nil]); omega)))
      refine m_run ?_
      (apply TL.pv; exact rfl; (apply PV.catS (a := pieces q ++ a ++ [10]) (b := pieces q); exact rfl; exact rfl; exact (by (try simp only [List.length_append, List.length_cons, List.length_nil]); omega)))
      refine m_run ?_
      (apply TL.pv; exact rfl; (apply PV.catS (a := pieces q ++ a ++ [10] ++ pieces q) (b := b); exact rfl; exact rfl; exact (by (try simp only [List.length_append, List.length_cons, List.length_nil]); omega)))
      refine m_run ?_
      (apply TL.pv; exact rfl; (apply PV.catS (a := pieces q ++ a ++ [10] ++ pieces q ++ b) (b := pieces q); exact rfl; exact rfl; exact (by (try simp only [List.length_append, List.length_cons, List.length_nil]); omega)))
      refine m_run ?_
      have hla := words_len ha
      have hlb := words_len hb
      obtain ⟨N, hN⟩ : ∃ N, la.map (Wrd.shift (pieces q).length) ++ lb.map (Wrd.shift ((pieces q).length + a.length + 1 + (pieces q).length)) = N := ⟨_, rfl⟩
      have hblk2 : lexA 0 (pieces q ++ a ++ [10] ++ pieces q ++ b ++ pieces q) = .ok N := by rw [hblk, ← hN]; rfl
      have hNl : N.length = la.length + lb.length := by rw [← hN]; simp
      refine m_run ?_
      (apply TL.callV; exact rfl; exact callB_of (by kernel_rfl); exact rfl; exact fun _ h => h)
      exact words_ok hblk2 _ hlen (gMeans_tail (gMeans_tail hM1)) (gMarks_tail (gMarks_tail hK1))
      rintro _ _ ⟨A3, c3, hc3, rfl, rfl⟩
      refine m_run ?_
      refine TK.know (t := 109) (v := .bool false) (congrArg Value.bool (bne_eq_false_iff_eq.2 (by rw [i64_in (by omega) (by omega)]; omega))) ?_
      refine m_run ?_
      have hs1 : has (ownW (.slice A3 N.length c3) N :: ownW (.slice A2 lb.length c2) lb :: ownW (.slice A1 la.length c1) la :: row b40 (strsV allP) 9 :: Γ) (srcAt 3 A1 la.length (wcells la)) := has_at (up_src _ _ _ _) 2 rfl fun _ h => own_src h
      have hs2 : has (ownW (.slice A3 N.length c3) N :: ownW (.slice A2 lb.length c2) lb :: ownW (.slice A1 la.length c1) la :: row b40 (strsV allP) 9 :: Γ) (srcAt 3 A2 lb.length (wcells lb)) := has_at (up_src _ _ _ _) 1 rfl fun _ h => own_src h
      have hs3 : has (ownW (.slice A3 N.length c3) N :: ownW (.slice A2 lb.length c2) lb :: ownW (.slice A1 la.length c1) la :: row b40 (strsV allP) 9 :: Γ) (srcAt 3 A3 N.length (wcells N)) := has_at (up_src _ _ _ _) 0 rfl fun _ h => own_src h
      apply TK.iter (fun j ρ' Γ' => ∃ i : Nat, i + j = N.length ∧ lk ρ' 10 = .slice A1 la.length c1 ∧ lk ρ' 13 = .slice A2 lb.length c2 ∧ lk ρ' 16 = .slice A3 N.length c3 ∧ lk ρ' 19 = .int .i64 (i : Int) ∧ Γ' = ownW (.slice A3 N.length c3) N :: ownW (.slice A2 lb.length c2) lb :: ownW (.slice A1 la.length c1) la :: row b40 (strsV allP) 9 :: Γ) N.length
      · exact ⟨0, Nat.zero_add _, rfl, rfl, rfl, rfl, rfl⟩
      rintro j IH ρ' _ ⟨i, hij, e10, e13, e16, e19, rfl⟩
      refine TK.know4 e10 e13 e16 e19 ?_
      by_cases hi : i < N.length
      · obtain ⟨w, hw⟩ : ∃ w, N[i]? = some w := ⟨N[i], List.getElem?_eq_getElem hi⟩
        refine TK.mem fun m0 hm0 => ?_
        obtain ⟨b3, o3, rfl⟩ := src_some (hs3 m0 hm0) (by rw [wcells_len]; omega)
        clear hm0 m0
        obtain ⟨hk1, hk2, _⟩ := has_wd hs3 hw
        refine m_run ?_
        (apply TL.pv; exact rfl; (apply PV.build tabs; exact rfl; exact rfl; exact rfl; exact rfl; exact rfl; exact (rfl : _ = wcell ⟨0, [], 0⟩)))
        (apply TL.alloc; exact rfl; exact tb rfl; exact (rfl : _ = wcell ⟨0, [], 0⟩))
        intro b20
        (apply TL.storeAggE 0 (l' := wcell ⟨0, [], 0⟩); exact rfl; exact rfl; exact rfl; exact rfl; exact tb rfl; exact rfl; exact (Nat.le_refl 3); exact rfl; exact rfl)
        by_cases hl : i < la.length
        · obtain ⟨v, hv⟩ : ∃ v, la[i]? = some v := ⟨la[i], List.getElem?_eq_getElem hl⟩
          have hwv : w = v.shift (pieces q).length := by
            rw [← hN, List.getElem?_append_left (by simpa using hl), List.getElem?_map, hv] at hw
            exact (Option.some.inj hw).symm
          have hvk : w.kind = v.kind := by rw [hwv]; rfl
          have hvt : w.text = v.text := by rw [hwv]; rfl
          refine TL.mem fun m0 hm0 => ?_
          obtain ⟨b1, o1, rfl⟩ := src_some (has_tls hs1 m0 hm0) (by rw [wcells_len]; omega)
          clear hm0 m0
          have hcw := has_word hs1 hv
          refine m_run ?_
          refine TK.imp (Δ := row b20 (wcell v) 36 :: ownW (.slice (some ⟨b3, o3, none⟩) N.length c3) N :: ownW (.slice A2 lb.length c2) lb :: ownW (.slice (some ⟨b1, o1, none⟩) la.length c1) la :: row b40 (strsV allP) 9 :: Γ) (fun _ h => h) ?_
          have g1 := has_tlc (K := row b20 (wcell v) 36) hk1
          have g2 := has_tlc (K := row b20 (wcell v) 36) hk2
          rw [hvk] at g1
          rw [hvt] at g2
          refine TK.drawS mixed rfl ?_
          refine m_take (At.mk : At 0) ?_; refine m_take (At.mk : At 1) ?_; refine m_take (At.mk : At 2) ?_; refine m_take (At.mk : At 3) ?_; refine m_take (At.mk : At 4) ?_; refine m_take (At.mk : At 5) ?_; refine m_take (At.mk : At 6) ?_; refine m_take (At.mk : At 7) ?_
          refine TA.isF 139 rfl (bne_self_eq_false ..) ?_
          refine m_take (At.mk : At 8) ?_; refine m_take (At.mk : At 9) ?_; refine m_take (At.mk : At 10) ?_; refine m_take (At.mk : At 11) ?_; refine m_take (At.mk : At 12) ?_; refine m_take (At.mk : At 13) ?_; refine m_take (At.mk : At 14) ?_; refine m_take (At.mk : At 15) ?_; refine m_take (At.mk : At 16) ?_
          refine TA.isF 148 rfl (by simp) ?_
          refine m_take (At.mk : At 17) ?_
          refine TA.done (by kernel_rfl) ?_
          refine m_run ?_
          refine TK.sub (Δ := ownW (.slice (some ⟨b3, o3, none⟩) N.length c3) N :: ownW (.slice A2 lb.length c2) lb :: ownW (.slice (some ⟨b1, o1, none⟩) la.length c1) la :: row b40 (strsV allP) 9 :: Γ) (by (repeat (first | exact List.Sublist.refl _ | apply List.Sublist.cons_cons | apply List.Sublist.cons))) ?_
          exact IH (j - 1) _ _ (by omega) ⟨i + 1, by omega, rfl, rfl, rfl, congrArg (Value.int .i64) (i64_succ i (by omega)), rfl⟩
        · obtain ⟨v, hv⟩ : ∃ v, lb[i - la.length]? = some v := ⟨lb[i - la.length]'(by omega), List.getElem?_eq_getElem (by omega)⟩
          have hwv : w = v.shift ((pieces q).length + a.length + 1 + (pieces q).length) := by
            rw [← hN, List.getElem?_append_right (by rw [List.length_map]; omega), List.length_map, List.getElem?_map, hv] at hw
            exact (Option.some.inj hw).symm
          have hvk : w.kind = v.kind := by rw [hwv]; rfl
          have hvt : w.text = v.text := by rw [hwv]; rfl
          refine TL.mem fun m0 hm0 => ?_
          obtain ⟨b2, o2, rfl⟩ := src_some (has_tls hs2 m0 hm0) (by rw [wcells_len]; omega)
          clear hm0 m0
          have hcw := has_word hs2 hv
          refine m_run ?_
          refine TL.know (t := 129) (v := .int .i64 ((i - la.length : Nat) : Int)) (congrArg (Value.int .i64) (by rw [i64_in (by omega) (by omega)]; omega)) ?_
          refine m_run ?_
          refine TK.imp (Δ := row b20 (wcell v) 36 :: ownW (.slice (some ⟨b3, o3, none⟩) N.length c3) N :: ownW (.slice (some ⟨b2, o2, none⟩) lb.length c2) lb :: ownW (.slice A1 la.length c1) la :: row b40 (strsV allP) 9 :: Γ) (fun _ h => h) ?_
          have g1 := has_tlc (K := row b20 (wcell v) 36) hk1
          have g2 := has_tlc (K := row b20 (wcell v) 36) hk2
          rw [hvk] at g1
          rw [hvt] at g2
          refine TK.drawS mixed rfl ?_
          refine m_take (At.mk : At 0) ?_; refine m_take (At.mk : At 1) ?_; refine m_take (At.mk : At 2) ?_; refine m_take (At.mk : At 3) ?_; refine m_take (At.mk : At 4) ?_; refine m_take (At.mk : At 5) ?_; refine m_take (At.mk : At 6) ?_; refine m_take (At.mk : At 7) ?_
          refine TA.isF 139 rfl (bne_self_eq_false ..) ?_
          refine m_take (At.mk : At 8) ?_; refine m_take (At.mk : At 9) ?_; refine m_take (At.mk : At 10) ?_; refine m_take (At.mk : At 11) ?_; refine m_take (At.mk : At 12) ?_; refine m_take (At.mk : At 13) ?_; refine m_take (At.mk : At 14) ?_; refine m_take (At.mk : At 15) ?_; refine m_take (At.mk : At 16) ?_
          refine TA.isF 148 rfl (by simp) ?_
          refine m_take (At.mk : At 17) ?_
          refine TA.done (by kernel_rfl) ?_
          refine m_run ?_
          refine TK.sub (Δ := ownW (.slice (some ⟨b3, o3, none⟩) N.length c3) N :: ownW (.slice (some ⟨b2, o2, none⟩) lb.length c2) lb :: ownW (.slice A1 la.length c1) la :: row b40 (strsV allP) 9 :: Γ) (by (repeat (first | exact List.Sublist.refl _ | apply List.Sublist.cons_cons | apply List.Sublist.cons))) ?_
          exact IH (j - 1) _ _ (by omega) ⟨i + 1, by omega, rfl, rfl, rfl, congrArg (Value.int .i64) (i64_succ i (by omega)), rfl⟩
      obtain rfl : i = N.length := by omega
      refine m_run ?_
      (apply TL.callV; exact rfl; exact callB_of (by kernel_rfl); exact rfl; exact fun _ h => h)
      exact works7_t _ (gMeans_tail (gMeans_tail (gMeans_tail hM1))) (gMarks_tail (gMarks_tail (gMarks_tail hK1)))
      rintro _ _ ⟨rfl, rfl⟩
      refine m_run ?_
      (apply TK.retS1; exact rfl; exact rfl; (exact m_val))
      · exact ⟨_, rfl, rfl, rfl⟩
      · (repeat (first | exact List.Sublist.refl _ | apply List.Sublist.cons_cons | apply List.Sublist.cons))
end Go.Proofs.YtebeckkkckijeaaDoor.E
