/- Names: which may be, as the program says (syms.kind, syms.May). -/
import Derived.Test.YtebeckkkckijeaaDoorSm
import Derived.Test.YtebeckkkckijeaaDoorSx
namespace Go.Proofs.YtebeckkkckijeaaDoor.E
open Go Go.RowKit Go.Proofs
attribute [local irreducible] TK TL TQ TA Fn PV
def kindI (n : Int) : Int := if 97 ≤ bitsOf .or .u8 n 32 ∧ bitsOf .or .u8 n 32 ≤ 122 then 1 else if 48 ≤ n ∧ n ≤ 57 then 2 else if n = 95 then 3 else 0
theorem kind_t (n : Int) (Γ : List HP) : FnV Tryd.prog 40 [.int .u8 n] Γ fun v Γ' => v = .int .i64 (kindI n) ∧ Γ' = Γ := by
  refine Fn.enter Tryd.func40 rfl rfl rfl fun E => ?_
  by_cases h1 : 97 ≤ bitsOf .or .u8 n 32
  · by_cases h2 : bitsOf .or .u8 n 32 ≤ 122
    · refine m_run ?_
      (apply TK.ret1; exact rfl; exact rfl; (exact m_val))
      exact ⟨_, rfl, by rw [kindI, if_pos ⟨h1, h2⟩], rfl⟩
    · by_cases h3 : 48 ≤ n
      · by_cases h4 : n ≤ 57
        · refine m_run ?_
          (apply TK.ret1; exact rfl; exact rfl; (exact m_val))
          exact ⟨_, rfl, by rw [kindI, if_neg (fun h => h2 h.2), if_pos ⟨h3, h4⟩], rfl⟩
        · by_cases h5 : n = 95
          · refine m_run ?_
            (apply TK.ret1; exact rfl; exact rfl; (exact m_val))
            exact ⟨_, rfl, by rw [kindI, if_neg (fun h => h2 h.2), if_neg (fun h => h4 h.2), if_pos h5], rfl⟩
          · refine m_run ?_
            (apply TK.ret1; exact rfl; exact rfl; (exact m_val))
            exact ⟨_, rfl, by rw [kindI, if_neg (fun h => h2 h.2), if_neg (fun h => h4 h.2), if_neg h5], rfl⟩
      · refine m_run ?_
        (apply TK.ret1; exact rfl; exact rfl; (exact m_val))
        exact ⟨_, rfl, by rw [kindI, if_neg (fun h => h2 h.2), if_neg (fun h => h3 h.1), if_neg (by omega)], rfl⟩
  · by_cases h3 : 48 ≤ n
    · by_cases h4 : n ≤ 57
      · refine m_run ?_
        (apply TK.ret1; exact rfl; exact rfl; (exact m_val))
        exact ⟨_, rfl, by rw [kindI, if_neg (fun h => h1 h.1), if_pos ⟨h3, h4⟩], rfl⟩
      · by_cases h5 : n = 95
        · refine m_run ?_
          (apply TK.ret1; exact rfl; exact rfl; (exact m_val))
          exact ⟨_, rfl, by rw [kindI, if_neg (fun h => h1 h.1), if_neg (fun h => h4 h.2), if_pos h5], rfl⟩
        · refine m_run ?_
          (apply TK.ret1; exact rfl; exact rfl; (exact m_val))
          exact ⟨_, rfl, by rw [kindI, if_neg (fun h => h1 h.1), if_neg (fun h => h4 h.2), if_neg h5], rfl⟩
    · refine m_run ?_
      (apply TK.ret1; exact rfl; exact rfl; (exact m_val))
      exact ⟨_, rfl, by rw [kindI, if_neg (fun h => h1 h.1), if_neg (fun h => h3 h.1), if_neg (by omega)], rfl⟩
/-- A byte that a name may have. -/
def okN (n : Nat) : Bool := (Nat.ble 97 n && Nat.ble n 122) || (Nat.ble 65 n && Nat.ble n 90) || (Nat.ble 48 n && Nat.ble n 57) || Nat.beq n 95
theorem kind_ok : ∀ n : Fin 256, (okN n.val = true ∧ (kindI (n.val : Int) = 1 ∨ kindI (n.val : Int) = 2 ∨ kindI (n.val : Int) = 3)) ∨ (okN n.val = false ∧ kindI (n.val : Int) = 0) := by decide +kernel
def okB (c : UInt8) : Bool := okN c.toNat
theorem kind_c (c : UInt8) (Γ : List HP) : FnV Tryd.prog 40 [.int .u8 (c.toNat : Int)] Γ fun v Γ' => ∃ k, v = .int .i64 k ∧ Γ' = Γ ∧ ((okB c = true ∧ (k = 1 ∨ k = 2 ∨ k = 3)) ∨ (okB c = false ∧ k = 0)) :=
  (kind_t c.toNat Γ).mono fun _ _ ⟨v, h1, h2, h3⟩ => ⟨v, h1, _, h2, h3, kind_ok ⟨c.toNat, c.toNat_lt⟩⟩
def mayB (l : List UInt8) : Bool := l.all okB && Nat.ble 1 l.length && Nat.ble l.length 32
theorem mayB_t {l : List UInt8} (ha : l.all okB = true) (h1 : 0 < l.length) (h2 : l.length ≤ 32) : true = mayB l := by
  rw [mayB, ha, Nat.ble_eq_true_of_le h1, Nat.ble_eq_true_of_le h2]; rfl
theorem mayB_f {l : List UInt8} (h : ¬ (l.all okB = true ∧ 0 < l.length ∧ l.length ≤ 32)) : false = mayB l := by
  rw [eq_comm, ← Bool.not_eq_true]
  intro h'
  simp only [mayB, Bool.and_eq_true, Nat.ble_eq] at h'
  exact h ⟨h'.1.1, h'.1.2, h'.2⟩
theorem countP_all (l : List UInt8) : l.countP okB = l.length ↔ l.all okB = true := by
  rw [List.countP_eq_length, List.all_eq_true]
theorem may_t (l : List UInt8) (Γ : List HP) (hl : l.length ≤ 1000000) : FnV Tryd.prog 36 [.string (S l)] Γ fun v Γ' => v = .bool (mayB l) ∧ Γ' = Γ := by
  refine Fn.enter Tryd.func36 rfl rfl rfl fun E => ?_
  refine m_run ?_
  (apply TL.convSB; exact rfl; exact rfl; exact tb rfl; exact tb rfl; exact rfl; exact tb rfl; exact rfl)
  intro b c hc
  have hsrc : has (roB b (bytesV l) :: Γ) (srcAt 1 (some ⟨b, 0, none⟩) l.length (bytesV l)) := has_at (up_src _ _ _ _) 0 rfl fun m h => roB_src h (by simp [bytesV])
  refine m_run ?_
  apply TK.iter (fun j ρ' Γ' => ∃ i : Nat, i + j = l.length ∧ lk ρ' 0 = .string (S l) ∧ lk ρ' 3 = .int .i64 ((l.take i).countP okB : Nat) ∧ lk ρ' 7 = .slice (some ⟨b, 0, none⟩) l.length c ∧ lk ρ' 8 = .int .i64 l.length ∧ lk ρ' 9 = .int .i64 i ∧ Γ' = roB b (bytesV l) :: Γ) l.length
  · exact ⟨0, by omega, rfl, rfl, rfl, rfl, rfl, rfl⟩
  rintro j IH ρ' Γ' ⟨i, hij, e0, e3, e7, e8, e9, rfl⟩
  refine TK.know5 e0 e3 e7 e8 e9 ?_
  by_cases hi : i < l.length
  · have hx : l[i]? = some l[i] := by simp [hi]
    have hcnt : (l.take (i + 1)).countP okB = (l.take i).countP okB + if okB l[i] = true then 1 else 0 := by
      rw [List.take_succ_eq_append_getElem hi, List.countP_append]
      simp [List.countP_cons]
    have hle : (l.take i).countP okB ≤ 1000000 := Nat.le_trans List.countP_le_length (by rw [List.length_take]; omega)
    generalize l[i] = x at hx hcnt
    have hcell : has (roB b (bytesV l) :: Γ) (fun m => cellAt m b i (.int .u8 (x.toNat : Int))) := by
      have h0 := has_byte hsrc hx
      rwa [Nat.zero_add] at h0
    refine m_run ?_
    (apply TL.callV; exact rfl; exact callB_of (by kernel_rfl); exact rfl; exact fun _ h => h)
    exact kind_c x _
    rintro _ _ ⟨k, rfl, rfl, ⟨hok, hk⟩ | ⟨hok, rfl⟩⟩
    · rw [hok, if_pos rfl] at hcnt
      rcases hk with rfl | rfl | rfl
      all_goals
        refine m_run ?_
        refine IH (j - 1) _ _ (by omega) ⟨i + 1, by omega, rfl, ?_, rfl, rfl, congrArg (Value.int .i64) (i64_succ i (by omega)), rfl⟩
        rw [hcnt]
        exact congrArg (Value.int .i64) (i64_succ _ (by omega))
    · rw [hok] at hcnt
      refine m_run ?_
      refine IH (j - 1) _ _ (by omega) ⟨i + 1, by omega, rfl, by rw [hcnt]; rfl, rfl, rfl, congrArg (Value.int .i64) (i64_succ i (by omega)), rfl⟩
  · have hlen : l.take i = l := List.take_of_length_le (by omega)
    rw [hlen] at e3 ⊢
    have hle := List.countP_le_length (p := okB) (l := l)
    by_cases h1 : l.countP okB = l.length
    · have ha := (countP_all l).1 h1
      by_cases h2 : 0 < l.length
      · by_cases h3 : l.length ≤ 32
        · refine m_run ?_
          (apply TK.retS1; exact rfl; exact rfl; (exact m_val))
          · exact ⟨_, rfl, congrArg Value.bool ((decide_eq_true (by omega)).trans (mayB_t ha h2 h3)), rfl⟩
          · (repeat (first | exact List.Sublist.refl _ | apply List.Sublist.cons_cons | apply List.Sublist.cons))
        · refine m_run ?_
          (apply TK.retS1; exact rfl; exact rfl; (exact m_val))
          · exact ⟨_, rfl, congrArg Value.bool ((decide_eq_false (by omega)).trans (mayB_f (by omega))), rfl⟩
          · (repeat (first | exact List.Sublist.refl _ | apply List.Sublist.cons_cons | apply List.Sublist.cons))
      · refine m_run ?_
        (apply TK.retS1; exact rfl; exact rfl; (exact m_val))
        · exact ⟨_, rfl, congrArg Value.bool (mayB_f (by omega)), rfl⟩
        · (repeat (first | exact List.Sublist.refl _ | apply List.Sublist.cons_cons | apply List.Sublist.cons))
    · have ha : l.all okB = false := by
        rw [← Bool.not_eq_true, ← countP_all]; exact h1
      refine m_run ?_
      (apply TK.retS1; exact rfl; exact rfl; (exact m_val))
      · exact ⟨_, rfl, congrArg Value.bool (mayB_f (by rw [ha]; simp)), rfl⟩
      · (repeat (first | exact List.Sublist.refl _ | apply List.Sublist.cons_cons | apply List.Sublist.cons))
end Go.Proofs.YtebeckkkckijeaaDoor.E
