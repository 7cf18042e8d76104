/- What the helpers of the laws compute: copies, comparisons, marks; for lists of at most 2 to the 21 places. -/
import Derived.Test.YtpanngbbofkeoaaPvFns
namespace Go.Proofs.Ytpanngbbofkeoaa.Pv
open Go Go.Pv Go.Proofs
set_option linter.unusedVariables false
set_option linter.unusedSimpArgs false

theorem w64 {n : Int} (h : 0 ≤ n) (h2 : n < 4611686018427387904) : IntKind.i64.wrap n = n := by rw [IntKind.wrap_i64]; omega
theorem dt {p : Prop} [Decidable p] (h : p) : decide p = true := decide_eq_true h
theorem df {p : Prop} [Decidable p] (h : ¬ p) : decide p = false := decide_eq_false h

theorem copyU_loop (N : Nat) (a : List Int) (ha : a.length ≤ 2097152) : ∀ (n k : Nat) (out : List Int) (i : Nat), i + n = a.length → n < k → out.length = a.length → out.take i = a.take i → laws_toUint64S.l0 N k a i out = some ((), a)
  | 0, k + 1, out, i, h1, h2, h3, h4 => by
    have : ¬ ((i : Int) < (a.length : Int)) := by omega
    simp only [laws_toUint64S.l0, df this, cond_false, Option.some.injEq, Prod.mk.injEq, true_and]
    have e1 : out.take i = out := List.take_of_length_le (by omega)
    have e2 : a.take i = a := List.take_of_length_le (by omega)
    rw [e1, e2] at h4; exact h4
  | n + 1, k + 1, out, i, h1, h2, h3, h4 => by
    have hi : (i : Int) < (a.length : Int) := by omega
    have hi' : (i : Int) < (out.length : Int) := by omega
    have h0 : (0 : Int) ≤ i := by omega
    have hw : IntKind.i64.wrap ((i : Int) + 1) = ((i + 1 : Nat) : Int) := by rw [w64 (by omega) (by omega)]; omega
    simp only [laws_toUint64S.l0, dt hi, dt hi', dt h0, cond_true, hw, Int.toNat_natCast]
    refine copyU_loop N a ha n k _ (i + 1) (by omega) (by omega) (by simp [h3]) ?_
    have hlt : i < a.length := by omega
    have hr : a.getD i 0 = a[i] := by simp [hlt]
    apply List.ext_getElem?
    intro j
    simp only [List.getElem?_take, List.getElem?_set, hr]
    by_cases hj : j < i + 1
    · simp only [if_pos hj]
      by_cases e : i = j
      · subst e; simp [show i < out.length by omega, hlt]
      · simp only [if_neg e]
        have := congrArg (fun l => l[j]?) h4
        simp only [List.getElem?_take, show j < i by omega, if_true] at this
        exact this
    · simp only [if_neg hj]
  | n, 0, out, i, h1, h2, h3, h4 => by omega
theorem copyU (N : Nat) (a : List Int) (ha : a.length ≤ 2097152) (hN : 16777216 < N) : laws_toUint64S N a = some ((), a) := by
  have h1 : (0 : Int) ≤ (a.length : Int) := by omega
  have h2 : (a.length : Int) ≤ (a.length : Int) := by omega
  have h3 : (8 : Int) * (a.length : Int) ≤ 281474976710656 := by omega
  simp only [laws_toUint64S, dt h1, dt h2, dt h3, cond_true]
  exact copyU_loop N a ha a.length N _ 0 (by omega) (by omega) (by simp) (by simp)

theorem eqI_loop (N : Nat) (a : List Int) (ha : a.length ≤ 4194304) : ∀ (n k : Nat) (i : Nat), i + n = a.length → n < k → laws_eqIntS.l0 N k a a i = some (true, ())
  | 0, k + 1, i, h1, h2 => by
    have : ¬ ((i : Int) < (a.length : Int)) := by omega
    simp only [laws_eqIntS.l0, df this, cond_false]
  | n + 1, k + 1, i, h1, h2 => by
    have hi : (i : Int) < (a.length : Int) := by omega
    have h0 : (0 : Int) ≤ i := by omega
    have hw : IntKind.i64.wrap ((i : Int) + 1) = ((i + 1 : Nat) : Int) := by rw [w64 (by omega) (by omega)]; omega
    simp only [laws_eqIntS.l0, dt hi, dt h0, cond_true, hw, bne_self_eq_false, cond_false]
    exact eqI_loop N a ha n k (i + 1) (by omega) (by omega)
  | n, 0, i, h1, h2 => by omega
theorem eqI (N : Nat) (a : List Int) (ha : a.length ≤ 4194304) (hN : 16777216 < N) : laws_eqIntS N a a = some (true, ()) := by
  simp only [laws_eqIntS, bne_self_eq_false, cond_false]
  exact eqI_loop N a ha a.length N 0 (by omega) (by omega)
theorem eqU_loop (N : Nat) (a : List Int) (ha : a.length ≤ 4194304) : ∀ (n k : Nat) (i : Nat), i + n = a.length → n < k → laws_eqUint64S.l0 N k a a i = some (true, ())
  | 0, k + 1, i, h1, h2 => by
    have : ¬ ((i : Int) < (a.length : Int)) := by omega
    simp only [laws_eqUint64S.l0, df this, cond_false]
  | n + 1, k + 1, i, h1, h2 => by
    have hi : (i : Int) < (a.length : Int) := by omega
    have h0 : (0 : Int) ≤ i := by omega
    have hw : IntKind.i64.wrap ((i : Int) + 1) = ((i + 1 : Nat) : Int) := by rw [w64 (by omega) (by omega)]; omega
    simp only [laws_eqUint64S.l0, dt hi, dt h0, cond_true, hw, bne_self_eq_false, cond_false]
    exact eqU_loop N a ha n k (i + 1) (by omega) (by omega)
  | n, 0, i, h1, h2 => by omega
theorem eqU (N : Nat) (a : List Int) (ha : a.length ≤ 4194304) (hN : 16777216 < N) : laws_eqUint64S N a a = some (true, ()) := by
  simp only [laws_eqUint64S, bne_self_eq_false, cond_false]
  exact eqU_loop N a ha a.length N 0 (by omega) (by omega)

theorem markU_loop (N : Nat) : ∀ (n k : Nat) (a : List Int) (x : Int) (i : Nat), a.length ≤ 4194304 → i + n = a.length → n < k → 0 ≤ x → x + n ≤ 16777216 → ∃ r, laws_markUint64S.l0 N k x i a = some (x + n, r)
  | 0, k + 1, a, x, i, ha, h1, h2, h3, h4 => by
    have : ¬ ((i : Int) < (a.length : Int)) := by omega
    exact ⟨a, by simp only [laws_markUint64S.l0, df this, cond_false, Int.natCast_zero, Int.add_zero]⟩
  | n + 1, k + 1, a, x, i, ha, h1, h2, h3, h4 => by
    have hi : (i : Int) < (a.length : Int) := by omega
    have h0 : (0 : Int) ≤ i := by omega
    have hw : IntKind.i64.wrap ((i : Int) + 1) = ((i + 1 : Nat) : Int) := by rw [w64 (by omega) (by omega)]; omega
    have hx : IntKind.i64.wrap (x + 1) = x + 1 := w64 (by omega) (by omega)
    obtain ⟨r, hr⟩ := markU_loop N n k (a.set (i : Int).toNat (IntKind.u64.wrap x)) (x + 1) (i + 1) (by simp; omega) (by simp; omega) (by omega) (by omega) (by omega)
    refine ⟨r, ?_⟩
    simp only [laws_markUint64S.l0, dt hi, dt h0, cond_true, hw, hx, hr, Option.some.injEq, Prod.mk.injEq, and_true]
    omega
  | n, 0, a, x, i, ha, h1, h2, h3, h4 => by omega
theorem markU (N : Nat) (a : List Int) (x : Int) (ha : a.length ≤ 4194304) (hx : 0 ≤ x) (h2 : x ≤ 8388608) (hN : 16777216 < N) : ∃ r, laws_markUint64S N x a = some (x + a.length, r) :=
  markU_loop N a.length N a x 0 ha (by omega) (by omega) hx (by omega)
/-- The list that stands behind a marking: its places count up from x. -/
theorem markI_loop (N : Nat) : ∀ (n k : Nat) (a : List Int) (x : Int) (i : Nat), a.length ≤ 4194304 → i + n = a.length → n < k → 0 ≤ x → x + n ≤ 16777216 → ∃ r, laws_markIntS.l0 N k x i a = some (x + n, r) ∧ r.length = a.length ∧ (∀ j < i, r[j]? = a[j]?) ∧ ∀ j, i ≤ j → j < a.length → r[j]? = some (x + j - i)
  | 0, k + 1, a, x, i, ha, h1, h2, h3, h4 => by
    have : ¬ ((i : Int) < (a.length : Int)) := by omega
    exact ⟨a, by simp only [laws_markIntS.l0, df this, cond_false, Int.natCast_zero, Int.add_zero], rfl, fun _ _ => rfl, fun j h5 h6 => by omega⟩
  | n + 1, k + 1, a, x, i, ha, h1, h2, h3, h4 => by
    have hi : (i : Int) < (a.length : Int) := by omega
    have h0 : (0 : Int) ≤ i := by omega
    have hw : IntKind.i64.wrap ((i : Int) + 1) = ((i + 1 : Nat) : Int) := by rw [w64 (by omega) (by omega)]; omega
    have hx : IntKind.i64.wrap (x + 1) = x + 1 := w64 (by omega) (by omega)
    obtain ⟨r, hr, hl, g1, g2⟩ := markI_loop N n k (a.set (i : Int).toNat x) (x + 1) (i + 1) (by simp; omega) (by simp; omega) (by omega) (by omega) (by omega)
    rw [List.length_set] at hl
    refine ⟨r, ?_, hl, fun j hj => ?_, fun j hj hj2 => ?_⟩
    · simp only [laws_markIntS.l0, dt hi, dt h0, cond_true, hw, hx, hr, Option.some.injEq, Prod.mk.injEq, and_true]
      omega
    · rw [g1 j (by omega), Int.toNat_natCast, List.getElem?_set, if_neg (by omega)]
    · by_cases e : j = i
      · subst e
        rw [g1 j (by omega), Int.toNat_natCast, List.getElem?_set, if_pos rfl, if_pos hj2]
        congr 1; omega
      · rw [g2 j (by omega) (by rw [List.length_set]; exact hj2)]
        congr 1; omega
  | n, 0, a, x, i, ha, h1, h2, h3, h4 => by omega
theorem heldI_loop (N : Nat) (a : List Int) (ha : a.length ≤ 4194304) : ∀ (n k : Nat) (x : Int) (i : Nat), i + n = a.length → n < k → 0 ≤ x → x + n ≤ 16777216 → (∀ j, i ≤ j → j < a.length → a[j]? = some (x + j - i)) → laws_heldIntS.l0 N k a x i = some (x + n, ())
  | 0, k + 1, x, i, h1, h2, h3, h4, h5 => by
    have : ¬ ((i : Int) < (a.length : Int)) := by omega
    simp only [laws_heldIntS.l0, df this, cond_false, Int.natCast_zero, Int.add_zero]
  | n + 1, k + 1, x, i, h1, h2, h3, h4, h5 => by
    have hi : (i : Int) < (a.length : Int) := by omega
    have h0 : (0 : Int) ≤ i := by omega
    have hw : IntKind.i64.wrap ((i : Int) + 1) = ((i + 1 : Nat) : Int) := by rw [w64 (by omega) (by omega)]; omega
    have hx : IntKind.i64.wrap (x + 1) = x + 1 := w64 (by omega) (by omega)
    have hr : a.getD i 0 = x := by
      have := h5 i (Nat.le_refl _) (by omega)
      simp only [List.getD_eq_getElem?_getD, this, Option.getD_some]
      omega
    simp only [laws_heldIntS.l0, dt hi, dt h0, cond_true, hw, hx, Int.toNat_natCast, hr, bne_self_eq_false, cond_false]
    rw [heldI_loop N a ha n k (x + 1) (i + 1) (by omega) (by omega) (by omega) (by omega) (fun j hj hj2 => by rw [h5 j (by omega) hj2]; congr 1; omega)]
    simp only [Option.some.injEq, Prod.mk.injEq, and_true]; omega
  | n, 0, x, i, h1, h2, h3, h4, h5 => by omega
/-- Mark a list, and read the marks. -/
theorem markI (N : Nat) (a : List Int) (x : Int) (ha : a.length ≤ 4194304) (hx : 0 ≤ x) (h2 : x ≤ 8388608) (hN : 16777216 < N) : ∃ r, laws_markIntS N x a = some (x + a.length, r) ∧ laws_heldIntS N r x = some (x + a.length, ()) := by
  obtain ⟨r, g1, g2, _, g4⟩ := markI_loop N a.length N a x 0 ha (by omega) (by omega) hx (by omega)
  refine ⟨r, g1, ?_⟩
  have := heldI_loop N r (by omega) a.length N x 0 (by omega) (by omega) hx (by omega) (fun j hj hj2 => g4 j hj (by omega))
  exact this
end Go.Proofs.Ytpanngbbofkeoaa.Pv
