/- The plain law of FnExactStatLast: what the functions compute, over numbers and lists. -/
import Derived.Test.YtpanngbbofkeoaaC2F
import Derived.Test.YtpanngbbofkeoaaPvRow
namespace Go.Proofs.Ytpanngbbofkeoaa.Pv
open Go Go.Pv Go.Proofs
set_option linter.unusedVariables false
set_option linter.unusedSimpArgs false
theorem w64 {n : Int} (h : -9223372036854775808 ≤ n) (h2 : n ≤ 9223372036854775807) : IntKind.i64.wrap n = n := by rw [IntKind.wrap_i64]; omega
theorem dt {p : Prop} [Decidable p] (h : p) : decide p = true := decide_eq_true h
theorem ct {α : Type _} {p : Prop} [Decidable p] {a b : α} (h : p) : cond (decide p) a b = a := by rw [decide_eq_true h]; rfl
theorem cf {α : Type _} {p : Prop} [Decidable p] {a b : α} (h : ¬ p) : cond (decide p) a b = b := by rw [decide_eq_false h]; rfl
theorem cnd {α : Type _} {p : Prop} [Decidable p] {a b : α} : cond (decide p) a b = if p then a else b := by by_cases h : p <;> simp [h]
/-- The test that a place lies in a row. -/
theorem bnd {α : Type _} {i : Int} {n : Nat} {a b : α} (h : 0 ≤ i) (h2 : i < (n : Int)) : cond (cond (decide (0 ≤ i)) (decide (i < (n : Int))) false) a b = a := by rw [dt h, dt h2]; rfl
theorem getD_lt {α : Type _} {l : List α} {i : Nat} {d : α} (h : i < l.length) : l.getD i d = l[i] := by simp [h]
theorem drop_at {α : Type _} {l : List α} {i : Nat} (d : α) (h : i < l.length) : l.drop i = l.getD i d :: l.drop (i + 1) := by
  rw [List.drop_eq_getElem_cons h, getD_lt h]
theorem fuel {n k : Nat} (h : n < k) : ∃ j, k = j + 1 := ⟨k - 1, by omega⟩
/-- A loop over the places below a length, with a state. -/
theorem loop_idx {A : Type _} {R : Type _} (len : Nat) (L : Nat → Int → A → R) (F : Nat → A → R) (I : Nat → A → Prop)
    (hend : ∀ k a, I len a → L (k + 1) (len : Int) a = F len a)
    (hstep : ∀ k i a, i < len → I i a → (∀ a', I (i + 1) a' → L k ((i : Int) + 1) a' = F (i + 1) a') → L (k + 1) (i : Int) a = F i a) :
    ∀ n k i a, i + n = len → n < k → I i a → L k (i : Int) a = F i a := by
  intro n
  induction n with
  | zero =>
    intro k i a h1 h2 h3
    obtain ⟨k, rfl⟩ := fuel h2
    obtain rfl : i = len := by omega
    exact hend k a h3
  | succ n ih =>
    intro k i a h1 h2 h3
    obtain ⟨k, rfl⟩ := fuel h2
    exact hstep k i a (by omega) h3 (fun a' h => by have := ih k (i + 1) a' (by omega) (by omega) h; rwa [Int.natCast_add] at this)
/-- A loop over a list by its places, with a state; what it gives, told by recursion over the list. -/
theorem loop_list {X : Type _} {A : Type _} {R : Type _} (d : X) (l : List X) (L : Nat → Int → A → R) (F : List X → A → R) (I : Nat → A → Prop)
    (hend : ∀ k a, I l.length a → L (k + 1) (l.length : Int) a = F [] a)
    (hstep : ∀ k i a x r, i < l.length → l.getD i d = x → I i a → (∀ a', I (i + 1) a' → L k ((i : Int) + 1) a' = F r a') → L (k + 1) (i : Int) a = F (x :: r) a)
    (K : Nat) (hK : l.length < K) (a : A) (ha : I 0 a) : L K 0 a = F l a := by
  have := loop_idx l.length L (fun i a => F (l.drop i) a) I
    (fun k a h => by rw [hend k a h, List.drop_eq_nil_of_le (Nat.le_refl _)])
    (fun k i a h1 h2 h3 => by
      rw [drop_at d h1]
      exact hstep k i a _ _ h1 rfl h2 h3) l.length K 0 a (by omega) hK ha
  simpa using this
/-- Lists that are short enough for every count. -/
def Short {α : Type _} (l : List α) : Prop := l.length ≤ 4194304
abbrev Fuel (N : Nat) : Prop := 1099511627776 < N
/-- The fuel with which the laws are told. -/
def N0 : Nat := 1099511627777
theorem hN0 : Fuel N0 := by unfold Fuel N0; omega
theorem wf_len {e : Ty} {l : List e.D} (h : Wf (.sl .frz e) l) : (l.length : Int) ≤ 9223372036854775807 := by
  have := h.1
  unfold maxLen at this
  omega
/-- What a loop that copies has behind it. -/
theorem copy_step {α : Type _} {l m : List α} {i : Nat} {d : α} (hi : i < l.length) (hm : m.length = l.length) (h : m.take i = l.take i) : (m.set i (l.getD i d)).take (i + 1) = l.take (i + 1) := by
  rw [getD_lt hi]
  apply List.ext_getElem?
  intro j
  simp only [List.getElem?_take, List.getElem?_set]
  by_cases hj : j < i + 1
  · simp only [if_pos hj]
    by_cases e : i = j
    · subst e; simp [hm, hi]
    · simp only [if_neg e]
      have := congrArg (fun l => l[j]?) h
      simp only [List.getElem?_take, show j < i by omega, if_true] at this
      exact this
  · simp only [if_neg hj]
theorem copy_end {α : Type _} {l m : List α} (hm : m.length = l.length) (h : m.take l.length = l.take l.length) : m = l := by
  rwa [List.take_of_length_le (by omega), List.take_of_length_le (by omega)] at h
abbrev Itm := Bool × Int × (Int × Int × Int × Int) × Int × Int
abbrev itm0 : Itm := (false, 0, (0, 0, 0, 0), 0, 0)
theorem toTaleItem_eq (N : Nat) (a : Itm) : laws_toTaleItem N a = some (a, ()) := rfl
theorem toTaleItemS_eq (N : Nat) (hN : Fuel N) (a : List Itm) (ha : Short a) : laws_toTaleItemS N a = some ((), a) := by
  unfold Short at ha
  have := loop_idx a.length (fun k i m => laws_toTaleItemS.l0 N k a i m) (fun _ _ => some ((), a)) (fun i m => m.length = a.length ∧ m.take i = a.take i)
    (fun k m ⟨h1, h2⟩ => by simp (disch := omega) only [laws_toTaleItemS.l0, cf, copy_end h1 h2])
    (fun k i m hi ⟨h1, h2⟩ ih => by
      have := ih (m.set i (a.getD i itm0)) ⟨by simp [h1], copy_step hi h1 h2⟩
      simp (disch := omega) only [laws_toTaleItemS.l0, ct, bnd, w64, Int.toNat_natCast, toTaleItem_eq, Option.bind_some, this])
    a.length N 0 (List.replicate a.length itm0) (by omega) (by omega) ⟨by simp, by simp⟩
  simp (disch := omega) only [laws_toTaleItemS, ct, Int.toNat_natCast]
  exact this
theorem eqBookOp_eq (N : Nat) (a) : laws_eqBookOp N a a = some (true, ()) := by simp only [laws_eqBookOp, bne_self_eq_false, cond_false]
theorem eqTaleItem_eq (N : Nat) (a : Itm) : laws_eqTaleItem N a a = some (true, ()) := by
  simp only [laws_eqTaleItem, eqBookOp_eq, bne_self_eq_false, cond_false, beq_self_eq_true, Bool.not_true, Option.bind_some]
theorem eqTaleItemS_eq (N : Nat) (hN : Fuel N) (a : List Itm) (ha : Short a) : laws_eqTaleItemS N a a = some (true, ()) := by
  unfold Short at ha
  have := loop_idx a.length (fun k i (_ : Unit) => laws_eqTaleItemS.l0 N k a a i) (fun _ _ => some (true, ())) (fun i m => True)
    (fun k m _ => by simp (disch := omega) only [laws_eqTaleItemS.l0, cf])
    (fun k i m hi _ ih => by simp (disch := omega) only [laws_eqTaleItemS.l0, ct, bnd, w64, Int.toNat_natCast, eqTaleItem_eq, Option.bind_some, Bool.not_true, cond_false, ih () trivial])
    a.length N 0 () (by omega) (by omega) trivial
  simp only [laws_eqTaleItemS, bne_self_eq_false, cond_false]
  exact this
/-- A count against which lists are held: the rest, or -1. -/
def rest (left n : Int) : Int := if left - n < 0 then -1 else left - n
theorem szTaleItemS_eq (N : Nat) (a : List Itm) (left : Int) (h : 0 ≤ left) (h2 : left ≤ 1048576) (h3 : (a.length : Int) ≤ 9223372036854775807) : laws_szTaleItemS N a left = some (rest left a.length, ()) := by
  simp (disch := omega) only [laws_szTaleItemS, w64, cnd, rest]
  split <;> rfl
def taleOf (l : List Itm) (g : Int) : List Itm := l.filter fun t => !t.1 && t.2.1 == g
theorem taleOf_len (l : List Itm) (g : Int) : (taleOf l g).length ≤ l.length := List.length_filter_le _ _
theorem spec_TaleOf_eq (N : Nat) (hN : Fuel N) (l : List Itm) (g : Int) (hl : Short l) : spec_TaleOf N l g = some ((), taleOf l g) := by
  unfold Short at hl
  have := loop_list itm0 l (fun k i a => spec_TaleOf.l0 N k l g i a) (fun r a => some ((), a ++ taleOf r g)) (fun i a => a.length ≤ i)
    (fun k a h => by simp (disch := omega) only [spec_TaleOf.l0, cf, taleOf, List.filter_nil, List.append_nil])
    (fun k i a x r hi hx ha ih => by
      simp (disch := omega) only [spec_TaleOf.l0, ct, bnd, Int.toNat_natCast, hx, taleOf, List.filter_cons, w64]
      cases hc : x.1 <;> cases hg : (x.2.1 == g)
      · simp (disch := omega) only [Bool.not_false, cond_true, cond_false, ih, Bool.and_false, Bool.false_eq_true, if_false, taleOf]
      · simp (disch := simp only [List.length_append, List.length_cons, List.length_nil]; omega) only [Bool.not_false, cond_true, ih, ct, Bool.and_true, if_true, taleOf, List.append_assoc, List.cons_append, List.nil_append]
      · simp (disch := omega) only [Bool.not_true, cond_false, ih, Bool.false_and, Bool.false_eq_true, if_false, taleOf]
      · simp (disch := omega) only [Bool.not_true, cond_false, ih, Bool.false_and, Bool.false_eq_true, if_false, taleOf])
    N (by omega) [] (Nat.le_refl _)
  simp only [List.nil_append] at this
  exact this
theorem impl_TaleOf_eq (N : Nat) (hN : Fuel N) (l : List Itm) (g : Int) (hl : Short l) : impl_TaleOf N l g = some ((), taleOf l g) := by
  unfold Short at hl
  have := loop_list itm0 l (fun k i a => impl_TaleOf.l0 N k g l l.length i a) (fun r a => some ((), a ++ taleOf r g)) (fun i a => a.length ≤ i)
    (fun k a h => by simp (disch := omega) only [impl_TaleOf.l0, cf, taleOf, List.filter_nil, List.append_nil])
    (fun k i a x r hi hx ha ih => by
      simp (disch := omega) only [impl_TaleOf.l0, ct, bnd, Int.toNat_natCast, hx, taleOf, List.filter_cons, w64]
      cases hc : x.1 <;> cases hg : (x.2.1 == g)
      · simp (disch := omega) only [Bool.not_false, cond_true, cond_false, ih, Bool.and_false, Bool.false_eq_true, if_false, taleOf]
      · simp (disch := simp only [List.length_append, List.length_cons, List.length_nil]; omega) only [Bool.not_false, cond_true, ih, ct, Bool.and_true, if_true, taleOf, List.append_assoc, List.cons_append, List.nil_append]
      · simp (disch := omega) only [Bool.not_true, cond_false, ih, Bool.false_and, Bool.false_eq_true, if_false, taleOf]
      · simp (disch := omega) only [Bool.not_true, cond_false, ih, Bool.false_and, Bool.false_eq_true, if_false, taleOf])
    N (by omega) [] (Nat.le_refl _)
  simp only [List.nil_append] at this
  exact this
def statLast (l : List Itm) (g : Int) : Itm × Bool := if (taleOf l g).length = 0 then (itm0, false) else ((taleOf l g).getD ((taleOf l g).length - 1) itm0, true)
theorem statLast_text (m : List Itm) (hm : m.length ≤ 4194304) : (bif ((m.length : Int) == 0) then some ((itm0, false), ()) else (bif (bif decide (0 ≤ IntKind.i64.wrap ((m.length : Int) - 1)) then decide (IntKind.i64.wrap ((m.length : Int) - 1) < (m.length : Int)) else false) then some (((m.getD ((IntKind.i64.wrap ((m.length : Int) - 1)).toNat) itm0), true), ()) else none)) = some (if m.length = 0 then (itm0, false) else (m.getD (m.length - 1) itm0, true), ()) := by
  by_cases h : m.length = 0
  · have : ((m.length : Int) == 0) = true := by rw [beq_iff_eq]; omega
    simp only [this, cond_true, if_pos h]
  · have : ((m.length : Int) == 0) = false := by rw [beq_eq_false_iff_ne]; omega
    simp (disch := omega) only [this, cond_false, if_neg h, w64, bnd]
    congr 4; omega
theorem spec_StatLast_eq (N : Nat) (hN : Fuel N) (l : List Itm) (g : Int) (hl : Short l) : spec_StatLast N l g = some (statLast l g, ()) := by
  have := taleOf_len l g
  unfold Short at hl
  simp only [spec_StatLast, spec_TaleOf_eq N hN l g hl, Option.bind_some, statLast]
  exact statLast_text _ (by omega)
theorem impl_StatLast_eq (N : Nat) (hN : Fuel N) (l : List Itm) (g : Int) (hl : Short l) : impl_StatLast N l g = some (statLast l g, ()) := by
  have := taleOf_len l g
  unfold Short at hl
  simp only [impl_StatLast, impl_TaleOf_eq N hN l g hl, Option.bind_some, statLast]
  exact statLast_text _ (by omega)
theorem plainStatLast (N : Nat) (hN : Fuel N) (a : List Itm) (ha : (a.length : Int) ≤ 9223372036854775807) (s : Int) : laws_FnExactStatLast N a s = some (true, ()) := by
  unfold laws_FnExactStatLast
  rw [szTaleItemS_eq N a _ (by omega) (by omega) ha]
  simp only [Option.bind_some, rest]
  by_cases h : (1048576 : Int) - a.length < 0
  · rw [if_pos h]; rfl
  have hs : Short a := by unfold Short; omega
  rw [if_neg h, cf h]
  simp only [toTaleItemS_eq N hN a hs, Option.bind_some, spec_StatLast_eq N hN _ _ hs, impl_StatLast_eq N hN _ _ hs, eqTaleItem_eq, Bool.not_true, cond_false, beq_self_eq_true, eqTaleItemS_eq N hN a hs]
abbrev tyItm : Ty := .agg (.pair .bool (.pair (.int .i64) (.pair (.agg (.pair (.int .i64) (.pair (.int .i64) (.pair (.int .i64) (.int .i64))))) (.pair (.int .i64) (.int .i64)))))
theorem lawFnExactStatLast (y0 : List Itm) (y1 : Int) (w0 : Wf (.sl .frz tyItm) y0) (w1 : Wf (.int .i64) y1) : laws_FnExactStatLast N0 y0 y1 = some (true, ()) :=
  plainStatLast N0 hN0 y0 (wf_len w0) y1
end Go.Proofs.Ytpanngbbofkeoaa.Pv
