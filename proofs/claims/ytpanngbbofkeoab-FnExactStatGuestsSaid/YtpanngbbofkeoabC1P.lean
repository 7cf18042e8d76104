/- The plain law of FnExactStatGuests: what the functions compute, over numbers and lists. -/
import Derived.Test.YtpanngbbofkeoabC1F
import Derived.Test.YtpanngbbofkeoabPvRow
namespace Go.Proofs.Ytpanngbbofkeoab.Pv
open Go Go.Pv Go.Proofs
set_option linter.unusedVariables false
set_option linter.unusedSimpArgs false
theorem w64 {n : Int} (h : -9223372036854775808 ≤ n) (h2 : n ≤ 9223372036854775807) : IntKind.i64.wrap n = n := by rw [IntKind.wrap_i64]; omega
theorem dt {p : Prop} [Decidable p] (h : p) : decide p = true := decide_eq_true h
theorem ct {α : Type _} {p : Prop} [Decidable p] {a b : α} (h : p) : cond (decide p) a b = a := by rw [decide_eq_true h]; rfl
theorem cf {α : Type _} {p : Prop} [Decidable p] {a b : α} (h : ¬ p) : cond (decide p) a b = b := by rw [decide_eq_false h]; rfl
theorem cnd {α : Type _} {p : Prop} [Decidable p] {a b : α} : cond (decide p) a b = if p then a else b := by by_cases h : p <;> simp [h]
/-- The test that a place lies in a row. -/
theorem bnd {α : Type _} {i : Int} {n : Nat} {a b : α} (h : 0 ≤ i) (h2 : i < (n : Int)) : cond (cond (decide (0 ≤ i)) (decide (i < (n : Int))) false) a b = a := by rw [dt h, dt h2]; rfl
theorem getD_lt {α : Type _} {l : List α} {i : Nat} {d : α} (h : i < l.length) : l.getD i d = l[i] := by simp [h]
theorem drop_at {α : Type _} {l : List α} {i : Nat} (d : α) (h : i < l.length) : l.drop i = l.getD i d :: l.drop (i + 1) := by
  rw [List.drop_eq_getElem_cons h, getD_lt h]
theorem fuel {n k : Nat} (h : n < k) : ∃ j, k = j + 1 := ⟨k - 1, by omega⟩
/-- A loop over the places below a length, with a state. -/
theorem loop_idx {A : Type _} {R : Type _} (len : Nat) (L : Nat → Int → A → R) (F : Nat → A → R) (I : Nat → A → Prop)
    (hend : ∀ k a, I len a → L (k + 1) (len : Int) a = F len a)
    (hstep : ∀ k i a, i < len → I i a → (∀ a', I (i + 1) a' → L k ((i : Int) + 1) a' = F (i + 1) a') → L (k + 1) (i : Int) a = F i a) :
    ∀ n k i a, i + n = len → n < k → I i a → L k (i : Int) a = F i a := by
  intro n
  induction n with
  | zero =>
    intro k i a h1 h2 h3
    obtain ⟨k, rfl⟩ := fuel h2
    obtain rfl : i = len := by omega
    exact hend k a h3
  | succ n ih =>
    intro k i a h1 h2 h3
    obtain ⟨k, rfl⟩ := fuel h2
    exact hstep k i a (by omega) h3 (fun a' h => by have := ih k (i + 1) a' (by omega) (by omega) h; rwa [Int.natCast_add] at this)
/-- The same where a round takes c of the fuel. -/
theorem loop_idxc (c : Nat) (hc : 0 < c) {A : Type _} {R : Type _} (len : Nat) (L : Nat → Int → A → R) (F : Nat → A → R) (I : Nat → A → Prop)
    (hend : ∀ k a, I len a → L (k + 1) (len : Int) a = F len a)
    (hstep : ∀ k i a, i < len → I i a → (∀ a', I (i + 1) a' → L k ((i : Int) + 1) a' = F (i + 1) a') → L (k + c) (i : Int) a = F i a) :
    ∀ n k i a, i + n = len → n * c < k → I i a → L k (i : Int) a = F i a := by
  intro n
  induction n with
  | zero =>
    intro k i a h1 h2 h3
    obtain ⟨k, rfl⟩ := fuel h2
    obtain rfl : i = len := by omega
    exact hend k a h3
  | succ n ih =>
    intro k i a h1 h2 h3
    rw [Nat.succ_mul] at h2
    obtain ⟨k, rfl⟩ : ∃ j, k = j + c := ⟨k - c, by omega⟩
    exact hstep k i a (by omega) h3 (fun a' h => by have := ih k (i + 1) a' (by omega) (by omega) h; rwa [Int.natCast_add] at this)
/-- A loop over a list by its places, with a state; what it gives, told by recursion over the list. -/
theorem loop_list {X : Type _} {A : Type _} {R : Type _} (d : X) (l : List X) (L : Nat → Int → A → R) (F : List X → A → R) (I : Nat → A → Prop)
    (hend : ∀ k a, I l.length a → L (k + 1) (l.length : Int) a = F [] a)
    (hstep : ∀ k i a x r, i < l.length → l.getD i d = x → I i a → (∀ a', I (i + 1) a' → L k ((i : Int) + 1) a' = F r a') → L (k + 1) (i : Int) a = F (x :: r) a)
    (K : Nat) (hK : l.length < K) (a : A) (ha : I 0 a) : L K 0 a = F l a := by
  have := loop_idx l.length L (fun i a => F (l.drop i) a) I
    (fun k a h => by rw [hend k a h, List.drop_eq_nil_of_le (Nat.le_refl _)])
    (fun k i a h1 h2 h3 => by
      rw [drop_at d h1]
      exact hstep k i a _ _ h1 rfl h2 h3) l.length K 0 a (by omega) hK ha
  simpa using this
/-- Lists that are short enough for every count. -/
def Short {α : Type _} (l : List α) : Prop := l.length ≤ 4194304
abbrev Fuel (N : Nat) : Prop := 1099511627776 < N
/-- The fuel with which the laws are told. -/
def N0 : Nat := 1099511627777
theorem hN0 : Fuel N0 := by unfold Fuel N0; omega
theorem wf_len {e : Ty} {l : List e.D} (h : Wf (.sl .frz e) l) : (l.length : Int) ≤ 9223372036854775807 := by
  have := h.1
  unfold maxLen at this
  omega
/-- What a loop that copies has behind it. -/
theorem copy_step {α : Type _} {l m : List α} {i : Nat} {d : α} (hi : i < l.length) (hm : m.length = l.length) (h : m.take i = l.take i) : (m.set i (l.getD i d)).take (i + 1) = l.take (i + 1) := by
  rw [getD_lt hi]
  apply List.ext_getElem?
  intro j
  simp only [List.getElem?_take, List.getElem?_set]
  by_cases hj : j < i + 1
  · simp only [if_pos hj]
    by_cases e : i = j
    · subst e; simp [hm, hi]
    · simp only [if_neg e]
      have := congrArg (fun l => l[j]?) h
      simp only [List.getElem?_take, show j < i by omega, if_true] at this
      exact this
  · simp only [if_neg hj]
theorem copy_end {α : Type _} {l m : List α} (hm : m.length = l.length) (h : m.take l.length = l.take l.length) : m = l := by
  rwa [List.take_of_length_le (by omega), List.take_of_length_le (by omega)] at h
theorem eqIntS_eq (N : Nat) (hN : Fuel N) (a : List Int) (ha : Short a) : laws_eqIntS N a a = some (true, ()) := by
  unfold Short at ha
  have := loop_idx a.length (fun k i (_ : Unit) => laws_eqIntS.l0 N k a a i) (fun _ _ => some (true, ())) (fun i m => True)
    (fun k m _ => by simp (disch := omega) only [laws_eqIntS.l0, cf])
    (fun k i m hi _ ih => by simp (disch := omega) only [laws_eqIntS.l0, ct, bnd, w64, Int.toNat_natCast, bne_self_eq_false, cond_false, ih () trivial])
    a.length N 0 () (by omega) (by omega) trivial
  simp only [laws_eqIntS, bne_self_eq_false, cond_false]
  exact this
/-- Numbers that count up. -/
def marks (x : Int) : Nat → List Int
  | 0 => []
  | n + 1 => x :: marks (x + 1) n
theorem marks_length (x : Int) : ∀ n, (marks x n).length = n := by
  intro n
  induction n generalizing x with
  | zero => rfl
  | succ n ih => simp [marks, ih]
theorem marks_getD (x : Int) : ∀ n i, i < n → (marks x n).getD i 0 = x + i := by
  intro n
  induction n generalizing x with
  | zero => intro i h; omega
  | succ n ih =>
    intro i h
    cases i with
    | zero => simp [marks]
    | succ i =>
      have := ih (x + 1) i (by omega)
      simp only [marks, List.getD_cons_succ, this]
      omega
theorem getElem?_marks (x : Int) {n i : Nat} (h : i < n) : (marks x n)[i]? = some (x + i) := by
  have := marks_getD x n i h
  have h2 : i < (marks x n).length := by rw [marks_length]; exact h
  rw [getD_lt h2] at this
  rw [List.getElem?_eq_getElem h2, this]
/-- What a loop that fills has behind it. -/
theorem fill_step {α : Type _} {l m : List α} {i : Nat} {v : α} (hi : i < l.length) (hm : m.length = l.length) (hv : l[i]? = some v) (h : m.take i = l.take i) : (m.set i v).take (i + 1) = l.take (i + 1) := by
  have : l.getD i v = v := by rw [List.getD_eq_getElem?_getD, hv]; rfl
  have := copy_step (d := v) hi hm h
  rwa [show l.getD i v = v by rw [List.getD_eq_getElem?_getD, hv]; rfl] at this
theorem markIntS_eq (N : Nat) (hN : Fuel N) (a : List Int) (x : Int) (ha : Short a) (h1 : 0 ≤ x) (h2 : x ≤ 1073741824) : laws_markIntS N x a = some (x + a.length, marks x a.length) := by
  unfold Short at ha
  have hl := marks_length x a.length
  have := loop_idx a.length (fun k i (p : Int × List Int) => laws_markIntS.l0 N k p.1 i p.2) (fun _ _ => some (x + a.length, marks x a.length))
    (fun i p => p.1 = x + i ∧ p.2.length = a.length ∧ p.2.take i = (marks x a.length).take i)
    (fun k p ⟨g1, g2, g3⟩ => by
      have : p.2 = marks x a.length := copy_end (by omega) (by rw [hl]; exact g3)
      simp (disch := omega) only [laws_markIntS.l0, cf, g1, this])
    (fun k i p hi ⟨g1, g2, g3⟩ ih => by
      have := ih (p.1 + 1, p.2.set i p.1) ⟨by dsimp only; omega, by simp [g2], by dsimp only; exact fill_step (by omega) (by omega) (by rw [g1]; exact getElem?_marks x hi) g3⟩
      simp (disch := omega) only [laws_markIntS.l0, ct, bnd, w64, Int.toNat_natCast, this])
    a.length N 0 (x, a) (by omega) (by omega) ⟨by simp, rfl, by simp⟩
  exact this
theorem heldIntS_eq (N : Nat) (hN : Fuel N) (n : Nat) (x : Int) (ha : n ≤ 4194304) (h1 : 0 ≤ x) (h2 : x ≤ 1073741824) : laws_heldIntS N (marks x n) x = some (x + n, ()) := by
  have hl := marks_length x n
  have := loop_idx n (fun k i (p : Int) => laws_heldIntS.l0 N k (marks x n) p i) (fun _ _ => some (x + n, ())) (fun i p => p = x + i)
    (fun k p g1 => by simp (disch := omega) only [laws_heldIntS.l0, hl, cf, g1])
    (fun k i p hi g1 ih => by
      have := ih (p + 1) (by omega)
      simp (disch := omega) only [laws_heldIntS.l0, hl, ct, bnd, w64, Int.toNat_natCast, marks_getD, g1.symm, bne_self_eq_false, cond_false, this])
    n N 0 x (by omega) (by omega) (by simp)
  exact this
/-- A number brought into 0 to m. -/
def low (n m : Int) : Int := if n < 0 then 0 else if n > m then m else n
theorem low_ge (n m : Int) (h : 0 ≤ m) : 0 ≤ low n m := by unfold low; split <;> (try split) <;> omega
theorem low_le (n m : Int) (h : 0 ≤ m) : low n m ≤ m := by unfold low; split <;> (try split) <;> omega
theorem impl_clamp_eq (N : Nat) (n m : Int) (h : 0 ≤ m) : impl_clamp N n m = some (low n m, ()) := by
  unfold impl_clamp low
  congr 2
  repeat' split
  all_goals omega
abbrev Itm := Bool × Int × (Int × Int × Int × Int) × Int × Int
abbrev itm0 : Itm := (false, 0, (0, 0, 0, 0), 0, 0)
theorem toTaleItem_eq (N : Nat) (a : Itm) : laws_toTaleItem N a = some (a, ()) := rfl
theorem toTaleItemS_eq (N : Nat) (hN : Fuel N) (a : List Itm) (ha : Short a) : laws_toTaleItemS N a = some ((), a) := by
  unfold Short at ha
  have := loop_idx a.length (fun k i m => laws_toTaleItemS.l0 N k a i m) (fun _ _ => some ((), a)) (fun i m => m.length = a.length ∧ m.take i = a.take i)
    (fun k m ⟨h1, h2⟩ => by simp (disch := omega) only [laws_toTaleItemS.l0, cf, copy_end h1 h2])
    (fun k i m hi ⟨h1, h2⟩ ih => by
      have := ih (m.set i (a.getD i itm0)) ⟨by simp [h1], copy_step hi h1 h2⟩
      simp (disch := omega) only [laws_toTaleItemS.l0, ct, bnd, w64, Int.toNat_natCast, toTaleItem_eq, Option.bind_some, this])
    a.length N 0 (List.replicate a.length itm0) (by omega) (by omega) ⟨by simp, by simp⟩
  simp (disch := omega) only [laws_toTaleItemS, ct, Int.toNat_natCast]
  exact this
theorem eqBookOp_eq (N : Nat) (a) : laws_eqBookOp N a a = some (true, ()) := by simp only [laws_eqBookOp, bne_self_eq_false, cond_false]
theorem eqTaleItem_eq (N : Nat) (a : Itm) : laws_eqTaleItem N a a = some (true, ()) := by
  simp only [laws_eqTaleItem, eqBookOp_eq, bne_self_eq_false, cond_false, beq_self_eq_true, Bool.not_true, Option.bind_some]
theorem eqTaleItemS_eq (N : Nat) (hN : Fuel N) (a : List Itm) (ha : Short a) : laws_eqTaleItemS N a a = some (true, ()) := by
  unfold Short at ha
  have := loop_idx a.length (fun k i (_ : Unit) => laws_eqTaleItemS.l0 N k a a i) (fun _ _ => some (true, ())) (fun i m => True)
    (fun k m _ => by simp (disch := omega) only [laws_eqTaleItemS.l0, cf])
    (fun k i m hi _ ih => by simp (disch := omega) only [laws_eqTaleItemS.l0, ct, bnd, w64, Int.toNat_natCast, eqTaleItem_eq, Option.bind_some, Bool.not_true, cond_false, ih () trivial])
    a.length N 0 () (by omega) (by omega) trivial
  simp only [laws_eqTaleItemS, bne_self_eq_false, cond_false]
  exact this
/-- A count against which lists are held: the rest, or -1. -/
def rest (left n : Int) : Int := if left - n < 0 then -1 else left - n
theorem szTaleItemS_eq (N : Nat) (a : List Itm) (left : Int) (h : 0 ≤ left) (h2 : left ≤ 1048576) (h3 : (a.length : Int) ≤ 9223372036854775807) : laws_szTaleItemS N a left = some (rest left a.length, ()) := by
  simp (disch := omega) only [laws_szTaleItemS, w64, cnd, rest]
  split <;> rfl
def taleOf (l : List Itm) (g : Int) : List Itm := l.filter fun t => !t.1 && t.2.1 == g
theorem spec_TaleOf_eq (N : Nat) (hN : Fuel N) (l : List Itm) (g : Int) (hl : Short l) : spec_TaleOf N l g = some ((), taleOf l g) := by
  unfold Short at hl
  have := loop_list itm0 l (fun k i a => spec_TaleOf.l0 N k l g i a) (fun r a => some ((), a ++ taleOf r g)) (fun i a => a.length ≤ i)
    (fun k a h => by simp (disch := omega) only [spec_TaleOf.l0, cf, taleOf, List.filter_nil, List.append_nil])
    (fun k i a x r hi hx ha ih => by
      simp (disch := omega) only [spec_TaleOf.l0, ct, bnd, Int.toNat_natCast, hx, taleOf, List.filter_cons, w64]
      cases hc : x.1 <;> cases hg : (x.2.1 == g)
      · simp (disch := omega) only [Bool.not_false, cond_true, cond_false, ih, Bool.and_false, Bool.false_eq_true, if_false, taleOf]
      · simp (disch := simp only [List.length_append, List.length_cons, List.length_nil]; omega) only [Bool.not_false, cond_true, ih, ct, Bool.and_true, if_true, taleOf, List.append_assoc, List.cons_append, List.nil_append]
      · simp (disch := omega) only [Bool.not_true, cond_false, ih, Bool.false_and, Bool.false_eq_true, if_false, taleOf]
      · simp (disch := omega) only [Bool.not_true, cond_false, ih, Bool.false_and, Bool.false_eq_true, if_false, taleOf])
    N (by omega) [] (Nat.le_refl _)
  simp only [List.nil_append] at this
  exact this
theorem impl_TaleOf_eq (N : Nat) (hN : Fuel N) (l : List Itm) (g : Int) (hl : Short l) : impl_TaleOf N l g = some ((), taleOf l g) := by
  unfold Short at hl
  have := loop_list itm0 l (fun k i a => impl_TaleOf.l0 N k g l l.length i a) (fun r a => some ((), a ++ taleOf r g)) (fun i a => a.length ≤ i)
    (fun k a h => by simp (disch := omega) only [impl_TaleOf.l0, cf, taleOf, List.filter_nil, List.append_nil])
    (fun k i a x r hi hx ha ih => by
      simp (disch := omega) only [impl_TaleOf.l0, ct, bnd, Int.toNat_natCast, hx, taleOf, List.filter_cons, w64]
      cases hc : x.1 <;> cases hg : (x.2.1 == g)
      · simp (disch := omega) only [Bool.not_false, cond_true, cond_false, ih, Bool.and_false, Bool.false_eq_true, if_false, taleOf]
      · simp (disch := simp only [List.length_append, List.length_cons, List.length_nil]; omega) only [Bool.not_false, cond_true, ih, ct, Bool.and_true, if_true, taleOf, List.append_assoc, List.cons_append, List.nil_append]
      · simp (disch := omega) only [Bool.not_true, cond_false, ih, Bool.false_and, Bool.false_eq_true, if_false, taleOf]
      · simp (disch := omega) only [Bool.not_true, cond_false, ih, Bool.false_and, Bool.false_eq_true, if_false, taleOf])
    N (by omega) [] (Nat.le_refl _)
  simp only [List.nil_append] at this
  exact this
theorem markTaleItemS_eq (N : Nat) (hN : Fuel N) (a : List Itm) (x : Int) (ha : Short a) (h1 : 0 ≤ x) (h2 : x ≤ 1073741824) : ∃ r, laws_markTaleItemS N x a = some (x + 8 * a.length, r) := by
  unfold Short at ha
  have := loop_idxc 10 (by decide) a.length (fun k i (p : Int × List Itm) => (laws_markTaleItemS.l0 N k p.1 i p.2).map (·.1)) (fun _ p => some (x + 8 * a.length))
    (fun i p => p.1 = x + 8 * i ∧ p.2.length = a.length)
    (fun k p ⟨g1, g2⟩ => by simp (disch := omega) only [laws_markTaleItemS.l0, cf, g1, Option.map_some]) ?_ a.length N 0 (x, a) (by omega) (by omega) ⟨by simp, rfl⟩
  · rw [Option.map_eq_some_iff] at this
    obtain ⟨⟨y, r⟩, h3, h4⟩ := this
    exact ⟨r, by rw [← h4]; exact h3⟩
  · intro k i p hi ⟨g1, g2⟩ ih
    have s0 : ∀ k v (m : List Itm), m.length = a.length → 0 ≤ v → v ≤ 4611686018427387903 → ∃ m' : List Itm, laws_markTaleItemS.l0 N (k + 1) v i m = laws_markTaleItemS.l1 N k v i m' ∧ m'.length = a.length :=
      fun k v m h _ _ => ⟨_, by simp (disch := omega) only [laws_markTaleItemS.l0, ct, bnd, w64, h]; rfl, by simp only [List.length_set]; exact h⟩
    have s1 : ∀ k v (m : List Itm), m.length = a.length → 0 ≤ v → v ≤ 4611686018427387903 → ∃ m' : List Itm, laws_markTaleItemS.l1 N (k + 1) v i m = laws_markTaleItemS.l2 N k (v + 1) i m' ∧ m'.length = a.length :=
      fun k v m h _ _ => ⟨_, by simp (disch := omega) only [laws_markTaleItemS.l1, bnd, w64, h]; rfl, by simp only [List.length_set]; exact h⟩
    have s2 : ∀ k v (m : List Itm), m.length = a.length → 0 ≤ v → v ≤ 4611686018427387903 → ∃ m' : List Itm, laws_markTaleItemS.l2 N (k + 1) v i m = laws_markTaleItemS.l3 N k (v + 1) i m' ∧ m'.length = a.length :=
      fun k v m h _ _ => ⟨_, by simp (disch := omega) only [laws_markTaleItemS.l2, bnd, w64, h]; rfl, by simp only [List.length_set]; exact h⟩
    have s3 : ∀ k v (m : List Itm), m.length = a.length → 0 ≤ v → v ≤ 4611686018427387903 → ∃ m' : List Itm, laws_markTaleItemS.l3 N (k + 1) v i m = laws_markTaleItemS.l4 N k (v + 1) i m' ∧ m'.length = a.length :=
      fun k v m h _ _ => ⟨_, by simp (disch := omega) only [laws_markTaleItemS.l3, bnd, w64, h]; rfl, by simp only [List.length_set]; exact h⟩
    have s4 : ∀ k v (m : List Itm), m.length = a.length → 0 ≤ v → v ≤ 4611686018427387903 → ∃ m' : List Itm, laws_markTaleItemS.l4 N (k + 1) v i m = laws_markTaleItemS.l5 N k (v + 1) i m' ∧ m'.length = a.length :=
      fun k v m h _ _ => ⟨_, by simp (disch := omega) only [laws_markTaleItemS.l4, bnd, w64, h]; rfl, by simp only [List.length_set]; exact h⟩
    have s5 : ∀ k v (m : List Itm), m.length = a.length → 0 ≤ v → v ≤ 4611686018427387903 → ∃ m' : List Itm, laws_markTaleItemS.l5 N (k + 1) v i m = laws_markTaleItemS.l6 N k (v + 1) i m' ∧ m'.length = a.length :=
      fun k v m h _ _ => ⟨_, by simp (disch := omega) only [laws_markTaleItemS.l5, bnd, w64, h]; rfl, by simp only [List.length_set]; exact h⟩
    have s6 : ∀ k v (m : List Itm), m.length = a.length → 0 ≤ v → v ≤ 4611686018427387903 → ∃ m' : List Itm, laws_markTaleItemS.l6 N (k + 1) v i m = laws_markTaleItemS.l7 N k (v + 1) i m' ∧ m'.length = a.length :=
      fun k v m h _ _ => ⟨_, by simp (disch := omega) only [laws_markTaleItemS.l6, bnd, w64, h]; rfl, by simp only [List.length_set]; exact h⟩
    have s7 : ∀ k v (m : List Itm), m.length = a.length → 0 ≤ v → v ≤ 4611686018427387903 → ∃ m' : List Itm, laws_markTaleItemS.l7 N (k + 1) v i m = laws_markTaleItemS.l8 N k (v + 1) i m' ∧ m'.length = a.length :=
      fun k v m h _ _ => ⟨_, by simp (disch := omega) only [laws_markTaleItemS.l7, bnd, w64, h]; rfl, by simp only [List.length_set]; exact h⟩
    have s8 : ∀ k v (m : List Itm), m.length = a.length → 0 ≤ v → v ≤ 4611686018427387903 → ∃ m' : List Itm, laws_markTaleItemS.l8 N (k + 1) v i m = laws_markTaleItemS.l9 N k (v + 1) i m' ∧ m'.length = a.length :=
      fun k v m h _ _ => ⟨m, by simp (disch := omega) only [laws_markTaleItemS.l8, w64, h], by exact h⟩
    have s9 : ∀ k v (m : List Itm), m.length = a.length → 0 ≤ v → v ≤ 4611686018427387903 → ∃ m' : List Itm, laws_markTaleItemS.l9 N (k + 1) v i m = laws_markTaleItemS.l0 N k v ((i : Int) + 1) m' ∧ m'.length = a.length :=
      fun k v m h _ _ => ⟨m, by simp (disch := omega) only [laws_markTaleItemS.l9, w64, h], by exact h⟩
    obtain ⟨m0, q0, e0⟩ := s0 (k + 9) (p.1) p.2 g2 (by omega) (by omega)
    obtain ⟨m1, q1, e1⟩ := s1 (k + 8) (p.1) m0 e0 (by omega) (by omega)
    obtain ⟨m2, q2, e2⟩ := s2 (k + 7) (p.1 + 1) m1 e1 (by omega) (by omega)
    obtain ⟨m3, q3, e3⟩ := s3 (k + 6) (p.1 + 1 + 1) m2 e2 (by omega) (by omega)
    obtain ⟨m4, q4, e4⟩ := s4 (k + 5) (p.1 + 1 + 1 + 1) m3 e3 (by omega) (by omega)
    obtain ⟨m5, q5, e5⟩ := s5 (k + 4) (p.1 + 1 + 1 + 1 + 1) m4 e4 (by omega) (by omega)
    obtain ⟨m6, q6, e6⟩ := s6 (k + 3) (p.1 + 1 + 1 + 1 + 1 + 1) m5 e5 (by omega) (by omega)
    obtain ⟨m7, q7, e7⟩ := s7 (k + 2) (p.1 + 1 + 1 + 1 + 1 + 1 + 1) m6 e6 (by omega) (by omega)
    obtain ⟨m8, q8, e8⟩ := s8 (k + 1) (p.1 + 1 + 1 + 1 + 1 + 1 + 1 + 1) m7 e7 (by omega) (by omega)
    obtain ⟨m9, q9, e9⟩ := s9 (k + 0) (p.1 + 1 + 1 + 1 + 1 + 1 + 1 + 1 + 1) m8 e8 (by omega) (by omega)
    have := ih (p.1 + 1 + 1 + 1 + 1 + 1 + 1 + 1 + 1, m9) ⟨by dsimp only; omega, e9⟩
    dsimp only at this ⊢
    rw [q0, q1, q2, q3, q4, q5, q6, q7, q8, q9]; exact this
def byGuest (l : List Itm) (n : Nat) : List Int := (List.range n).map fun (g : Nat) => ((taleOf l (g : Int)).length : Int)
theorem byGuest_len (l : List Itm) (n : Nat) : (byGuest l n).length = n := by simp [byGuest]
theorem byGuest_succ (l : List Itm) (n : Nat) : byGuest l (n + 1) = byGuest l n ++ [((taleOf l n).length : Int)] := by simp [byGuest, List.range_succ]
theorem spec_StatGuests_eq (N : Nat) (hN : Fuel N) (l : List Itm) (hl : Short l) (g : Int) : spec_StatGuests N l g = some ((), byGuest l (low g 100).toNat) := by
  have h1 := low_ge g 100 (by omega)
  have h2 := low_le g 100 (by omega)
  have h3 : low g 100 = if g < 0 then 0 else if g > 100 then 100 else g := rfl
  have := loop_idx (low g 100).toNat (fun k i a => spec_StatGuests.l0 N k l g i a) (fun _ _ => some ((), byGuest l (low g 100).toNat)) (fun i a => a = byGuest l i)
    (fun k a h => by
      subst h
      by_cases c : ((low g 100).toNat : Int) < g
      · have c2 : ¬ (((low g 100).toNat : Int) < 100) := by omega
        simp only [spec_StatGuests.l0, ct c, cf c2]
      · simp only [spec_StatGuests.l0, cf c])
    (fun k i a hi h ih => by
      subst h
      have := ih _ (byGuest_succ l i).symm
      have hb := byGuest_len l i
      have c1 : (i : Int) < g := by omega
      have c2 : (i : Int) < 100 := by omega
      simp only [spec_StatGuests.l0, ct c1, ct c2, spec_TaleOf_eq N hN l i hl, Option.bind_some]
      simp (disch := first | omega | (simp only [List.length_cons, List.length_nil]; omega)) only [ct, w64, this])
    (low g 100).toNat N 0 [] (by omega) (by omega) rfl
  exact this
theorem impl_StatGuests_eq (N : Nat) (hN : Fuel N) (l : List Itm) (hl : Short l) (g : Int) : impl_StatGuests N l g = some ((), byGuest l (low g 100).toNat) := by
  have h1 := low_ge g 100 (by omega)
  have h2 := low_le g 100 (by omega)
  have := loop_idx (low g 100).toNat (fun k i a => impl_StatGuests.l0 N k l (low g 100) i a) (fun _ _ => some ((), byGuest l (low g 100).toNat)) (fun i a => a = byGuest l i)
    (fun k a h => by
      subst h
      simp (disch := omega) only [impl_StatGuests.l0, cf])
    (fun k i a hi h ih => by
      subst h
      have := ih _ (byGuest_succ l i).symm
      have hb := byGuest_len l i
      have c1 : (i : Int) < low g 100 := by omega
      simp only [impl_StatGuests.l0, ct c1, impl_TaleOf_eq N hN l i hl, Option.bind_some]
      simp (disch := first | omega | (simp only [List.length_cons, List.length_nil]; omega)) only [ct, w64, this])
    (low g 100).toNat N 0 [] (by omega) (by omega) rfl
  simp (disch := omega) only [impl_StatGuests, impl_clamp_eq, Option.bind_some]
  exact this
theorem plainStatGuests (N : Nat) (hN : Fuel N) (a : List Itm) (ha : (a.length : Int) ≤ 9223372036854775807) (g : Int) : laws_FnExactStatGuests N a g = some (true, ()) := by
  unfold laws_FnExactStatGuests
  rw [szTaleItemS_eq N a _ (by omega) (by omega) ha]
  simp only [Option.bind_some, rest]
  by_cases h : (1048576 : Int) - a.length < 0
  · rw [if_pos h]; rfl
  have hs : Short a := by unfold Short; omega
  rw [if_neg h, cf h]
  have h1 := low_ge g 100 (by omega)
  have h2 := low_le g 100 (by omega)
  have hc := byGuest_len a (low g 100).toNat
  have hs2 : Short (byGuest a (low g 100).toNat) := by unfold Short; omega
  obtain ⟨r, hm⟩ := markTaleItemS_eq N hN a 1 hs (by omega) (by omega)
  simp only [toTaleItemS_eq N hN a hs, Option.bind_some, spec_StatGuests_eq N hN _ hs, impl_StatGuests_eq N hN _ hs, eqIntS_eq N hN _ hs2, Bool.not_true, cond_false, eqTaleItemS_eq N hN a hs, hm,
    markIntS_eq N hN _ 1 hs2 (by omega) (by omega), heldIntS_eq N hN _ 1 (show (byGuest a (low g 100).toNat).length ≤ 4194304 by omega) (by omega) (by omega), bne_self_eq_false]
  simp (disch := omega) only [cf]
abbrev tyItm : Ty := .agg (.pair .bool (.pair (.int .i64) (.pair (.agg (.pair (.int .i64) (.pair (.int .i64) (.pair (.int .i64) (.int .i64))))) (.pair (.int .i64) (.int .i64)))))
theorem lawFnExactStatGuests (y0 : List Itm) (y1 : Int) (w0 : Wf (.sl .frz tyItm) y0) (w1 : Wf (.int .i64) y1) : laws_FnExactStatGuests N0 y0 y1 = some (true, ()) :=
  plainStatGuests N0 hN0 y0 (wf_len w0) y1
end Go.Proofs.Ytpanngbbofkeoab.Pv
