/- The plain side of FnExactWorldBook, part 1: what the functions compute, over numbers and lists. -/
import Derived.Test.YtdkinmgpclbedaaGreatWbFa
import Derived.Test.YtdkinmgpclbedaaGreatPvRow
import Derived.Lib.ItoaNum
import Derived.Laws.Strings
namespace Go.Proofs.YtdkinmgpclbedaaGreat.Pv
open Go Go.Pv Go.Proofs
set_option linter.unusedVariables false
set_option linter.unusedSimpArgs false
theorem w64 {n : Int} (h : -9223372036854775808 ≤ n) (h2 : n ≤ 9223372036854775807) : IntKind.i64.wrap n = n := by rw [IntKind.wrap_i64]; omega
theorem u64w {n : Int} (h : 0 ≤ n) (h2 : n < 18446744073709551616) : IntKind.u64.wrap n = n := by
  unfold IntKind.wrap
  simp [IntKind.bits, IntKind.signed]
  omega
theorem tm {a b : Int} (h : 0 ≤ a) : Int.tmod a b = a % b := Int.tmod_eq_emod_of_nonneg h
theorem td {a b : Int} (h : 0 ≤ a) : Int.tdiv a b = a / b := Int.tdiv_eq_ediv_of_nonneg h
theorem dt {p : Prop} [Decidable p] (h : p) : decide p = true := decide_eq_true h
theorem df {p : Prop} [Decidable p] (h : ¬ p) : decide p = false := decide_eq_false h
theorem ct {α : Type _} {p : Prop} [Decidable p] {a b : α} (h : p) : cond (decide p) a b = a := by rw [decide_eq_true h]; rfl
theorem cf {α : Type _} {p : Prop} [Decidable p] {a b : α} (h : ¬ p) : cond (decide p) a b = b := by rw [decide_eq_false h]; rfl
theorem cnd {α : Type _} {p : Prop} [Decidable p] {a b : α} : cond (decide p) a b = if p then a else b := by by_cases h : p <;> simp [h]
/-- The test that a place lies in a row. -/
theorem bnd {α : Type _} {i : Int} {n : Nat} {a b : α} (h : 0 ≤ i) (h2 : i < (n : Int)) : cond (cond (decide (0 ≤ i)) (decide (i < (n : Int))) false) a b = a := by rw [dt h, dt h2]; rfl
theorem getD_lt {α : Type _} {l : List α} {i : Nat} {d : α} (h : i < l.length) : l.getD i d = l[i] := by simp [h]
theorem drop_at {α : Type _} {l : List α} {i : Nat} (d : α) (h : i < l.length) : l.drop i = l.getD i d :: l.drop (i + 1) := by
  rw [List.drop_eq_getElem_cons h, getD_lt h]
theorem drop_end {α : Type _} {l : List α} {i : Nat} (h : l.length ≤ i) : l.drop i = [] := List.drop_eq_nil_of_le h
theorem wi {i : Nat} (h : i < 4611686018427387904) : IntKind.i64.wrap ((i : Int) + 1) = ((i + 1 : Nat) : Int) := by rw [w64 (by omega) (by omega)]; omega
theorem fuel {n k : Nat} (h : n < k) : ∃ j, k = j + 1 := ⟨k - 1, by omega⟩
/-- A loop over the places below a length, with a state. -/
theorem loop_idx {A : Type _} {R : Type _} (len : Nat) (L : Nat → Int → A → R) (F : Nat → A → R) (I : Nat → A → Prop)
    (hend : ∀ k a, I len a → L (k + 1) (len : Int) a = F len a)
    (hstep : ∀ k i a, i < len → I i a → (∀ a', I (i + 1) a' → L k ((i : Int) + 1) a' = F (i + 1) a') → L (k + 1) (i : Int) a = F i a) :
    ∀ n k i a, i + n = len → n < k → I i a → L k (i : Int) a = F i a := by
  intro n
  induction n with
  | zero =>
    intro k i a h1 h2 h3
    obtain ⟨k, rfl⟩ := fuel h2
    obtain rfl : i = len := by omega
    exact hend k a h3
  | succ n ih =>
    intro k i a h1 h2 h3
    obtain ⟨k, rfl⟩ := fuel h2
    exact hstep k i a (by omega) h3 (fun a' h => by have := ih k (i + 1) a' (by omega) (by omega) h; rwa [Int.natCast_add] at this)
/-- A loop over a list by its places, with a state; what it gives, told by recursion over the list. -/
theorem loop_list {X : Type _} {A : Type _} {R : Type _} (d : X) (l : List X) (L : Nat → Int → A → R) (F : List X → A → R) (I : Nat → A → Prop)
    (hend : ∀ k a, I l.length a → L (k + 1) (l.length : Int) a = F [] a)
    (hstep : ∀ k i a x r, i < l.length → l.getD i d = x → I i a → (∀ a', I (i + 1) a' → L k ((i : Int) + 1) a' = F r a') → L (k + 1) (i : Int) a = F (x :: r) a)
    (K : Nat) (hK : l.length < K) (a : A) (ha : I 0 a) : L K 0 a = F l a := by
  have := loop_idx l.length L (fun i a => F (l.drop i) a) I
    (fun k a h => by rw [hend k a h, List.drop_eq_nil_of_le (Nat.le_refl _)])
    (fun k i a h1 h2 h3 => by
      rw [drop_at d h1]
      exact hstep k i a _ _ h1 rfl h2 h3) l.length K 0 a (by omega) hK ha
  simpa using this
/-- Lists that are short enough for every count. -/
def Short {α : Type _} (l : List α) : Prop := l.length ≤ 4194304
abbrev Fuel (N : Nat) : Prop := 1099511627776 < N
/-- The fuel with which the laws are told. -/
def N0 : Nat := 1099511627777
theorem hN0 : Fuel N0 := by unfold Fuel N0; omega
theorem wf_u64 {x : Int} (h : (Lit.int .u64 x).wf = true) : 0 ≤ x ∧ x < 18446744073709551616 := by
  simp [Lit.wf, IntKind.min, IntKind.max, IntKind.signed, IntKind.bits] at h
  omega
theorem wf_len {e : Ty} {l : List e.D} (h : Wf (.sl .frz e) l) : (l.length : Int) ≤ 9223372036854775807 := by
  have := h.1
  unfold maxLen at this
  omega
/-- What a loop that copies has behind it. -/
theorem copy_step {α : Type _} {l m : List α} {i : Nat} {d : α} (hi : i < l.length) (hm : m.length = l.length) (h : m.take i = l.take i) : (m.set i (l.getD i d)).take (i + 1) = l.take (i + 1) := by
  rw [getD_lt hi]
  apply List.ext_getElem?
  intro j
  simp only [List.getElem?_take, List.getElem?_set]
  by_cases hj : j < i + 1
  · simp only [if_pos hj]
    by_cases e : i = j
    · subst e; simp [hm, hi]
    · simp only [if_neg e]
      have := congrArg (fun l => l[j]?) h
      simp only [List.getElem?_take, show j < i by omega, if_true] at this
      exact this
  · simp only [if_neg hj]
theorem copy_end {α : Type _} {l m : List α} (hm : m.length = l.length) (h : m.take l.length = l.take l.length) : m = l := by
  rwa [List.take_of_length_le (by omega), List.take_of_length_le (by omega)] at h
theorem toUint64S_eq (N : Nat) (hN : Fuel N) (a : List Int) (ha : Short a) : laws_toUint64S N a = some ((), a) := by
  unfold Short at ha
  have := loop_idx a.length (fun k i m => laws_toUint64S.l0 N k a i m) (fun _ _ => some ((), a)) (fun i m => m.length = a.length ∧ m.take i = a.take i)
    (fun k m ⟨h1, h2⟩ => by simp (disch := omega) only [laws_toUint64S.l0, cf, copy_end h1 h2])
    (fun k i m hi ⟨h1, h2⟩ ih => by
      have := ih (m.set i (a.getD i 0)) ⟨by simp [h1], copy_step hi h1 h2⟩
      simp (disch := omega) only [laws_toUint64S.l0, ct, bnd, w64, Int.toNat_natCast, this])
    a.length N 0 (List.replicate a.length 0) (by omega) (by omega) ⟨by simp, by simp⟩
  simp (disch := omega) only [laws_toUint64S, ct, Int.toNat_natCast]
  exact this
theorem eqIntS_eq (N : Nat) (hN : Fuel N) (a : List Int) (ha : Short a) : laws_eqIntS N a a = some (true, ()) := by
  unfold Short at ha
  have := loop_idx a.length (fun k i (_ : Unit) => laws_eqIntS.l0 N k a a i) (fun _ _ => some (true, ())) (fun i m => True)
    (fun k m _ => by simp (disch := omega) only [laws_eqIntS.l0, cf])
    (fun k i m hi _ ih => by simp (disch := omega) only [laws_eqIntS.l0, ct, bnd, w64, Int.toNat_natCast, bne_self_eq_false, cond_false, ih () trivial])
    a.length N 0 () (by omega) (by omega) trivial
  simp only [laws_eqIntS, bne_self_eq_false, cond_false]
  exact this
theorem eqUint64S_eq (N : Nat) (hN : Fuel N) (a : List Int) (ha : Short a) : laws_eqUint64S N a a = some (true, ()) := by
  unfold Short at ha
  have := loop_idx a.length (fun k i (_ : Unit) => laws_eqUint64S.l0 N k a a i) (fun _ _ => some (true, ())) (fun i m => True)
    (fun k m _ => by simp (disch := omega) only [laws_eqUint64S.l0, cf])
    (fun k i m hi _ ih => by simp (disch := omega) only [laws_eqUint64S.l0, ct, bnd, w64, Int.toNat_natCast, bne_self_eq_false, cond_false, ih () trivial])
    a.length N 0 () (by omega) (by omega) trivial
  simp only [laws_eqUint64S, bne_self_eq_false, cond_false]
  exact this
/-- Numbers that count up. -/
def marks (x : Int) : Nat → List Int
  | 0 => []
  | n + 1 => x :: marks (x + 1) n
theorem marks_length (x : Int) : ∀ n, (marks x n).length = n := by
  intro n
  induction n generalizing x with
  | zero => rfl
  | succ n ih => simp [marks, ih]
theorem marks_getD (x : Int) : ∀ n i, i < n → (marks x n).getD i 0 = x + i := by
  intro n
  induction n generalizing x with
  | zero => intro i h; omega
  | succ n ih =>
    intro i h
    cases i with
    | zero => simp [marks]
    | succ i =>
      have := ih (x + 1) i (by omega)
      simp only [marks, List.getD_cons_succ, this]
      omega
theorem getElem?_marks (x : Int) {n i : Nat} (h : i < n) : (marks x n)[i]? = some (x + i) := by
  have := marks_getD x n i h
  have h2 : i < (marks x n).length := by rw [marks_length]; exact h
  rw [getD_lt h2] at this
  rw [List.getElem?_eq_getElem h2, this]
/-- What a loop that fills has behind it. -/
theorem fill_step {α : Type _} {l m : List α} {i : Nat} {v : α} (hi : i < l.length) (hm : m.length = l.length) (hv : l[i]? = some v) (h : m.take i = l.take i) : (m.set i v).take (i + 1) = l.take (i + 1) := by
  have : l.getD i v = v := by rw [List.getD_eq_getElem?_getD, hv]; rfl
  have := copy_step (d := v) hi hm h
  rwa [show l.getD i v = v by rw [List.getD_eq_getElem?_getD, hv]; rfl] at this
theorem markIntS_eq (N : Nat) (hN : Fuel N) (a : List Int) (x : Int) (ha : Short a) (h1 : 0 ≤ x) (h2 : x ≤ 1073741824) : laws_markIntS N x a = some (x + a.length, marks x a.length) := by
  unfold Short at ha
  have hl := marks_length x a.length
  have := loop_idx a.length (fun k i (p : Int × List Int) => laws_markIntS.l0 N k p.1 i p.2) (fun _ _ => some (x + a.length, marks x a.length))
    (fun i p => p.1 = x + i ∧ p.2.length = a.length ∧ p.2.take i = (marks x a.length).take i)
    (fun k p ⟨g1, g2, g3⟩ => by
      have : p.2 = marks x a.length := copy_end (by omega) (by rw [hl]; exact g3)
      simp (disch := omega) only [laws_markIntS.l0, cf, g1, this])
    (fun k i p hi ⟨g1, g2, g3⟩ ih => by
      have := ih (p.1 + 1, p.2.set i p.1) ⟨by dsimp only; omega, by simp [g2], by dsimp only; exact fill_step (by omega) (by omega) (by rw [g1]; exact getElem?_marks x hi) g3⟩
      simp (disch := omega) only [laws_markIntS.l0, ct, bnd, w64, Int.toNat_natCast, this])
    a.length N 0 (x, a) (by omega) (by omega) ⟨by simp, rfl, by simp⟩
  exact this
theorem heldIntS_eq (N : Nat) (hN : Fuel N) (n : Nat) (x : Int) (ha : n ≤ 4194304) (h1 : 0 ≤ x) (h2 : x ≤ 1073741824) : laws_heldIntS N (marks x n) x = some (x + n, ()) := by
  have hl := marks_length x n
  have := loop_idx n (fun k i (p : Int) => laws_heldIntS.l0 N k (marks x n) p i) (fun _ _ => some (x + n, ())) (fun i p => p = x + i)
    (fun k p g1 => by simp (disch := omega) only [laws_heldIntS.l0, hl, cf, g1])
    (fun k i p hi g1 ih => by
      have := ih (p + 1) (by omega)
      simp (disch := omega) only [laws_heldIntS.l0, hl, ct, bnd, w64, Int.toNat_natCast, marks_getD, g1.symm, bne_self_eq_false, cond_false, this])
    n N 0 x (by omega) (by omega) (by simp)
  exact this
abbrev Cfg := Int × Int × Int
def W64 (x : Int) : Prop := 0 ≤ x ∧ x < 18446744073709551616
theorem impl_within_eq (N : Nat) (x lo hi : Int) : impl_within N x lo hi = some (decide (lo ≤ x ∧ x ≤ hi), ()) := by
  unfold impl_within
  by_cases h : lo ≤ x
  · by_cases h2 : x ≤ hi <;> simp [h, h2]
  · simp [h]
theorem spec_CellVal_eq (N : Nat) {x : Int} (h : W64 x) : spec_CellVal N x = some (x % 4294967296, ()) := by
  obtain ⟨h1, h2⟩ := h
  simp (disch := omega) only [spec_CellVal, tm, w64]
theorem spec_CellStamp_eq (N : Nat) {x : Int} (h : W64 x) : spec_CellStamp N x = some (x / 4294967296, ()) := by
  obtain ⟨h1, h2⟩ := h
  simp (disch := omega) only [spec_CellStamp, td, u64w, w64]
theorem impl_CellStamp_eq (N : Nat) {x : Int} (h : W64 x) : impl_CellStamp N x = some (x / 4294967296, ()) := by
  obtain ⟨h1, h2⟩ := h
  have e : Int.fdiv x (2 ^ 32) = x / 4294967296 := by rw [Int.fdiv_eq_ediv_of_nonneg _ (by decide)]; rfl
  simp (disch := omega) only [impl_CellStamp, e, w64]
theorem impl_CellVal_eq (N : Nat) {x : Int} (h : W64 x) : impl_CellVal N x = some (x % 4294967296, ()) := by
  unfold impl_CellVal
  obtain ⟨h1, h2⟩ := h
  obtain ⟨n, rfl⟩ := Int.eq_ofNat_of_zero_le h1
  have e : (BitVec.ofInt 64 (n : Int) &&& BitVec.ofInt 64 4294967295).toNat = n % 4294967296 := by
    rw [BitVec.toNat_and, BitVec.toNat_ofInt, BitVec.toNat_ofInt]
    have e1 : ((n : Int) % ((2 ^ 64 : Nat) : Int)).toNat = n := by omega
    have e2 : ((4294967295 : Int) % ((2 ^ 64 : Nat) : Int)).toNat = 2 ^ 32 - 1 := by decide
    rw [e1, e2, Nat.and_two_pow_sub_one_eq_mod]
  rw [e, u64w (by omega) (by omega), w64 (by omega) (by omega)]
  congr 2
theorem spec_CellRegOf_eq (N : Nat) {x : Int} (h : W64 x) : spec_CellRegOf N x = some ((x % 4294967296 % 4, x % 4294967296 / 4), ()) := by
  have h' := h
  obtain ⟨h1, h2⟩ := h'
  simp (disch := omega) only [spec_CellRegOf, spec_CellVal_eq N h, Option.bind_some, tm, td, w64]
/-- A number brought into 0 to m. -/
def low (n m : Int) : Int := if n < 0 then 0 else if n > m then m else n
theorem low_id {n m : Int} (h : 0 ≤ n) (h2 : n ≤ m) : low n m = n := by unfold low; rw [if_neg (by omega), if_neg (by omega)]
theorem low_ge (n m : Int) (h : 0 ≤ m) : 0 ≤ low n m := by unfold low; split <;> (try split) <;> omega
theorem low_le (n m : Int) (h : 0 ≤ m) : low n m ≤ m := by unfold low; split <;> (try split) <;> omega
theorem spec_l1Low_eq (N : Nat) (n m : Int) : spec_l1Low N n m = some (low n m, ()) := by
  unfold spec_l1Low low
  by_cases h : n < 0
  · simp [h]
  · by_cases h2 : n > m <;> simp [h, h2]
theorem impl_clamp_eq (N : Nat) (n m : Int) (h : 0 ≤ m) : impl_clamp N n m = some (low n m, ()) := by
  unfold impl_clamp low
  congr 2
  repeat' split
  all_goals omega
theorem spec_CellPack_eq (N : Nat) (v s : Int) : spec_CellPack N v s = some (low s 4294967295 * 4294967296 + low v 4294967295, ()) := by
  have := low_ge v 4294967295 (by omega)
  have := low_le v 4294967295 (by omega)
  have := low_ge s 4294967295 (by omega)
  have := low_le s 4294967295 (by omega)
  simp (disch := omega) only [spec_CellPack, spec_l1Low_eq, Option.bind_some, u64w]
def Plat (a : Cfg) : Prop := 1 ≤ a.1 ∧ a.1 ≤ 4 ∧ 1 ≤ a.2.1 ∧ a.2.1 ≤ 6 ∧ 1 ≤ a.2.2 ∧ a.2.2 ≤ 20
instance (a : Cfg) : Decidable (Plat a) := inferInstanceAs (Decidable (_ ∧ _))
theorem spec_PlatOk_eq (N : Nat) (a : Cfg) : spec_PlatOk N a = some (decide (Plat a), ()) := by
  simp only [spec_PlatOk, cnd, Plat, ge_iff_le]
  repeat' split
  all_goals (congr 2; first | exact decide_eq_decide.2 (by omega) | exact (df (by omega)).symm | exact (dt (by omega)).symm)
theorem impl_PlatOk_eq (N : Nat) (a : Cfg) : impl_PlatOk N a = some (decide (Plat a), ()) := by
  simp only [impl_PlatOk, impl_within_eq, Option.bind_some, cnd, Plat]
  repeat' split
  all_goals (congr 2; first | exact decide_eq_decide.2 (by omega) | exact (df (by omega)).symm | exact (dt (by omega)).symm)
def house (a : Cfg) : Int := 7 + 2 * a.1 + 17 * a.2.1
def size (a : Cfg) : Int := 7 + 23 * a.1 + 17 * a.2.1
theorem spec_l2House_eq (N : Nat) {a : Cfg} (h : Plat a) : spec_l2House N a = some (house a, ()) := by
  unfold Plat at h
  simp (disch := omega) only [spec_l2House, w64, house]
  congr 2; omega
theorem spec_l2Size_eq (N : Nat) {a : Cfg} (h : Plat a) : spec_l2Size N a = some (size a, ()) := by
  have h' := h
  unfold Plat at h'
  simp only [spec_l2Size, spec_l2House_eq N h, Option.bind_some]
  unfold house size
  simp (disch := omega) only [w64]
  congr 2; omega
theorem impl_regAt_eq (N : Nat) (a : Cfg) : impl_PlatCfg_regAt N a = some (3, ()) := rfl
theorem impl_beatAt_eq (N : Nat) {a : Cfg} (h : Plat a) : impl_PlatCfg_beatAt N a = some (3 + a.1, ()) := by
  unfold Plat at h
  simp (disch := omega) only [impl_PlatCfg_beatAt, impl_regAt_eq, Option.bind_some, w64]
theorem impl_headAt_eq (N : Nat) {a : Cfg} (h : Plat a) : impl_PlatCfg_headAt N a = some (3 + 2 * a.1, ()) := by
  have h' := h
  unfold Plat at h'
  simp (disch := omega) only [impl_PlatCfg_headAt, impl_beatAt_eq N h, Option.bind_some, w64]
  congr 2; omega
theorem impl_pageAt_eq (N : Nat) {a : Cfg} (h : Plat a) : impl_PlatCfg_pageAt N a = some (7 + 2 * a.1, ()) := by
  have h' := h
  unfold Plat at h'
  simp (disch := omega) only [impl_PlatCfg_pageAt, impl_headAt_eq N h, Option.bind_some, w64]
  congr 2; omega
theorem impl_tagAt_eq (N : Nat) {a : Cfg} (h : Plat a) : impl_PlatCfg_tagAt N a = some (7 + 2 * a.1 + a.2.1, ()) := by
  have h' := h
  unfold Plat at h'
  simp (disch := omega) only [impl_PlatCfg_tagAt, impl_pageAt_eq N h, Option.bind_some, w64]
theorem impl_linkAt_eq (N : Nat) {a : Cfg} (h : Plat a) : impl_PlatCfg_linkAt N a = some (7 + 2 * a.1 + 9 * a.2.1, ()) := by
  have h' := h
  unfold Plat at h'
  simp (disch := omega) only [impl_PlatCfg_linkAt, impl_tagAt_eq N h, Option.bind_some, w64]
  congr 2; omega
theorem impl_deskAt_eq (N : Nat) {a : Cfg} (h : Plat a) : impl_PlatCfg_deskAt N a = some (house a, ()) := by
  have h' := h
  unfold Plat at h'
  simp (disch := omega) only [impl_PlatCfg_deskAt, impl_linkAt_eq N h, Option.bind_some, w64, house]
  congr 2; omega
theorem impl_size_eq (N : Nat) {a : Cfg} (h : Plat a) : impl_PlatCfg_size N a = some (size a, ()) := by
  have h' := h
  unfold Plat at h'
  simp only [impl_PlatCfg_size, impl_deskAt_eq N h, Option.bind_some]
  unfold house size
  simp (disch := omega) only [w64]
  congr 2; omega
theorem spec_l2At_eq (N : Nat) {a : Cfg} (h : Plat a) (fr n m st : Int) (h1 : 0 ≤ fr) (h2 : fr ≤ 1000) (h3 : m ≤ 1000) (h4 : 0 ≤ st) (h5 : st ≤ 100) :
    spec_l2At N a fr n m st = some (if 0 ≤ n ∧ n < m then fr + n * st else 0, ()) := by
  simp only [spec_l2At, spec_PlatOk_eq, dt h, Option.bind_some, Bool.not_true, cond_false, cnd]
  by_cases g1 : n < 0
  · rw [if_pos g1, if_neg (by omega)]
  · by_cases g2 : n ≥ m
    · rw [if_neg g1, if_pos g2, if_neg (by omega)]
    · rw [if_neg g1, if_neg g2, if_pos (by omega)]
      have g3 : 0 ≤ n * st := Int.mul_nonneg (by omega) h4
      have g4 : n * st ≤ 1000 * 100 := Int.mul_le_mul (by omega) h5 h4 (by omega)
      simp (disch := omega) only [w64]
/-- The plat that a word tells. -/
def cfg (x : Int) : Cfg := (x % 4294967296 % 8, x % 4294967296 / 8 % 8, x % 4294967296 / 64)
theorem cfg_text {x : Int} (h : W64 x) : (Int.tmod (x % 4294967296) 8, Int.tmod (IntKind.i64.wrap (Int.tdiv (x % 4294967296) 8)) 8, IntKind.i64.wrap (Int.tdiv (x % 4294967296) 64)) = cfg x := by
  obtain ⟨h1, h2⟩ := h
  simp (disch := omega) only [cfg, tm, td, w64]
/-- Is the list of words a whole memory? -/
def Whole (l : List Int) : Prop := 0 < l.length ∧ l.getD 0 0 / 4294967296 = 201115 ∧ Plat (cfg (l.getD 0 0)) ∧ (l.length : Int) = size (cfg (l.getD 0 0))
instance (l : List Int) : Decidable (Whole l) := inferInstanceAs (Decidable (_ ∧ _))
abbrev Words (l : List Int) : Prop := ∀ x ∈ l, W64 x
theorem Words.at {l : List Int} (h : Words l) (i : Nat) : W64 (l.getD i 0) := by
  rw [List.getD_eq_getElem?_getD]
  cases hi : l[i]? with
  | none => exact ⟨by decide, by decide⟩
  | some x => exact h x (List.mem_of_getElem? hi)
theorem spec_l2Magic_eq (N : Nat) {x : Int} (h : W64 x) (hp : Plat (cfg x)) : spec_l2Magic N (cfg x) = some (201115 * 4294967296 + x % 4294967296, ()) := by
  obtain ⟨h1, h2⟩ := h
  have e : x % 4294967296 % 8 + 8 * (x % 4294967296 / 8 % 8) + 64 * (x % 4294967296 / 64) = x % 4294967296 := by omega
  simp only [spec_l2Magic, cfg] at hp ⊢
  unfold Plat at hp
  simp only [] at hp
  simp (disch := omega) only [w64, e, spec_CellPack_eq, low_id, Option.bind_some]
theorem spec_PlatCheck_eq (N : Nat) {l : List Int} (hw : Words l) : spec_PlatCheck N l = some (if Whole l then (cfg (l.getD 0 0), true) else ((0, 0, 0), false), ()) := by
  have hx := hw.at 0
  have hx' := hx
  obtain ⟨x1, x2⟩ := hx'
  unfold spec_PlatCheck
  by_cases h1 : l.length = 0
  · have n0 : ((l.length : Int) == 0) = true := by rw [beq_iff_eq]; omega
    rw [if_neg (fun h => by have := h.1; omega)]
    simp only [n0, cond_true]
  have n0 : ((l.length : Int) == 0) = false := by rw [beq_eq_false_iff_ne]; omega
  simp (disch := omega) only [n0, cond_false, ct, spec_CellVal_eq N hx, Option.bind_some, cfg_text hx, spec_PlatOk_eq]
  by_cases h3 : Plat (cfg (l.getD 0 0))
  rotate_left
  · rw [if_neg (fun h => h3 h.2.2.1)]
    simp only [df h3, Bool.not_false, cond_true]
  simp only [dt h3, Bool.not_true, cond_false, spec_l2Magic_eq N hx h3, Option.bind_some, spec_l2Size_eq N h3]
  by_cases h2 : l.getD 0 0 / 4294967296 = 201115
  rotate_left
  · rw [if_neg (fun h => h2 h.2.1)]
    have e : l.getD 0 0 ≠ 201115 * 4294967296 + l.getD 0 0 % 4294967296 := by omega
    rw [bne_iff_ne.2 e, cond_true]
  have e : 201115 * 4294967296 + l.getD 0 0 % 4294967296 = l.getD 0 0 := by omega
  rw [e, bne_self_eq_false, cond_false]
  by_cases e4 : (l.length : Int) = size (cfg (l.getD 0 0))
  · rw [if_pos ⟨by omega, h2, h3, e4⟩, e4, bne_self_eq_false, cond_false]
  · rw [if_neg (fun h => e4 h.2.2.2), bne_iff_ne.2 e4, cond_true]
/-- What the first word tells, if it is one of a memory's. -/
def Head (l : List Int) : Prop := 0 < l.length ∧ l.getD 0 0 / 4294967296 = 201115 ∧ Plat (cfg (l.getD 0 0))
instance (l : List Int) : Decidable (Head l) := inferInstanceAs (Decidable (_ ∧ _))
theorem impl_cfgOf_yes (N : Nat) {l : List Int} (hw : Words l) (h : Head l) : impl_cfgOf N l = some ((cfg (l.getD 0 0), true), ()) := by
  have hx := hw.at 0
  obtain ⟨h1, h2, h3⟩ := h
  have n0 : ((l.length : Int) == 0) = false := by rw [beq_eq_false_iff_ne]; omega
  simp (disch := omega) only [impl_cfgOf, n0, cond_false, ct, impl_CellVal_eq N hx, impl_CellStamp_eq N hx, h2, bne_self_eq_false, Option.bind_some, cfg_text hx, impl_PlatOk_eq, dt h3]
theorem impl_cfgOf_no (N : Nat) {l : List Int} (hw : Words l) (h : ¬ Head l) : ∃ c, impl_cfgOf N l = some ((c, false), ()) := by
  have hx := hw.at 0
  unfold impl_cfgOf
  by_cases h1 : l.length = 0
  · have n0 : ((l.length : Int) == 0) = true := by rw [beq_iff_eq]; omega
    simp only [n0, cond_true]; exact ⟨_, rfl⟩
  have n0 : ((l.length : Int) == 0) = false := by rw [beq_eq_false_iff_ne]; omega
  simp (disch := omega) only [n0, cond_false, ct, impl_CellVal_eq N hx, impl_CellStamp_eq N hx, Option.bind_some, cfg_text hx, impl_PlatOk_eq]
  by_cases h2 : l.getD 0 0 / 4294967296 = 201115
  rotate_left
  · simp only [bne_iff_ne.2 h2, cond_true]; exact ⟨_, rfl⟩
  simp only [h2, bne_self_eq_false, cond_false]
  rw [df (fun h3 => h ⟨by omega, h2, h3⟩)]
  exact ⟨_, rfl⟩
theorem impl_PlatCheck_eq (N : Nat) {l : List Int} (hw : Words l) : impl_PlatCheck N l = some (if Whole l then (cfg (l.getD 0 0), true) else ((0, 0, 0), false), ()) := by
  unfold impl_PlatCheck
  by_cases h : Head l
  · simp only [impl_cfgOf_yes N hw h, Option.bind_some, Bool.not_true, cond_false, impl_size_eq N h.2.2]
    by_cases e4 : (l.length : Int) = size (cfg (l.getD 0 0))
    · rw [if_pos ⟨h.1, h.2.1, h.2.2, e4⟩, e4, bne_self_eq_false, cond_false]
    · rw [if_neg (fun h => e4 h.2.2.2), bne_iff_ne.2 e4, cond_true]
  · obtain ⟨c, hc⟩ := impl_cfgOf_no N hw h
    rw [if_neg (fun g => h ⟨g.1, g.2.1, g.2.2.1⟩)]
    simp only [hc, Option.bind_some, Bool.not_false, cond_true]
def wcfg (w : List Int) : Cfg := cfg (w.getD 0 0)
theorem spec_PlatBeat_eq (N : Nat) {a : Cfg} (h : Plat a) (n : Int) : spec_PlatBeat N a n = some (if 0 ≤ n ∧ n < a.1 then 3 + a.1 + n else 0, ()) := by
  have h' := h
  unfold Plat at h'
  rw [spec_PlatBeat, w64 (by omega) (by omega)]
  simp only [spec_l2At_eq N h (3 + a.1) n a.1 1 (by omega) (by omega) (by omega) (by omega) (by omega), Option.bind_some, Int.mul_one]
theorem impl_isSlot_eq (N : Nat) {a : Cfg} (h : Plat a) (s : Int) : impl_PlatCfg_isSlot N a s = some (decide (0 ≤ s ∧ s < a.1), ()) := by
  unfold Plat at h
  simp (disch := omega) only [impl_PlatCfg_isSlot, impl_within_eq, w64, Option.bind_some]
  congr 2
  exact decide_eq_decide.2 (by omega)
theorem wf_words {l : List Int} (h : Wf (.sl .frz (.int .u64)) l) : Words l := fun x hx => wf_u64 (h.2 x hx)
theorem toBookOp_eq (N : Nat) (a) : laws_toBookOp N a = some (a, ()) := rfl
theorem eqBookOp_eq (N : Nat) (a) : laws_eqBookOp N a a = some (true, ()) := by simp only [laws_eqBookOp, bne_self_eq_false, cond_false]
/-- A count against which lists are held: the rest, or -1. -/
def rest (left n : Int) : Int := if left - n < 0 then -1 else left - n
abbrev Gst := Bool × Int × Int × Bool × (Int × Int × Int × Int) × Int × Int × Int × Int × Int × Int × Int × Bool × Int × Int × Int × Int × Int × List Int × List Int × Int × Int × Int
abbrev gst0 : Gst := (false, 0, 0, false, (0, 0, 0, 0), 0, 0, 0, 0, 0, 0, 0, false, 0, 0, 0, 0, 0, [], [], 0, 0, 0)
abbrev Wld := List Int × List Gst
def gSnap (g : Gst) : List Int := g.2.2.2.2.2.2.2.2.2.2.2.2.2.2.2.2.2.2.1
def gPlan (g : Gst) : List Int := g.2.2.2.2.2.2.2.2.2.2.2.2.2.2.2.2.2.2.2.1
/-- How much a guest and a world hold. -/
def szG (g : Gst) : Int := (gSnap g).length + (gPlan g).length
def szGs : List Gst → Int
  | [] => 0
  | g :: r => szG g + szGs r
theorem szGs_ge : ∀ l : List Gst, 0 ≤ szGs l
  | [] => Int.le_refl _
  | g :: r => by have := szGs_ge r; simp only [szGs, szG]; omega
/-- Every list is as short as a list of Go can be. -/
def GLens (g : Gst) : Prop := ((gSnap g).length : Int) ≤ 9223372036854775807 ∧ ((gPlan g).length : Int) ≤ 9223372036854775807
def WLens (w : Wld) : Prop := (w.1.length : Int) ≤ 9223372036854775807 ∧ (w.2.length : Int) ≤ 9223372036854775807 ∧ ∀ g ∈ w.2, GLens g
def szW (w : Wld) : Int := w.1.length + (w.2.length + szGs w.2)
theorem szUint64S_eq (N : Nat) (a : List Int) (left : Int) (h : 0 ≤ left) (h2 : left ≤ 1048576) (h3 : (a.length : Int) ≤ 9223372036854775807) : laws_szUint64S N a left = some (rest left a.length, ()) := by
  simp (disch := omega) only [laws_szUint64S, w64, cnd, rest]
  split <;> rfl
theorem szGuest_eq (N : Nat) (g : Gst) (left : Int) (h : 0 ≤ left) (h2 : left ≤ 1048576) (h3 : GLens g) : laws_szGuest N g left = some (rest left (szG g), ()) := by
  have h4 := h3.1
  have h5 := h3.2
  unfold gSnap at h4
  unfold gPlan at h5
  unfold laws_szGuest szG gSnap gPlan
  rw [szUint64S_eq N _ left h h2 h4]
  simp only [Option.bind_some, rest]
  by_cases c : left - (g.2.2.2.2.2.2.2.2.2.2.2.2.2.2.2.2.2.2.1.length : Int) < 0
  · rw [if_pos c, if_pos (by omega)]; rfl
  · rw [if_neg c, cf c, szUint64S_eq N _ _ (by omega) (by omega) h5]
    simp only [Option.bind_some, rest]
    by_cases c2 : left - (g.2.2.2.2.2.2.2.2.2.2.2.2.2.2.2.2.2.2.1.length : Int) - (g.2.2.2.2.2.2.2.2.2.2.2.2.2.2.2.2.2.2.2.1.length : Int) < 0
    · rw [if_pos c2, if_pos (by omega)]; rfl
    · rw [if_neg c2, if_neg (by omega), cf c2]
      congr 2; omega
theorem szGuestS_eq (N : Nat) (hN : Fuel N) (l : List Gst) (left : Int) (h : 0 ≤ left) (h2 : left ≤ 1048576) (h3 : (l.length : Int) ≤ 9223372036854775807) (h4 : ∀ g ∈ l, GLens g) : laws_szGuestS N l left = some (rest left (l.length + szGs l), ()) := by
  have hs := szGs_ge l
  simp (disch := omega) only [laws_szGuestS, w64]
  by_cases c : left - (l.length : Int) < 0
  · rw [ct c, rest, if_pos (by omega)]
  rw [cf c]
  have := loop_list gst0 l (fun k i a => laws_szGuestS.l0 N k l a i) (fun r a => some (rest a (szGs r), ())) (fun i a => 0 ≤ a ∧ a ≤ 1048576)
    (fun k a ⟨h1, h2⟩ => by
      have e : rest a (szGs []) = a := by unfold rest szGs; split <;> omega
      simp (disch := omega) only [laws_szGuestS.l0, cf, e])
    (fun k i a x r hi hx ⟨ha, hb⟩ ih => by
      have hm : x ∈ l := by rw [← hx, getD_lt hi]; exact List.getElem_mem hi
      have hg := szGs_ge r
      simp (disch := omega) only [laws_szGuestS.l0, ct, bnd, Int.toNat_natCast, hx, w64, szGuest_eq N x a ha hb (h4 x hm), Option.bind_some, szGs]
      by_cases c : a - szG x < 0
      · rw [rest, if_pos c, rest, if_pos (by omega)]; rfl
      · have hz : 0 ≤ szG x := by unfold szG; omega
        rw [rest, if_neg c, cf c, ih _ ⟨by omega, by omega⟩, rest, rest]
        congr 2
        by_cases c2 : a - szG x - szGs r < 0
        · rw [if_pos c2, if_pos (by omega)]
        · rw [if_neg c2, if_neg (by omega)]; omega)
    N (by omega) (left - l.length) ⟨by omega, by omega⟩
  rw [this, rest, rest]
  congr 2
  by_cases c2 : left - (l.length : Int) - szGs l < 0
  · rw [if_pos c2, if_pos (by omega)]
  · rw [if_neg c2, if_neg (by omega)]; omega
theorem szWorld_eq (N : Nat) (hN : Fuel N) (w : Wld) (left : Int) (h : 0 ≤ left) (h2 : left ≤ 1048576) (h3 : WLens w) : laws_szWorld N w left = some (rest left (szW w), ()) := by
  obtain ⟨g1, g2, g3⟩ := h3
  have hs := szGs_ge w.2
  unfold laws_szWorld szW
  rw [szUint64S_eq N _ left h h2 g1]
  simp only [Option.bind_some, rest]
  by_cases c : left - (w.1.length : Int) < 0
  · rw [if_pos c, if_pos (by omega)]; rfl
  · rw [if_neg c, cf c, szGuestS_eq N hN _ _ (by omega) (by omega) g2 g3]
    simp only [Option.bind_some, rest]
    by_cases c2 : left - (w.1.length : Int) - (w.2.length + szGs w.2) < 0
    · rw [if_pos c2, if_pos (by omega)]; rfl
    · rw [if_neg c2, if_neg (by omega), cf c2]
      congr 2; omega
/-- All lists of a guest, of a world, are short. -/
def GShort (g : Gst) : Prop := Short (gSnap g) ∧ Short (gPlan g)
def WShort (w : Wld) : Prop := Short w.1 ∧ Short w.2 ∧ ∀ g ∈ w.2, GShort g
theorem szGs_mem : ∀ (l : List Gst) (g : Gst), g ∈ l → szG g ≤ szGs l
  | [], g, h => by simp at h
  | x :: r, g, h => by
    have := szGs_ge r
    rcases List.mem_cons.1 h with rfl | h
    · simp only [szGs]; omega
    · have := szGs_mem r g h
      have : 0 ≤ szG x := by unfold szG; omega
      simp only [szGs]; omega
theorem WShort.of {w : Wld} (h : szW w ≤ 1048576) : WShort w := by
  have h1 := szGs_ge w.2
  unfold szW at h
  refine ⟨by unfold Short; omega, by unfold Short; omega, fun g hg => ?_⟩
  have := szGs_mem w.2 g hg
  unfold szG at this
  exact ⟨by unfold Short; omega, by unfold Short; omega⟩
theorem toGuest_eq (N : Nat) (hN : Fuel N) (g : Gst) (h : GShort g) : laws_toGuest N g = some ((g.1, g.2.1, g.2.2.1, g.2.2.2.1, g.2.2.2.2.1, g.2.2.2.2.2.1, g.2.2.2.2.2.2.1, g.2.2.2.2.2.2.2.1, g.2.2.2.2.2.2.2.2.1, g.2.2.2.2.2.2.2.2.2.1, g.2.2.2.2.2.2.2.2.2.2.1, g.2.2.2.2.2.2.2.2.2.2.2.1, g.2.2.2.2.2.2.2.2.2.2.2.2.1, g.2.2.2.2.2.2.2.2.2.2.2.2.2.1, g.2.2.2.2.2.2.2.2.2.2.2.2.2.2.1, g.2.2.2.2.2.2.2.2.2.2.2.2.2.2.2.1, g.2.2.2.2.2.2.2.2.2.2.2.2.2.2.2.2.1, g.2.2.2.2.2.2.2.2.2.2.2.2.2.2.2.2.2.1, (), (), g.2.2.2.2.2.2.2.2.2.2.2.2.2.2.2.2.2.2.2.2), (gSnap g, gPlan g)) := by
  have h1 := h.1
  have h2 := h.2
  unfold gSnap at h1
  unfold gPlan at h2
  simp only [laws_toGuest, toBookOp_eq, Option.bind_some, toUint64S_eq N hN _ h1, toUint64S_eq N hN _ h2]
  rfl
theorem eqGuest_eq (N : Nat) (hN : Fuel N) (g : Gst) (h : GShort g) : laws_eqGuest N g g = some (true, ()) := by
  have h1 := h.1
  have h2 := h.2
  unfold gSnap at h1
  unfold gPlan at h2
  simp only [laws_eqGuest, eqBookOp_eq, bne_self_eq_false, cond_false, beq_self_eq_true, Bool.not_true, Option.bind_some, eqUint64S_eq N hN _ h1, eqUint64S_eq N hN _ h2]
theorem eqGuestS_eq (N : Nat) (hN : Fuel N) (a : List Gst) (ha : Short a) (hg : ∀ g ∈ a, GShort g) : laws_eqGuestS N a a = some (true, ()) := by
  unfold Short at ha
  have := loop_idx a.length (fun k i (_ : Unit) => laws_eqGuestS.l0 N k a a i) (fun _ _ => some (true, ())) (fun i m => True)
    (fun k m _ => by simp (disch := omega) only [laws_eqGuestS.l0, cf])
    (fun k i m hi _ ih => by
      have hm : GShort (a.getD i gst0) := hg _ (by rw [getD_lt hi]; exact List.getElem_mem hi)
      simp (disch := omega) only [laws_eqGuestS.l0, ct, bnd, w64, Int.toNat_natCast, eqGuest_eq N hN _ hm, Option.bind_some, Bool.not_true, cond_false, ih () trivial])
    a.length N 0 () (by omega) (by omega) trivial
  simp only [laws_eqGuestS, bne_self_eq_false, cond_false]
  exact this
theorem eqWorld_eq (N : Nat) (hN : Fuel N) (w : Wld) (h : WShort w) : laws_eqWorld N w w = some (true, ()) := by
  simp only [laws_eqWorld, eqUint64S_eq N hN _ h.1, eqGuestS_eq N hN _ h.2.1 h.2.2, Option.bind_some, Bool.not_true, cond_false]
abbrev tyOp : Ty := .agg (.pair (.int .i64) (.pair (.int .i64) (.pair (.int .i64) (.int .i64))))
abbrev tyGst : Ty := .agg (.pair .bool (.pair (.int .i64) (.pair (.int .i64) (.pair .bool (.pair tyOp (.pair (.int .i64) (.pair (.int .i64) (.pair (.int .i64) (.pair (.int .i64) (.pair (.int .i64) (.pair (.int .i64) (.pair (.int .i64) (.pair .bool (.pair (.int .i64) (.pair (.int .u64) (.pair (.int .u64) (.pair (.int .u64) (.pair (.int .u64) (.pair (.sl .frz (.int .u64)) (.pair (.sl .frz (.int .u64)) (.pair (.int .i64) (.pair (.int .i64) (.int .i64)))))))))))))))))))))))
abbrev tyWld : Ty := .agg (.pair (.sl .frz (.int .u64)) (.sl .frz tyGst))
theorem wf_glens {g : Gst} (h : Wf tyGst g) : GLens g := by
  obtain ⟨_, _, _, _, _, _, _, _, _, _, _, _, _, _, _, _, _, _, h1, h2, _⟩ := h
  exact ⟨wf_len h1, wf_len h2⟩
theorem wf_wlens {w : Wld} (h : Wf tyWld w) : WLens w := ⟨wf_len h.1, wf_len h.2, fun g hg => wf_glens (h.2.2 g hg)⟩
abbrev Bk := Int × List Int × (List Int × List Int × List Int × List Int) × List Int × List Int × List Int
def I64 (x : Int) : Prop := -9223372036854775808 ≤ x ∧ x ≤ 9223372036854775807
abbrev Ints (l : List Int) : Prop := ∀ x ∈ l, I64 x
theorem Ints.at {l : List Int} (h : Ints l) (i : Nat) : I64 (l.getD i 0) := by
  rw [List.getD_eq_getElem?_getD]
  cases hi : l[i]? with
  | none => exact ⟨by decide, by decide⟩
  | some x => exact h x (List.mem_of_getElem? hi)
def pg (b : Bk) (p : Nat) : Int := b.2.1.getD p 0
def ow (b : Bk) (u : Nat) : Int := b.2.2.2.1.getD u 0
def inn (b : Bk) (i : Nat) : Int := b.2.2.2.2.1.getD i 0
def ep (b : Bk) (i : Nat) : Int := b.2.2.2.2.2.getD i 0
def hd (b : Bk) : Nat → List Int
  | 0 => b.2.2.1.1
  | 1 => b.2.2.1.2.1
  | 2 => b.2.2.1.2.2.1
  | _ => b.2.2.1.2.2.2
theorem fold_pg (b : Bk) (i : Nat) : b.2.1.getD i 0 = pg b i := (rfl)
theorem fold_ow (b : Bk) (i : Nat) : b.2.2.2.1.getD i 0 = ow b i := (rfl)
theorem fold_in (b : Bk) (i : Nat) : b.2.2.2.2.1.getD i 0 = inn b i := (rfl)
theorem fold_ep (b : Bk) (i : Nat) : b.2.2.2.2.2.getD i 0 = ep b i := (rfl)
def np (b : Bk) : Nat := b.2.1.length
def nu (b : Bk) : Nat := b.2.2.2.1.length
/-- All numbers are numbers of Go. -/
def Bi (b : Bk) : Prop := I64 b.1 ∧ Ints b.2.1 ∧ (∀ k, Ints (hd b k)) ∧ Ints b.2.2.2.1 ∧ Ints b.2.2.2.2.1 ∧ Ints b.2.2.2.2.2
def Bshort (b : Bk) : Prop := Short b.2.1 ∧ (∀ k, Short (hd b k)) ∧ Short b.2.2.2.1 ∧ Short b.2.2.2.2.1 ∧ Short b.2.2.2.2.2
theorem cndb {α : Type _} {x y : Int} {a b : α} : cond (x == y) a b = if x = y then a else b := by
  by_cases h : x = y
  · rw [if_pos h, beq_iff_eq.2 h]; rfl
  · rw [if_neg h, beq_eq_false_iff_ne.2 h]; rfl
theorem cndn {α : Type _} {x y : Int} {a b : α} : cond (x != y) a b = if x = y then b else a := by
  by_cases h : x = y
  · rw [if_pos h, bne_eq_false_iff_eq.2 h]; rfl
  · rw [if_neg h, bne_iff_ne.2 h]; rfl
/-- Does it hold at m places from i on? -/
def allB (P : Nat → Bool) : Nat → Nat → Bool
  | 0, _ => true
  | m + 1, i => P i && allB P m (i + 1)
theorem allB_iff (P : Nat → Bool) : ∀ m i, allB P m i = true ↔ ∀ j, i ≤ j → j < i + m → P j = true
  | 0, i => by simp [allB]; intro j h1 h2; omega
  | m + 1, i => by
    rw [allB, Bool.and_eq_true, allB_iff P m (i + 1)]
    constructor
    · intro ⟨h1, h2⟩ j h3 h4
      by_cases e : j = i
      · rw [e]; exact h1
      · exact h2 j (by omega) (by omega)
    · intro h
      exact ⟨h i (Nat.le_refl _) (by omega), fun j h1 h2 => h j (by omega) (by omega)⟩
/-- A loop that ends at the first place where something does not hold. -/
theorem loop_all (n m : Nat) (L : Nat → Int → Option (Bool × Unit)) (P : Nat → Bool) (r : Bool) (hend : ∀ k, m < k → L k n = some (r, ()))
    (hstep : ∀ k i, i < n → L (k + 1) (i : Int) = cond (P i) (L k ((i : Int) + 1)) (some (false, ()))) :
    ∀ d i k, i + d = n → d + m < k → L k (i : Int) = some (allB P d i && r, ()) := by
  intro d
  induction d with
  | zero =>
    intro i k h1 h2
    obtain rfl : i = n := by omega
    rw [hend k (by omega)]; rfl
  | succ d ih =>
    intro i k h1 h2
    obtain ⟨k, rfl⟩ : ∃ j, k = j + 1 := ⟨k - 1, by omega⟩
    rw [hstep k i (by omega), allB]
    cases hp : P i
    · rfl
    · have := ih (i + 1) k (by omega) (by omega)
      rw [cond_true, Bool.true_and]
      rwa [Int.natCast_add] at this
/-- The same, with what follows at the end; a round takes c of the fuel. -/
theorem loop_allk (c : Nat) (hc : 0 < c) {R : Type _} (z : R) (n : Nat) (L : Nat → Int → R) (P : Nat → Bool) (E : Nat → R) (hend : ∀ k, L (k + 1) n = E k)
    (hstep : ∀ k i, i < n → L (k + c) (i : Int) = cond (P i) (L k ((i : Int) + 1)) z) :
    ∀ d i k, i + d = n → L (k + d * c + 1) (i : Int) = cond (allB P d i) (E k) z := by
  intro d
  induction d with
  | zero =>
    intro i k h1
    obtain rfl : i = n := by omega
    simp only [Nat.zero_mul, Nat.add_zero, allB, cond_true]
    exact hend k
  | succ d ih =>
    intro i k h1
    have := hstep (k + d * c + 1) i (by omega)
    rw [show k + (d + 1) * c + 1 = k + d * c + 1 + c by rw [Nat.succ_mul]; omega, this, allB]
    cases hp : P i
    · rfl
    · have := ih (i + 1) k (by omega)
      rw [cond_true, Bool.true_and]
      rwa [Int.natCast_add] at this
def slotB (b : Bk) (i : Nat) : Bool := decide (0 ≤ inn b i ∧ inn b i ≤ 2 ∧ 0 ≤ ep b i ∧ ep b i ≤ 4095 ∧ (ep b i = 0 → inn b i = 0))
def ownB (b : Bk) (u : Nat) : Bool := decide (0 ≤ ow b u ∧ ow b u ≤ b.1 ∧ (0 < ow b u → inn b (ow b u - 1).toNat ≠ 0))
def Sizes (b : Bk) : Prop := 1 ≤ b.1 ∧ b.1 ≤ 4 ∧ (b.2.2.2.2.1.length : Int) = b.1 ∧ (b.2.2.2.2.2.length : Int) = b.1 ∧ 1 ≤ np b ∧ np b ≤ 6 ∧ nu b = np b * 8
instance (b : Bk) : Decidable (Sizes b) := inferInstanceAs (Decidable (_ ∧ _))
def slotsB (b : Bk) : Bool := decide (Sizes b) && (allB (slotB b) b.1.toNat 0 && allB (ownB b) (nu b) 0)
theorem spec_l3Slots_eq (N : Nat) (hN : Fuel N) (b : Bk) : spec_l3Slots N b = some (slotsB b, ()) := by
  have hlt : (b.2.1.length : Int) * 8 < 9223372036854775807 ∨ 6 < (b.2.1.length : Int) := by omega
  by_cases hs : Sizes b
  rotate_left
  · rw [slotsB, df hs]
    unfold Sizes np nu at hs
    simp only [spec_l3Slots, cnd, cndn]
    repeat' split
    all_goals first | rfl | skip
    rw [w64 (by omega) (by omega)] at *
    exfalso
    omega
  have hs' := hs
  unfold Sizes np nu at hs'
  rw [slotsB, dt hs, Bool.true_and]
  have e1 : ((b.2.2.2.2.1.length : Int) != b.1) = false := bne_eq_false_iff_eq.2 (by omega)
  have e2 : ((b.2.2.2.2.2.length : Int) != b.1) = false := bne_eq_false_iff_eq.2 (by omega)
  have e3 : ((b.2.2.2.1.length : Int) != IntKind.i64.wrap ((b.2.1.length : Int) * 8)) = false := by rw [w64 (by omega) (by omega)]; exact bne_eq_false_iff_eq.2 (by omega)
  simp (disch := omega) only [spec_l3Slots, cf, e1, e2, e3, cond_false]
  have l1 := loop_all (nu b) 0 (fun k i => spec_l3Slots.l1 N k i b) (ownB b) true
    (fun k hk => by
      obtain ⟨k, rfl⟩ := fuel hk
      simp (disch := (unfold nu; omega)) only [spec_l3Slots.l1, cf])
    (fun k i hi => by
      have hi' : i < b.2.2.2.1.length := hi
      simp (disch := omega) only [spec_l3Slots.l1, ct, bnd, w64, Int.toNat_natCast, fold_ow]
      rw [ownB, cnd (p := _ ∧ _)]
      by_cases c : 0 ≤ ow b i ∧ ow b i ≤ b.1
      · simp (disch := omega) only [cf]
        by_cases c2 : ow b i > 0
        · simp (disch := omega) only [ct, w64, bnd, cndb, fold_in]
          by_cases c3 : inn b (ow b i - 1).toNat = 0
          · rw [if_pos c3, if_neg (fun h => h.2.2 c2 c3)]
          · rw [if_neg c3, if_pos ⟨c.1, c.2, fun _ => c3⟩]
        · rw [cf c2, if_pos ⟨c.1, c.2, fun h => (c2 h).elim⟩]
      · rw [if_neg (fun h => c ⟨h.1, h.2.1⟩)]
        simp only [cnd]
        repeat' split
        all_goals first | rfl | (exfalso; omega))
  have l0 := loop_all b.1.toNat (nu b + 1) (fun k i => spec_l3Slots.l0 N k i b) (slotB b) (allB (ownB b) (nu b) 0)
    (fun k hk => by
      obtain ⟨k, rfl⟩ : ∃ j, k = j + 1 := ⟨k - 1, by omega⟩
      have := l1 (nu b) 0 k (by omega) (by omega)
      rw [Bool.and_true] at this
      simp (disch := omega) only [spec_l3Slots.l0, cf]
      exact this)
    (fun k i hi => by
      simp (disch := omega) only [spec_l3Slots.l0, ct, bnd, w64, Int.toNat_natCast, fold_in, fold_ep]
      rw [slotB]
      simp only [cnd, cndb]
      repeat' split
      all_goals first | rfl | (exfalso; omega))
  have hnu : nu b = b.2.2.2.1.length := rfl
  have := l0 b.1.toNat 0 N (by omega) (by omega)
  exact this
theorem spec_l3Kind_eq (N : Nat) (s : Int) : spec_l3Kind N s = some (if 1 ≤ s ∧ s ≤ 4 then s - 1 else -1, ()) := by
  unfold spec_l3Kind
  by_cases h : 1 ≤ s ∧ s ≤ 4
  · simp (disch := omega) only [cf, w64, if_pos h]
  · rw [if_neg h]
    simp only [cnd]
    repeat' split
    all_goals first | rfl | (exfalso; omega)
def usz (k : Nat) : Nat := 2 ^ k
theorem usz_vals {k : Nat} (h : k < 4) : usz k = 1 ∧ k = 0 ∨ usz k = 2 ∧ k = 1 ∨ usz k = 4 ∧ k = 2 ∨ usz k = 8 ∧ k = 3 := by
  match k, h with
  | 0, _ => exact .inl ⟨rfl, rfl⟩
  | 1, _ => exact .inr (.inl ⟨rfl, rfl⟩)
  | 2, _ => exact .inr (.inr (.inl ⟨rfl, rfl⟩))
  | 3, _ => exact .inr (.inr (.inr ⟨rfl, rfl⟩))
theorem spec_l3Size_eq (N : Nat) {k : Nat} (h : k < 4) : spec_l3Size N k = some ((usz k : Int), ()) := by
  match k, h with
  | 0, _ => rfl
  | 1, _ => rfl
  | 2, _ => rfl
  | 3, _ => rfl
theorem impl_unitsOf_eq (N : Nat) {k : Nat} (h : k < 4) : impl_unitsOf N k = some ((usz k : Int), ()) := by
  match k, h with
  | 0, _ => rfl
  | 1, _ => rfl
  | 2, _ => rfl
  | 3, _ => rfl
/-- May that unit stand in the list of a kind? -/
def memB (b : Bk) (k : Nat) (x : Int) : Bool := decide (0 ≤ x ∧ x < nu b ∧ pg b (x / 8).toNat = k + 1 ∧ x % (usz k : Int) = 0)
def listB (b : Bk) (k : Nat) : Bool := decide ((hd b k).length ≤ nu b) && (hd b k).all (memB b k)
theorem allB_list (l : List Int) (P : Int → Bool) : ∀ m i, i + m = l.length → allB (fun j => P (l.getD j 0)) m i = (l.drop i).all P
  | 0, i, h => by rw [List.drop_eq_nil_of_le (by omega)]; rfl
  | m + 1, i, h => by rw [allB, allB_list l P m (i + 1) (by omega), drop_at 0 (show i < l.length by omega), List.all_cons]
def listsB (b : Bk) : Bool := allB (listB b) 4 0
theorem spec_l3Lists_step (N : Nat) (b : Bk) (hs : Sizes b) (kk : Nat) (hkk : kk < 4) (l : List Int) (i k : Nat) (hi : i < l.length) (x : Int) (hx : l.getD i 0 = x) : (bif (bif decide (0 ≤ (i : Int)) then decide ((i : Int) < (l.length : Int)) else false) then (bif decide (l.getD (i : Int).toNat 0 < 0) then some (false, ()) else (bif decide (l.getD (i : Int).toNat 0 ≥ (b.2.2.2.1.length : Int)) then some (false, ()) else (bif (bif decide (0 ≤ IntKind.i64.wrap (Int.tdiv (l.getD (i : Int).toNat 0) 8)) then decide (IntKind.i64.wrap (Int.tdiv (l.getD (i : Int).toNat 0) 8) < (b.2.1.length : Int)) else false) then (spec_l3Kind N (b.2.1.getD (IntKind.i64.wrap (Int.tdiv (l.getD (i : Int).toNat 0) 8)).toNat 0)).bind fun u31 => (bif (u31.1 != (kk : Int)) then some (false, ()) else (spec_l3Size N kk).bind fun u32 => (bif decide (u32.1 = 0) then none else (bif decide (Int.tmod (l.getD (i : Int).toNat 0) u32.1 > 0) then some (false, ()) else spec_l3Lists.l2 N (k + 1) kk i b))) else none))) else none) = cond (memB b kk x) (spec_l3Lists.l2 N (k + 1) kk i b) (some (false, ())) := by
  unfold Sizes np nu at hs
  have hsz := spec_l3Size_eq N hkk
  simp (disch := omega) only [bnd, Int.toNat_natCast, hx]
  rw [memB, cnd (p := _ ∧ _)]
  unfold nu
  by_cases c1 : 0 ≤ x ∧ x < (b.2.2.2.1.length : Int)
  rotate_left
  · rw [if_neg (fun h => c1 ⟨h.1, h.2.1⟩)]
    simp only [cnd]
    repeat' split
    all_goals first | rfl | (exfalso; omega)
  simp (disch := omega) only [cf, td, w64, bnd, spec_l3Kind_eq, hsz, Option.bind_some, fold_pg, tm]
  generalize pg b (x / 8).toNat = s
  by_cases c2 : s = (kk : Int) + 1
  rotate_left
  · rw [cndn, if_neg (by split <;> omega), if_neg (fun h => c2 h.2.2.1)]
  rw [cndn, if_pos (by rw [if_pos (by omega)]; omega)]
  have hu : (usz kk : Int) ≠ 0 := by rcases usz_vals hkk with ⟨hu, hk⟩ | ⟨hu, hk⟩ | ⟨hu, hk⟩ | ⟨hu, hk⟩ <;> omega
  rw [cf hu]
  by_cases c3 : x % (usz kk : Int) = 0
  · rw [cf (by omega), if_pos ⟨c1.1, c1.2, c2, c3⟩]
  · have := Int.emod_nonneg x hu
    rw [ct (by omega), if_neg (fun h => c3 h.2.2.2)]
theorem spec_l3Lists_eq (N : Nat) (hN : Fuel N) (b : Bk) (hs : Sizes b) (hb : Bshort b) : spec_l3Lists N b = some (listsB b, ()) := by
  have hs' := hs
  unfold Sizes np nu at hs'
  have inner : ∀ (kk : Nat), kk < 4 → ∀ (k : Nat), spec_l3Lists.l1 N (k + (hd b kk).length * 2 + 1) kk 0 b = cond ((hd b kk).all (memB b kk)) (spec_l3Lists.l3 N k kk b) (some (false, ())) := by
    intro kk hkk k
    have := loop_allk 2 (by decide) (some (false, ())) (hd b kk).length (fun k i => spec_l3Lists.l1 N k kk i b) (fun j => memB b kk ((hd b kk).getD j 0)) (fun k => spec_l3Lists.l3 N k kk b)
      (fun k => by
        rcases usz_vals hkk with ⟨hu, hk⟩ | ⟨hu, hk⟩ | ⟨hu, hk⟩ | ⟨hu, hk⟩ <;> subst hk <;>
          simp (disch := first | omega | (simp only [hd]; omega)) only [spec_l3Lists.l1, ct, cf])
      (fun k i hi => by
        have st := spec_l3Lists_step N b hs kk hkk (hd b kk) i k hi _ rfl
        have e2 : spec_l3Lists.l2 N (k + 1) kk i b = spec_l3Lists.l1 N k kk ((i : Int) + 1) b := by
          rw [spec_l3Lists.l2, w64 (by omega) (by have := hb.2.1 kk; unfold Short at this; omega)]
        rw [← e2, ← st]
        rcases usz_vals hkk with ⟨hu, hk⟩ | ⟨hu, hk⟩ | ⟨hu, hk⟩ | ⟨hu, hk⟩ <;> subst hk <;> simp only [hd] at hi ⊢ <;>
          simp (disch := first | omega | (simp only [hd]; omega)) only [spec_l3Lists.l1, ct, cf])
      (hd b kk).length 0 k (by omega)
    rw [allB_list _ _ _ _ (by omega), List.drop_zero] at this
    exact this
  have outer : ∀ (d kk : Nat), kk + d = 4 → ∀ k, 40000000 * d < k → spec_l3Lists.l0 N k kk b = some (allB (listB b) d kk, ()) := by
    intro d
    induction d with
    | zero =>
      intro kk h k hk
      obtain ⟨k, rfl⟩ := fuel hk
      simp (disch := omega) only [spec_l3Lists.l0, cf, allB]
    | succ d ih =>
      intro kk h k hk
      have hkk : kk < 4 := by omega
      have hl := hb.2.1 kk
      unfold Short at hl
      obtain ⟨k, rfl⟩ : ∃ j, k = j + 1 + (hd b kk).length * 2 + 1 + 1 := ⟨k - (hd b kk).length * 2 - 3, by omega⟩
      have h1 := inner kk hkk (k + 1)
      have h2 : spec_l3Lists.l3 N (k + 1) kk b = spec_l3Lists.l0 N k ((kk + 1 : Nat) : Int) b := by
        rw [spec_l3Lists.l3, w64 (by omega) (by omega)]; rfl
      rw [h2, ih (kk + 1) (by omega) k (by omega)] at h1
      have goal : spec_l3Lists.l0 N (k + 1 + (hd b kk).length * 2 + 1 + 1) kk b = cond (decide (((hd b kk).length : Int) > (b.2.2.2.1.length : Int))) (some (false, ())) (spec_l3Lists.l1 N (k + 1 + (hd b kk).length * 2 + 1) kk 0 b) := by
        rcases usz_vals hkk with ⟨hu, hk⟩ | ⟨hu, hk⟩ | ⟨hu, hk⟩ | ⟨hu, hk⟩ <;> subst hk <;>
          simp (disch := omega) only [spec_l3Lists.l0, ct, cf, hd]
      rw [goal, h1, allB, listB, cnd]
      unfold nu
      by_cases c : ((hd b kk).length : Int) > (b.2.2.2.1.length : Int)
      · rw [if_pos c, df (by omega)]; rfl
      · rw [if_neg c, dt (by omega), Bool.true_and]
        cases (hd b kk).all (memB b kk) <;> rfl
  have := outer 4 0 rfl N (by omega)
  exact this
noncomputable def tf (p : Prop) : Bool := @decide p (Classical.propDecidable p)
theorem tf_t {p : Prop} (h : p) : tf p = true := @decide_eq_true p (Classical.propDecidable p) h
theorem tf_f {p : Prop} (h : ¬ p) : tf p = false := @decide_eq_false p (Classical.propDecidable p) h
theorem tf_iff {p : Prop} : tf p = true ↔ p :=
  ⟨fun h => Classical.byContradiction fun c => (by rw [tf_f c] at h; cases h), tf_t⟩
theorem tf_eq {p : Prop} {b : Bool} (h : b = true ↔ p) : b = tf p := by
  by_cases c : p
  · rw [tf_t c, h.2 c]
  · rw [tf_f c]
    cases b
    · rfl
    · exact (c (h.1 rfl)).elim
theorem tf_congr {p q : Prop} (h : p ↔ q) : tf p = tf q := by rw [propext h]
/-- No unit of a page from one on has an owner. -/
def FreeP (b : Bk) (p fr : Nat) : Prop := ∀ u, fr ≤ u → u < 8 → ow b (8 * p + u) = 0
def Owners (b : Bk) : Prop := ∀ u, u < nu b → 0 ≤ ow b u
def RoomP (b : Bk) (p k u : Nat) : Prop :=
  (u % usz k ≠ 0 → ow b (8 * p + u) = 0 ∧ (hd b k).count ((8 * p + u : Nat) : Int) = 0) ∧
  (u % usz k = 0 → 0 < ow b (8 * p + u) ∧ (hd b k).count ((8 * p + u : Nat) : Int) = 0 ∨ ow b (8 * p + u) = 0 ∧ (hd b k).count ((8 * p + u : Nat) : Int) = 1)
def RoomsP (b : Bk) (p k : Nat) : Prop := (∀ u, u < 8 → RoomP b p k u) ∧ ∃ u, u < 8 ∧ 0 < ow b (8 * p + u)
/-- The last page up to one that is no further page of a room. -/
def back (b : Bk) : Nat → Nat
  | 0 => 0
  | q + 1 => if pg b (q + 1) = 7 then back b q else q + 1
def RestP (b : Bk) (p : Nat) : Prop := pg b (back b p) > 8 ∧ (back b p : Int) + pg b (back b p) - 8 > p ∧ FreeP b p 0
def WideP (b : Bk) (p : Nat) : Prop := 10 ≤ pg b p ∧ pg b p ≤ 12 ∧ (p : Int) + (pg b p - 8) ≤ np b ∧ ow b (8 * p) ≠ 0 ∧ FreeP b p 1 ∧ ∀ i : Nat, 1 ≤ i → (i : Int) < pg b p - 8 → pg b (p + i) = 7
def PageP (b : Bk) (p : Nat) : Prop :=
  (pg b p = 0 → FreeP b p 0) ∧ (1 ≤ pg b p ∧ pg b p ≤ 4 → RoomsP b p (pg b p - 1).toNat) ∧ (pg b p = 7 → RestP b p) ∧
  (pg b p ≠ 0 → ¬ (1 ≤ pg b p ∧ pg b p ≤ 4) → pg b p ≠ 7 → WideP b p)
theorem spec_l3Free_eq (N : Nat) (hN : Fuel N) (b : Bk) (hs : Sizes b) (ho : Owners b) (p fr : Nat) (hp : p < np b) (hfr : fr ≤ 8) : spec_l3Free N b p fr = some (tf (FreeP b p fr), ()) := by
  have hs' := hs
  unfold Sizes np nu at hs'
  unfold np at hp
  have := loop_all 8 0 (fun k i => spec_l3Free.l0 N k p i b) (fun u => !decide (0 < ow b (8 * p + u))) true
    (fun k hk => by
      obtain ⟨k, rfl⟩ := fuel hk
      simp (disch := omega) only [spec_l3Free.l0, cf])
    (fun k i hi => by
      have e : ((p : Int) * 8 + (i : Int)).toNat = 8 * p + i := by omega
      simp (disch := omega) only [spec_l3Free.l0, ct, w64, bnd, e, fold_ow]
      by_cases c : ow b (8 * p + i) > 0
      · rw [ct c, dt c]; rfl
      · rw [cf c, df c]; rfl)
    (8 - fr) fr N (by omega) (by omega)
  unfold spec_l3Free
  rw [this, Bool.and_true]
  congr 2
  refine tf_eq ?_
  rw [allB_iff]
  constructor
  · intro h u h1 h2
    have g := h u h1 (by omega)
    have g2 := ho (8 * p + u) (by unfold nu; omega)
    simp at g
    omega
  · intro h u h1 h2
    have := h u h1 (by omega)
    simp [this]
theorem count_drop (l : List Int) (x : Int) (i : Nat) (h : i < l.length) : (l.drop i).count x = (if l.getD i 0 = x then 1 else 0) + (l.drop (i + 1)).count x := by
  rw [drop_at 0 h, List.count_cons]
  by_cases c : l.getD i 0 = x
  · rw [beq_iff_eq.2 c, if_pos c, if_pos rfl]; omega
  · rw [beq_eq_false_iff_ne.2 c, if_neg c, if_neg (by decide)]; omega
theorem spec_l3In_eq (N : Nat) (hN : Fuel N) (l : List Int) (hl : Short l) (x : Int) : spec_l3In N l x = some ((l.count x : Int), ()) := by
  unfold Short at hl
  have := loop_idx l.length (fun k i a => spec_l3In.l0 N k l x a i) (fun i a => some (a + ((l.drop i).count x : Int), ())) (fun i a => 0 ≤ a ∧ a ≤ i)
    (fun k a h => by
      simp (disch := omega) only [spec_l3In.l0, cf, List.drop_length, List.count_nil]
      simp)
    (fun k i a hi h ih => by
      simp (disch := omega) only [spec_l3In.l0, ct, bnd, w64, Int.toNat_natCast, cndb]
      rw [count_drop l x i hi]
      by_cases c : l.getD i 0 = x
      · rw [if_pos c, if_pos c, ih _ (by omega)]
        congr 2; omega
      · rw [if_neg c, if_neg c, ih _ (by omega)]
        congr 2; omega)
    l.length N 0 0 (by omega) (by omega) (by omega)
  rw [List.drop_zero, Int.zero_add] at this
  exact this
/-- How many of m places from i on have something. -/
def cntB (P : Nat → Bool) : Nat → Nat → Nat
  | 0, _ => 0
  | m + 1, i => (if P i then 1 else 0) + cntB P m (i + 1)
theorem cntB_pos (P : Nat → Bool) : ∀ m i, 0 < cntB P m i ↔ ∃ j, i ≤ j ∧ j < i + m ∧ P j = true
  | 0, i => by simp [cntB]; intro j h1 h2; omega
  | m + 1, i => by
    rw [cntB]
    constructor
    · intro h
      by_cases c : P i = true
      · exact ⟨i, Nat.le_refl _, by omega, c⟩
      · rw [if_neg c, Nat.zero_add] at h
        obtain ⟨j, h1, h2, h3⟩ := (cntB_pos P m (i + 1)).1 h
        exact ⟨j, by omega, by omega, h3⟩
    · intro ⟨j, h1, h2, h3⟩
      by_cases c : P i = true
      · rw [if_pos c]; omega
      · have : 0 < cntB P m (i + 1) := (cntB_pos P m (i + 1)).2 ⟨j, by by_cases e : j = i; (subst e; exact (c h3).elim); omega, by omega, h3⟩
        omega
noncomputable def roomB (b : Bk) (p k u : Nat) : Bool := tf (RoomP b p k u)
def firstB (b : Bk) (p k u : Nat) : Bool := decide (u % usz k = 0 ∧ 0 < ow b (8 * p + u))
theorem usz_dvd {k : Nat} (h : k < 4) (p u : Nat) : (8 * p + u) % usz k = u % usz k := by
  rcases usz_vals h with ⟨hu, _⟩ | ⟨hu, _⟩ | ⟨hu, _⟩ | ⟨hu, _⟩ <;> rw [hu] <;> omega
theorem spec_l3Rooms_step (N : Nat) (hN : Fuel N) (b : Bk) (hs : Sizes b) (ho : Owners b) (p kk : Nat) (hp : p < np b) (hkk : kk < 4) (l : List Int) (hl : l = hd b kk) (hsh : Short l) (i : Nat) (hi : i < 8) (X Y : Option (Bool × Unit)) :
    ((spec_l3In N l (IntKind.i64.wrap (IntKind.i64.wrap ((p : Int) * 8) + (i : Int)))).bind fun u7 => (spec_l3Size N kk).bind fun u8 => (bif decide (u8.1 = 0) then none else (bif decide (Int.tmod i u8.1 > 0) then (bif (bif decide (0 ≤ IntKind.i64.wrap (IntKind.i64.wrap ((p : Int) * 8) + i)) then decide (IntKind.i64.wrap (IntKind.i64.wrap ((p : Int) * 8) + i) < (b.2.2.2.1.length : Int)) else false) then (bif decide (b.2.2.2.1.getD (IntKind.i64.wrap (IntKind.i64.wrap ((p : Int) * 8) + i)).toNat 0 > 0) then some (false, ()) else (bif decide (u7.1 > 0) then some (false, ()) else Y)) else none) else (bif (bif decide (0 ≤ IntKind.i64.wrap (IntKind.i64.wrap ((p : Int) * 8) + i)) then decide (IntKind.i64.wrap (IntKind.i64.wrap ((p : Int) * 8) + i) < (b.2.2.2.1.length : Int)) else false) then (bif (decide (b.2.2.2.1.getD (IntKind.i64.wrap (IntKind.i64.wrap ((p : Int) * 8) + i)).toNat 0 > 0) == decide (u7.1 > 0)) then some (false, ()) else (bif decide (u7.1 > 1) then some (false, ()) else (bif (bif decide (0 ≤ IntKind.i64.wrap (IntKind.i64.wrap ((p : Int) * 8) + i)) then decide (IntKind.i64.wrap (IntKind.i64.wrap ((p : Int) * 8) + i) < (b.2.2.2.1.length : Int)) else false) then (bif decide (b.2.2.2.1.getD (IntKind.i64.wrap (IntKind.i64.wrap ((p : Int) * 8) + i)).toNat 0 > 0) then X else Y) else none))) else none)))) =
      cond (roomB b p kk i) (cond (firstB b p kk i) X Y) (some (false, ())) := by
  have hs' := hs
  unfold Sizes np nu at hs'
  unfold np at hp
  have hw : IntKind.i64.wrap (IntKind.i64.wrap ((p : Int) * 8) + (i : Int)) = ((8 * p + i : Nat) : Int) := by rw [w64 (n := (p : Int) * 8) (by omega) (by omega), w64 (by omega) (by omega)]; omega
  have hu0 : (usz kk : Int) ≠ 0 := by rcases usz_vals hkk with ⟨hu, hk⟩ | ⟨hu, hk⟩ | ⟨hu, hk⟩ | ⟨hu, hk⟩ <;> omega
  have hown := ho (8 * p + i) (by unfold nu; omega)
  simp (disch := omega) only [hw, spec_l3In_eq N hN l hsh, spec_l3Size_eq N hkk, Option.bind_some, cf, tm, bnd, Int.toNat_natCast, fold_ow]
  have hm : (i : Int) % (usz kk : Int) = ((i % usz kk : Nat) : Int) := by omega
  rw [hm, hl]
  generalize hc : (hd b kk).count ((8 * p + i : Nat) : Int) = c
  have hroom : roomB b p kk i = tf ((i % usz kk ≠ 0 → ow b (8 * p + i) = 0 ∧ c = 0) ∧ (i % usz kk = 0 → 0 < ow b (8 * p + i) ∧ c = 0 ∨ ow b (8 * p + i) = 0 ∧ c = 1)) := by
    unfold roomB RoomP
    rw [hc]
  rw [hroom, firstB]
  by_cases c1 : i % usz kk = 0
  · rw [cf (by omega)]
    by_cases c2 : ow b (8 * p + i) > 0
    · by_cases c3 : c = 0
      · rw [tf_t ⟨fun h => (h c1).elim, fun _ => .inl ⟨c2, c3⟩⟩, dt c2, df (p := (c : Int) > 0) (by omega), dt (p := _ ∧ _) ⟨c1, c2⟩]
        simp (disch := omega) only [cf]
        rfl
      · rw [tf_f (fun h => by have := h.2 c1; omega), dt c2, dt (p := (c : Int) > 0) (by omega)]
        rfl
    · by_cases c3 : c = 1
      · rw [tf_t ⟨fun h => (h c1).elim, fun _ => .inr ⟨by omega, c3⟩⟩, df c2, dt (p := (c : Int) > 0) (by omega), df (p := _ ∧ _) (fun h => c2 h.2)]
        simp (disch := omega) only [cf]
        rfl
      · rw [tf_f (fun h => by have := h.2 c1; omega), df c2]
        by_cases c4 : (c : Int) > 0
        · rw [dt c4, dt (p := (c : Int) > 1) (by omega)]; rfl
        · rw [df c4]; rfl
  · rw [ct (by omega)]
    by_cases c2 : ow b (8 * p + i) > 0
    · rw [tf_f (fun h => by have := h.1 c1; omega), ct c2]; rfl
    · rw [cf c2]
      by_cases c3 : c = 0
      · rw [tf_t ⟨fun _ => ⟨by omega, c3⟩, fun h => (c1 h).elim⟩, cf (by omega), df (p := _ ∧ _) (fun h => c1 h.1)]; rfl
      · rw [tf_f (fun h => by have := h.1 c1; omega), ct (by omega)]; rfl
theorem spec_l3Rooms_eq (N : Nat) (hN : Fuel N) (b : Bk) (hs : Sizes b) (ho : Owners b) (hb : Bshort b) (p kk : Nat) (hp : p < np b) (hkk : kk < 4) : spec_l3Rooms N b p kk = some (tf (RoomsP b p kk), ()) := by
  have hsh := hb.2.1 kk
  have := loop_idx 8 (fun k i a => spec_l3Rooms.l0 N k p kk a i b) (fun i a => some (allB (roomB b p kk) (8 - i) i && decide (0 < a + (cntB (firstB b p kk) (8 - i) i : Int)), ())) (fun i a => 0 ≤ a ∧ a ≤ i)
    (fun k a h => by
      simp (disch := omega) only [spec_l3Rooms.l0, cf, Nat.sub_self, allB, cntB]
      simp)
    (fun k i a hi h ih => by
      have st := spec_l3Rooms_step N hN b hs ho p kk hp hkk (hd b kk) rfl hsh i hi (spec_l3Rooms.l0 N k p kk (a + 1) ((i : Int) + 1) b) (spec_l3Rooms.l0 N k p kk a ((i : Int) + 1) b)
      have goal : spec_l3Rooms.l0 N (k + 1) p kk a i b = cond (roomB b p kk i) (cond (firstB b p kk i) (spec_l3Rooms.l0 N k p kk (a + 1) ((i : Int) + 1) b) (spec_l3Rooms.l0 N k p kk a ((i : Int) + 1) b)) (some (false, ())) := by
        rw [← st]
        have w1 : IntKind.i64.wrap ((i : Int) + 1) = (i : Int) + 1 := w64 (by omega) (by omega)
        have w2 : IntKind.i64.wrap (a + 1) = a + 1 := w64 (by omega) (by omega)
        rcases usz_vals hkk with ⟨hu, hk⟩ | ⟨hu, hk⟩ | ⟨hu, hk⟩ | ⟨hu, hk⟩ <;> subst hk <;>
          simp (disch := omega) only [spec_l3Rooms.l0, ct, cf, hd, w1, w2]
      rw [goal, ih (a + 1) (by omega), ih a (by omega), show 8 - i = (8 - (i + 1)) + 1 by omega, allB, cntB]
      cases roomB b p kk i
      · rfl
      · cases firstB b p kk i
        · simp only [cond_true, cond_false, Bool.true_and, Bool.false_eq_true, if_false, Nat.zero_add]
        · simp only [cond_true, Bool.true_and, if_true]
          congr 3
          exact decide_eq_decide.2 (by omega))
    8 N 0 0 (by omega) (by omega) (by omega)
  unfold spec_l3Rooms
  rw [show ((0 : Nat) : Int) = 0 from rfl] at this
  rw [this, show (8 - 0 : Nat) = 8 from rfl]
  congr 2
  refine tf_eq ?_
  rw [Bool.and_eq_true, allB_iff, decide_eq_true_iff, Int.zero_add]
  have hc := cntB_pos (firstB b p kk) 8 0
  constructor
  · intro ⟨h1, h2⟩
    refine ⟨fun u hu => tf_iff.1 (h1 u (by omega) (by omega)), ?_⟩
    obtain ⟨j, g1, g2, g3⟩ := hc.1 (by omega)
    unfold firstB at g3
    exact ⟨j, by omega, (of_decide_eq_true g3).2⟩
  · intro ⟨h1, u, h2, h3⟩
    refine ⟨fun j _ hj => tf_iff.2 (h1 j (by omega)), ?_⟩
    have : 0 < cntB (firstB b p kk) 8 0 := hc.2 ⟨u, by omega, by omega, by
      unfold firstB
      refine dt ⟨?_, h3⟩
      have := (h1 u h2).1
      omega⟩
    omega
theorem back_le (b : Bk) : ∀ q, back b q ≤ q
  | 0 => Nat.le_refl _
  | q + 1 => by
    rw [back]
    split
    · have := back_le b q; omega
    · omega
theorem ww8 {a c : Int} (h : -9223372036854775808 ≤ a - c) (h2 : a - c ≤ 9223372036854775807) (h3 : -100 ≤ c) (h4 : c ≤ 100) : IntKind.i64.wrap (IntKind.i64.wrap a - c) = a - c := by
  rw [IntKind.wrap_i64, IntKind.wrap_i64]; omega
theorem spec_l3Rest_eq (N : Nat) (hN : Fuel N) (b : Bk) (hi : Bi b) (hs : Sizes b) (ho : Owners b) (p : Nat) (hp : p < np b) : spec_l3Rest N b p = some (tf (RestP b p), ()) := by
  have hs' := hs
  unfold Sizes np nu at hs'
  have hp' := hp
  unfold np at hp'
  have main : ∀ q k, q < k → q ≤ p → spec_l3Rest.l0 N k p q b = some (tf (pg b (back b q) > 8 ∧ (back b q : Int) + pg b (back b q) - 8 > p ∧ FreeP b p 0), ()) := by
    have leaf : ∀ q : Nat, q ≤ p → (X : Option (Bool × Unit)) → X = (bif decide (pg b q > 8) then (bif decide (IntKind.i64.wrap (IntKind.i64.wrap ((q : Int) + pg b q) - 8) > p) then (some (tf (FreeP b p 0), ()) : Option (Bool × Unit)) else some (false, ())) else some (false, ())) →
        X = some (tf (pg b q > 8 ∧ (q : Int) + pg b q - 8 > p ∧ FreeP b p 0), ()) := by
      intro q hq X hX
      have hr := hi.2.1.at q
      rw [fold_pg] at hr
      obtain ⟨r1, r2⟩ := hr
      rw [hX]
      by_cases c : pg b q > 8
      · rw [ct c, ww8 (by omega) (by omega) (by omega) (by omega)]
        by_cases c2 : (q : Int) + pg b q - 8 > p
        · rw [ct c2]
          congr 2
          exact tf_congr ⟨fun h => ⟨c, c2, h⟩, fun h => h.2.2⟩
        · rw [cf c2, tf_f (fun h => c2 h.2.1)]
      · rw [cf c, tf_f (fun h => c h.1)]
    intro q
    induction q with
    | zero =>
      intro k hk hq
      obtain ⟨k, rfl⟩ := fuel hk
      rw [back]
      refine leaf 0 hq _ ?_
      have e := spec_l3Free_eq N hN b hs ho p 0 hp (by omega)
      rw [show ((0 : Nat) : Int) = 0 from rfl] at e
      rw [spec_l3Rest.l0, cf (by omega), bnd (by omega) (by omega)]
      simp (disch := omega) only [bnd, e, Option.bind_some, Int.toNat_natCast, fold_pg]
    | succ q ih =>
      intro k hk hq
      obtain ⟨k, rfl⟩ := fuel hk
      have e := spec_l3Free_eq N hN b hs ho p 0 hp (by omega)
      rw [show ((0 : Nat) : Int) = 0 from rfl] at e
      have w1 : IntKind.i64.wrap (((q + 1 : Nat) : Int) - 1) = (q : Int) := by rw [w64 (by omega) (by omega)]; omega
      by_cases c : pg b (q + 1) = 7
      · rw [back, if_pos c, ← ih k (by omega) (by omega), spec_l3Rest.l0, ct (by omega), bnd (by omega) (by omega), Int.toNat_natCast, fold_pg, w1, cndb, if_pos c]
      · rw [back, if_neg c]
        refine leaf (q + 1) hq _ ?_
        rw [spec_l3Rest.l0, ct (by omega), bnd (by omega) (by omega), Int.toNat_natCast, fold_pg, cndb, if_neg c]
        simp (disch := omega) only [bnd, e, Option.bind_some, Int.toNat_natCast, fold_pg]
  exact main p N (by omega) (Nat.le_refl _)
theorem spec_l3Wide_eq (N : Nat) (hN : Fuel N) (b : Bk) (hi : Bi b) (hs : Sizes b) (ho : Owners b) (p : Nat) (hp : p < np b) : spec_l3Wide N b p = some (tf (WideP b p), ()) := by
  have hs' := hs
  unfold Sizes np nu at hs'
  have hp' := hp
  unfold np at hp'
  have hr := hi.2.1.at p
  rw [fold_pg] at hr
  obtain ⟨r1, r2⟩ := hr
  have e := spec_l3Free_eq N hN b hs ho p 1 hp (by omega)
  rw [show ((1 : Nat) : Int) = 1 from rfl] at e
  have e8 : ((p : Int) * 8).toNat = 8 * p := by omega
  unfold spec_l3Wide
  simp (disch := omega) only [bnd, Int.toNat_natCast, fold_pg, w64 (n := (p : Int) * 8), e8, fold_ow, e, Option.bind_some]
  by_cases c : 10 ≤ pg b p ∧ pg b p ≤ 12
  rotate_left
  · rw [tf_f (p := WideP b p) (fun h => c ⟨h.1, h.2.1⟩)]
    by_cases c1 : IntKind.i64.wrap (pg b p - 8) < 2
    · rw [ct c1]
    · rw [cf c1, ct]
      rw [IntKind.wrap_i64] at c1 ⊢
      omega
  have w1 : IntKind.i64.wrap (pg b p - 8) = pg b p - 8 := w64 (by omega) (by omega)
  rw [w1, cf (by omega), cf (by omega), w64 (n := (p : Int) + (pg b p - 8)) (by omega) (by omega)]
  by_cases c2 : (p : Int) + (pg b p - 8) > (b.2.1.length : Int)
  · rw [ct c2, tf_f (p := WideP b p) (fun h => by have := h.2.2.1; unfold np at this; omega)]
  rw [cf c2, cndb]
  by_cases c3 : ow b (8 * p) = 0
  · rw [if_pos c3, tf_f (p := WideP b p) (fun h => h.2.2.2.1 c3)]
  rw [if_neg c3]
  by_cases c4 : FreeP b p 1
  rotate_left
  · rw [tf_f c4, tf_f (p := WideP b p) (fun h => c4 h.2.2.2.2.1)]; rfl
  rw [tf_t c4, Bool.not_true, cond_false]
  have := loop_all (pg b p - 8).toNat 0 (fun k i => spec_l3Wide.l0 N k p (pg b p - 8) i b) (fun i => decide (pg b (p + i) = 7)) true
    (fun k hk => by
      obtain ⟨k, rfl⟩ := fuel hk
      simp (disch := omega) only [spec_l3Wide.l0, cf])
    (fun k i hi2 => by
      have e3 : ((p : Int) + (i : Int)).toNat = p + i := by omega
      simp (disch := omega) only [spec_l3Wide.l0, ct, w64, bnd, e3, fold_pg, cndn, cnd])
    ((pg b p - 8).toNat - 1) 1 N (by omega) (by omega)
  rw [show ((1 : Nat) : Int) = 1 from rfl] at this
  rw [this, Bool.and_true]
  congr 2
  refine tf_eq ?_
  rw [allB_iff]
  constructor
  · intro h
    exact ⟨c.1, c.2, by unfold np; omega, c3, c4, fun i h1 h2 => of_decide_eq_true (h i h1 (by omega))⟩
  · intro h j h1 h2
    exact dt (h.2.2.2.2.2 j h1 (by omega))
theorem spec_l3Page_eq (N : Nat) (hN : Fuel N) (b : Bk) (hi : Bi b) (hs : Sizes b) (ho : Owners b) (hb : Bshort b) (p : Nat) (hp : p < np b) : spec_l3Page N b p = some (tf (PageP b p), ()) := by
  have hp' := hp
  unfold np at hp'
  have e := spec_l3Free_eq N hN b hs ho p 0 hp (by omega)
  rw [show ((0 : Nat) : Int) = 0 from rfl] at e
  simp (disch := omega) only [spec_l3Page, bnd, Int.toNat_natCast, fold_pg, spec_l3Kind_eq, Option.bind_some, cndb, e]
  unfold PageP
  by_cases c0 : pg b p = 0
  · rw [if_pos c0]
    congr 2
    exact tf_congr ⟨fun h => ⟨fun _ => h, fun h => by omega, fun h => by omega, fun h => (h c0).elim⟩, fun h => h.1 c0⟩
  rw [if_neg c0]
  by_cases c1 : 1 ≤ pg b p ∧ pg b p ≤ 4
  · have ek : pg b p - 1 = ((pg b p - 1).toNat : Int) := by omega
    simp only [if_pos c1]
    rw [ct (by omega), ek, spec_l3Rooms_eq N hN b hs ho hb p _ hp (by omega)]
    simp only [Option.bind_some]
    congr 2
    exact tf_congr ⟨fun h => ⟨fun h => by omega, fun _ => h, fun h => by omega, fun _ h => (h c1).elim⟩, fun h => h.2.1 c1⟩
  simp only [if_neg c1]
  rw [cf (by omega)]
  by_cases c2 : pg b p = 7
  · rw [if_pos c2, spec_l3Rest_eq N hN b hi hs ho p hp]
    simp only [Option.bind_some]
    congr 2
    exact tf_congr ⟨fun h => ⟨fun h => by omega, fun h => (c1 h).elim, fun _ => h, fun _ _ h => (h c2).elim⟩, fun h => h.2.2.1 c2⟩
  · rw [if_neg c2, spec_l3Wide_eq N hN b hi hs ho p hp]
    simp only [Option.bind_some]
    congr 2
    exact tf_congr ⟨fun h => ⟨fun h => by omega, fun h => (c1 h).elim, fun h => (c2 h).elim, fun _ _ _ => h⟩, fun h => h.2.2.2 c0 c1 c2⟩
/-- The book is valid. -/
def BookP (b : Bk) : Prop := slotsB b = true ∧ listsB b = true ∧ ∀ p, p < np b → PageP b p
theorem slotsB_sizes {b : Bk} (h : slotsB b = true) : Sizes b := by
  rw [slotsB, Bool.and_eq_true] at h
  exact of_decide_eq_true h.1
theorem slotsB_owners {b : Bk} (h : slotsB b = true) : Owners b := by
  rw [slotsB, Bool.and_eq_true, Bool.and_eq_true] at h
  intro u hu
  have := (allB_iff _ _ _).1 h.2.2 u (by omega) (by omega)
  exact (of_decide_eq_true this).1
noncomputable def bookOk (b : Bk) : Bool := tf (BookP b)
theorem spec_BookOk_eq (N : Nat) (hN : Fuel N) (b : Bk) (hi : Bi b) (hb : Bshort b) : spec_BookOk N b = some (bookOk b, ()) := by
  unfold spec_BookOk bookOk BookP
  rw [spec_l3Slots_eq N hN b]
  simp only [Option.bind_some]
  cases h1 : slotsB b
  · rw [tf_f (fun h => by cases h.1)]; rfl
  have hs := slotsB_sizes h1
  have ho := slotsB_owners h1
  rw [spec_l3Lists_eq N hN b hs hb]
  simp only [Option.bind_some, Bool.not_true, cond_false]
  cases h2 : listsB b
  · rw [tf_f (fun h => by cases h.2.1)]; rfl
  have hs' := hs
  unfold Sizes np nu at hs'
  have := loop_all (np b) 0 (fun k i => spec_BookOk.l0 N k i b) (fun p => tf (PageP b p)) true
    (fun k hk => by
      obtain ⟨k, rfl⟩ := fuel hk
      unfold np
      simp (disch := omega) only [spec_BookOk.l0, cf])
    (fun k i hi2 => by
      have hi3 := hi2
      unfold np at hi3
      rw [spec_BookOk.l0, ct (by omega), spec_l3Page_eq N hN b hi hs ho hb i hi2, w64 (by omega) (by omega)]
      simp only [Option.bind_some]
      cases tf (PageP b i) <;> rfl)
    (np b) 0 N (by omega) (by unfold np; omega)
  rw [show ((0 : Nat) : Int) = 0 from rfl] at this
  rw [Bool.not_true, cond_false, this, Bool.and_true]
  congr 2
  refine tf_eq ?_
  rw [allB_iff]
  exact ⟨fun h => ⟨by trivial, by trivial, fun p hp => tf_iff.1 (h p (by omega) (by omega))⟩, fun h j _ hj => tf_iff.2 (h.2.2 j (by omega))⟩
theorem impl_isSlotB_eq (N : Nat) (b : Bk) (h1 : 1 ≤ b.1) (h2 : b.1 ≤ 4) (s : Int) : impl_Book_isSlot N b s = some (decide (0 ≤ s ∧ s < b.1), ()) := by
  simp (disch := omega) only [impl_Book_isSlot, impl_within_eq, w64, Option.bind_some]
  congr 2
  exact decide_eq_decide.2 (by omega)
theorem impl_isIn_eq (N : Nat) (b : Bk) (hs : Sizes b) (s : Int) : impl_Book_isIn N b s = some (decide (0 ≤ s ∧ s < b.1 ∧ inn b s.toNat ≠ 0), ()) := by
  unfold Sizes at hs
  simp only [impl_Book_isIn, impl_isSlotB_eq N b hs.1 hs.2.1, Option.bind_some]
  by_cases c : 0 ≤ s ∧ s < b.1
  · rw [dt c, cond_true, bnd (by omega) (by omega), fold_in]
    congr 2
    by_cases e : inn b s.toNat = 0
    · rw [bne_eq_false_iff_eq.2 e, df (fun h => h.2.2 e)]
    · rw [bne_iff_ne.2 e, dt ⟨c.1, c.2, e⟩]
  · rw [df c, cond_false, df (fun h => c ⟨h.1, h.2.1⟩)]
theorem impl_lists_step (N : Nat) (b : Bk) (hi : Bi b) (hs : Sizes b) (kk : Nat) (hkk : kk < 4) (l : List Int) (j k : Nat) (hj : j < l.length) (hll : l.length ≤ 4194304) (x : Int) (hx : l.getD j 0 = x) (hd4 : List Int × List Int × List Int × List Int) :
    impl_Book_shapeOk.l3 N (k + 1) kk hd4 kk l l.length j b = cond (memB b kk x) (impl_Book_shapeOk.l3 N k kk hd4 kk l l.length ((j : Int) + 1) b) (some (false, ())) := by
  unfold Sizes np nu at hs
  simp (disch := omega) only [impl_Book_shapeOk.l3, ct, bnd, Int.toNat_natCast, hx, impl_within_eq, Option.bind_some, impl_unitsOf_eq N hkk, w64]
  rw [memB, cnd (p := _ ∧ _)]
  unfold nu
  by_cases c1 : 0 ≤ x ∧ x < (b.2.2.2.1.length : Int)
  rotate_left
  · rw [if_neg (fun h => c1 ⟨h.1, h.2.1⟩), df (by omega)]; rfl
  have hu : (usz kk : Int) ≠ 0 := by rcases usz_vals hkk with ⟨hu, hk⟩ | ⟨hu, hk⟩ | ⟨hu, hk⟩ | ⟨hu, hk⟩ <;> omega
  rw [dt (by omega), Bool.not_true, cond_false, cf hu, tm (by omega), cndn]
  by_cases c3 : x % (usz kk : Int) = 0
  · rw [if_pos c3]
    simp (disch := omega) only [td, w64, bnd, fold_pg, cndn]
    by_cases c2 : pg b (x / 8).toNat = (kk : Int) + 1
    · rw [if_pos c2, if_pos ⟨c1.1, c1.2, c2, c3⟩]
    · rw [if_neg c2, if_neg (fun h => c2 h.2.2.1)]
  · rw [if_neg c3, if_neg (fun h => c3 h.2.2.2)]
theorem impl_shapeOk_eq (N : Nat) (hN : Fuel N) (b : Bk) (hi : Bi b) (hb : Bshort b) : impl_Book_shapeOk N b = some (slotsB b && listsB b, ()) := by
  by_cases hs : Sizes b
  rotate_left
  · rw [slotsB, df hs, Bool.false_and, Bool.false_and]
    have hp := hb.1
    unfold Short at hp
    unfold Sizes np nu at hs
    simp (disch := omega) only [impl_Book_shapeOk, impl_within_eq, Option.bind_some, w64, cndn]
    by_cases c1 : 1 ≤ b.1 ∧ b.1 ≤ 4
    rotate_left
    · rw [df c1]; rfl
    rw [dt c1, Bool.not_true, cond_false]
    by_cases c2 : 1 ≤ (b.2.1.length : Int) ∧ (b.2.1.length : Int) ≤ 6
    rotate_left
    · rw [df c2]; rfl
    rw [dt c2, Bool.not_true, cond_false]
    repeat' split
    all_goals first | rfl | (exfalso; omega)
  have hs' := hs
  unfold Sizes np nu at hs'
  rw [slotsB, dt hs, Bool.true_and]
  have lists : ∀ (d kk : Nat), kk + d = 4 → ∀ k, 40000000 * d < k → impl_Book_shapeOk.l2 N k b.2.2.1 kk b = some (allB (listB b) d kk, ()) := by
    intro d
    induction d with
    | zero =>
      intro kk h k hk
      obtain ⟨k, rfl⟩ := fuel hk
      simp (disch := omega) only [impl_Book_shapeOk.l2, cf, allB]
    | succ d ih =>
      intro kk h k hk
      have hkk : kk < 4 := by omega
      have hl := hb.2.1 kk
      unfold Short at hl
      obtain ⟨k, rfl⟩ : ∃ j, k = j + (hd b kk).length * 1 + 1 + 1 := ⟨k - (hd b kk).length - 2, by omega⟩
      have := loop_allk 1 (by decide) (some (false, ())) (hd b kk).length (fun k i => impl_Book_shapeOk.l3 N k kk b.2.2.1 kk (hd b kk) (hd b kk).length i b) (fun j => memB b kk ((hd b kk).getD j 0)) (fun k => impl_Book_shapeOk.l2 N k b.2.2.1 ((kk : Int) + 1) b)
        (fun k => by simp (disch := omega) only [impl_Book_shapeOk.l3, cf, w64])
        (fun k i hi2 => impl_lists_step N b hi hs kk hkk (hd b kk) i k hi2 hl _ rfl b.2.2.1)
        (hd b kk).length 0 k (by omega)
      rw [allB_list _ _ _ _ (by omega), List.drop_zero, show (kk : Int) + 1 = ((kk + 1 : Nat) : Int) by omega, ih (kk + 1) (by omega) k (by omega)] at this
      have goal : impl_Book_shapeOk.l2 N (k + (hd b kk).length * 1 + 1 + 1) b.2.2.1 kk b = cond (decide (((hd b kk).length : Int) > (b.2.2.2.1.length : Int))) (some (false, ())) (impl_Book_shapeOk.l3 N (k + (hd b kk).length * 1 + 1) kk b.2.2.1 kk (hd b kk) (hd b kk).length 0 b) := by
        rcases usz_vals hkk with ⟨hu, hk⟩ | ⟨hu, hk⟩ | ⟨hu, hk⟩ | ⟨hu, hk⟩ <;> subst hk <;>
          simp (disch := omega) only [impl_Book_shapeOk.l2, ct, cf, hd]
      have t0 : ((0 : Nat) : Int) = 0 := rfl
      rw [t0] at this
      rw [goal, this, allB, listB, cnd]
      unfold nu
      by_cases c : ((hd b kk).length : Int) > (b.2.2.2.1.length : Int)
      · rw [if_pos c, df (by omega)]; rfl
      · rw [if_neg c, dt (by omega), Bool.true_and]
        cases (hd b kk).all (memB b kk) <;> rfl
  have l1 := loop_all (nu b) 200000000 (fun k i => impl_Book_shapeOk.l1 N k b.2.2.2.1 b.2.2.2.1.length i b) (ownB b) (listsB b)
    (fun k hk => by
      obtain ⟨k, rfl⟩ := fuel hk
      have := lists 4 0 rfl k (by omega)
      rw [show ((0 : Nat) : Int) = 0 from rfl] at this
      unfold nu
      rw [impl_Book_shapeOk.l1, cf (by omega), this, listsB])
    (fun k i hi2 => by
      have hi' : i < b.2.2.2.1.length := hi2
      have hr := hi.2.2.2.1.at i
      rw [fold_ow] at hr
      obtain ⟨r1, r2⟩ := hr
      simp (disch := omega) only [impl_Book_shapeOk.l1, ct, bnd, w64 (n := (i : Int) + 1), Int.toNat_natCast, fold_ow, impl_isIn_eq N b hs, Option.bind_some, cndn]
      rw [ownB, cnd (p := _ ∧ _)]
      by_cases c : ow b i = 0
      · rw [if_pos c, if_pos ⟨by omega, by omega, fun h => by omega⟩]
      rw [if_neg c]
      by_cases c2 : 0 ≤ ow b i ∧ ow b i ≤ b.1
      · rw [w64 (by omega) (by omega)]
        by_cases c3 : inn b (ow b i - 1).toNat = 0
        · rw [df (fun h => h.2.2 c3), if_neg (fun h => h.2.2 (by omega) c3)]; rfl
        · rw [dt ⟨by omega, by omega, c3⟩, if_pos ⟨c2.1, c2.2, fun _ => c3⟩]; rfl
      · rw [if_neg (fun h => c2 ⟨h.1, h.2.1⟩), df]
        · rfl
        · intro h
          have h1 := h.1
          have h2 := h.2.1
          rw [IntKind.wrap_i64] at h1 h2
          omega)
  have l0 := loop_all b.1.toNat 200001000 (fun k i => impl_Book_shapeOk.l0 N k b.2.2.2.2.1 b.2.2.2.2.1.length i b) (slotB b) (allB (ownB b) (nu b) 0 && listsB b)
    (fun k hk => by
      obtain ⟨k, rfl⟩ : ∃ j, k = j + 1 := ⟨k - 1, by omega⟩
      have := l1 (nu b) 0 k (by omega) (by unfold nu; omega)
      rw [show ((0 : Nat) : Int) = 0 from rfl] at this
      rw [impl_Book_shapeOk.l0, cf (by omega), this])
    (fun k i hi => by
      simp (disch := omega) only [impl_Book_shapeOk.l0, ct, bnd, w64, Int.toNat_natCast, fold_in, fold_ep, impl_within_eq, Option.bind_some, cndn, cndb]
      rw [slotB, cnd (p := _ ∧ _)]
      by_cases c1 : 0 ≤ inn b i ∧ inn b i ≤ 2
      rotate_left
      · rw [df c1, if_neg (c := _ ∧ _) (fun h => c1 ⟨h.1, h.2.1⟩)]; rfl
      rw [dt c1, Bool.not_true, cond_false]
      by_cases c2 : 0 ≤ ep b i ∧ ep b i ≤ 4095
      rotate_left
      · rw [df c2, if_neg (c := _ ∧ _) (fun h => c2 ⟨h.2.2.1, h.2.2.2.1⟩)]; rfl
      rw [dt c2, Bool.not_true, cond_false]
      by_cases c3 : inn b i = 0
      · rw [if_pos c3, if_pos ⟨c1.1, c1.2, c2.1, c2.2, fun _ => c3⟩]
      rw [if_neg c3]
      by_cases c4 : ep b i = 0
      · rw [if_pos c4, if_neg (fun h => c3 (h.2.2.2.2 c4))]
      · rw [if_neg c4, if_pos ⟨c1.1, c1.2, c2.1, c2.2, fun h => (c4 h).elim⟩])
  have := l0 b.1.toNat 0 N (by omega) (by omega)
  rw [show ((0 : Nat) : Int) = 0 from rfl] at this
  simp (disch := omega) only [impl_Book_shapeOk, impl_within_eq, Option.bind_some, w64, cndn]
  rw [dt (by omega), Bool.not_true, cond_false, dt (by omega), Bool.not_true, cond_false, if_pos (by omega), if_pos (by omega), if_pos (by omega), this, Bool.and_assoc]
/-- n units from f on, and how many of some have an owner. -/
def seg (b : Bk) (f n : Nat) : List Int := (b.2.2.2.1.take (f + n)).drop f
def nz (l : List Int) : Nat := l.countP fun x => x != 0
theorem seg_len (b : Bk) (f n : Nat) (h : f + n ≤ nu b) : (seg b f n).length = n := by
  unfold nu at h
  simp only [seg, List.length_drop, List.length_take]; omega
theorem seg_get (b : Bk) (f n j : Nat) (h : f + n ≤ nu b) (hj : j < n) : (seg b f n).getD j 0 = ow b (f + j) := by
  unfold nu at h
  simp only [seg, ow, List.getD_eq_getElem?_getD, List.getElem?_drop, List.getElem?_take]
  rw [if_pos (by omega)]
theorem nz_zero : ∀ (l : List Int), nz l = 0 ↔ ∀ j, j < l.length → l.getD j 0 = 0
  | [] => by simp [nz]
  | x :: r => by
    have ih := nz_zero r
    unfold nz at ih ⊢
    rw [List.countP_cons]
    constructor
    · intro h j hj
      have h1 : List.countP (fun x => x != 0) r = 0 := by omega
      cases j with
      | zero =>
        by_cases c : x = 0
        · simpa using c
        · have : (x != 0) = true := bne_iff_ne.2 c
          rw [this] at h
          simp at h
      | succ j =>
        simp only [List.getD_cons_succ]
        exact ih.1 h1 j (by simpa using hj)
    · intro h
      have h0 : x = 0 := by simpa using h 0 (by simp)
      have h1 := ih.2 (fun j hj => by have := h (j + 1) (by simpa using hj); simpa using this)
      rw [h1, h0]; simp
theorem nz_seg (b : Bk) (f n : Nat) (h : f + n ≤ nu b) : nz (seg b f n) = 0 ↔ ∀ j, j < n → ow b (f + j) = 0 := by
  rw [nz_zero, seg_len b f n h]
  constructor
  · intro g j hj; rw [← seg_get b f n j h hj]; exact g j hj
  · intro g j hj; rw [seg_get b f n j h hj]; exact g j hj
theorem nz_cons (b : Bk) (f n : Nat) (h : f + (n + 1) ≤ nu b) (h0 : ow b f ≠ 0) : nz (seg b f (n + 1)) = nz (seg b (f + 1) n) + 1 := by
  have hl := seg_len b f (n + 1) h
  have e : seg b f (n + 1) = ow b f :: seg b (f + 1) n := by
    have := drop_at (l := seg b f (n + 1)) (i := 0) 0 (by omega)
    rw [List.drop_zero, seg_get b f (n + 1) 0 h (by omega)] at this
    rw [this]
    simp only [Nat.add_zero, seg, List.drop_drop, Nat.zero_add]
    rw [show f + (n + 1) = f + 1 + n by omega]
  rw [e, nz, List.countP_cons, bne_iff_ne.2 h0, if_pos rfl]
  rfl
theorem impl_owned_eq (N : Nat) (hN : Fuel N) (b : Bk) (hb : Bshort b) (f n : Nat) (h : f + n ≤ nu b) : impl_Book_owned N b f ((f + n : Nat) : Int) = some ((nz (seg b f n) : Int), ()) := by
  have hl := seg_len b f n h
  have hsh := hb.2.2.1
  unfold Short at hsh
  have h' := h
  unfold nu at h'
  have main := loop_list 0 (seg b f n) (fun k i a => impl_Book_owned.l0 N k a (seg b f n) (seg b f n).length i) (fun r a => some (a + (nz r : Int), ())) (fun i a => 0 ≤ a ∧ a ≤ i)
    (fun k a g => by
      simp (disch := omega) only [impl_Book_owned.l0, cf, nz, List.countP_nil]
      simp)
    (fun k i a x r hi hx g ih => by
      simp (disch := omega) only [impl_Book_owned.l0, ct, bnd, w64, Int.toNat_natCast, hx, cndn]
      unfold nz
      rw [List.countP_cons]
      by_cases c : x = 0
      · rw [if_pos c, bne_eq_false_iff_eq.2 c, if_neg (by decide), ih a (by omega)]
        rfl
      · rw [if_neg c, bne_iff_ne.2 c, if_pos rfl, ih (a + 1) (by omega)]
        congr 2
        unfold nz
        omega)
    N (by omega) 0 (by omega)
  unfold impl_Book_owned
  rw [dt (by omega), dt (by omega), dt (by omega), dt (by omega), Int.toNat_natCast, Int.toNat_natCast]
  simp only [cond_true]
  rw [Int.zero_add] at main
  exact main
theorem loop_count {R : Type _} (l : List Int) (x : Int) (L : Nat → Int → Int → R) (E : Nat → Int → R) (hend : ∀ k a, L (k + 1) l.length a = E k a)
    (hstep : ∀ k (j : Nat) (a : Int), j < l.length → 0 ≤ a → a ≤ j → L (k + 1) (j : Int) a = L k ((j : Int) + 1) (if l.getD j 0 = x then a + 1 else a)) :
    ∀ d j k a, j + d = l.length → 0 ≤ a → a ≤ (j : Int) → L (k + d + 1) (j : Int) a = E k (a + ((l.drop j).count x : Int)) := by
  intro d
  induction d with
  | zero =>
    intro j k a h h1 h2
    obtain rfl : j = l.length := by omega
    rw [List.drop_length, List.count_nil, Nat.add_zero, hend k a]
    congr 1
    omega
  | succ d ih =>
    intro j k a h h1 h2
    rw [show k + (d + 1) + 1 = (k + d + 1) + 1 by omega, hstep _ j a (by omega) h1 h2, count_drop l x j (by omega)]
    have := ih (j + 1) k (if l.getD j 0 = x then a + 1 else a) (by omega) (by split <;> omega) (by split <;> omega)
    rw [Int.natCast_add] at this
    rw [show ((j : Int) + 1) = (j : Int) + ((1 : Nat) : Int) by omega, this]
    congr 1
    split <;> omega
theorem lists_mem {b : Bk} (h : listsB b = true) {k : Nat} (hk : k < 4) {x : Int} (hx : x ∈ hd b k) : memB b k x = true := by
  have := (allB_iff _ _ _).1 h k (by omega) (by omega)
  rw [listB, Bool.and_eq_true, List.all_eq_true] at this
  exact this.2 x hx
theorem lists_first {b : Bk} (h : listsB b = true) {k : Nat} (hk : k < 4) {u : Nat} (hu : u % usz k ≠ 0) : (hd b k).count ((u : Nat) : Int) = 0 := by
  rw [List.count_eq_zero]
  intro hm
  have := lists_mem h hk hm
  have := (of_decide_eq_true this).2.2.2
  omega
theorem impl_kindOk_eq (N : Nat) (hN : Fuel N) (b : Bk) (hs : Sizes b) (ho : Owners b) (hl : listsB b = true) (hb : Bshort b) (p : Nat) (hp : p < np b) (hk : 1 ≤ pg b p ∧ pg b p ≤ 4) : impl_Book_kindOk N b p = some (tf (RoomsP b p (pg b p - 1).toNat), ()) := by
  have hs' := hs
  unfold Sizes np nu at hs'
  have hp' := hp
  unfold np at hp'
  generalize hkk : (pg b p - 1).toNat = kk
  have hkk4 : kk < 4 := by omega
  have hpk : pg b p - 1 = (kk : Int) := by omega
  have hsh := hb.2.1 kk
  unfold Short at hsh
  have hown := impl_owned_eq N hN b hb (8 * p) 8 (by unfold nu; omega)
  have step : ∀ (k i : Nat), i < 8 → impl_Book_kindOk.l0 N (k + ((hd b kk).length + 2)) kk ((8 * p : Nat) : Int) (((8 * p : Nat) : Int) + (i : Int)) b = cond (roomB b p kk i) (impl_Book_kindOk.l0 N k kk ((8 * p : Nat) : Int) (((8 * p : Nat) : Int) + ((i : Int) + 1)) b) (some (false, ())) := by
    intro k i hi
    have hown := ho (8 * p + i) (by unfold nu; omega)
    have e1 : ((8 * p : Nat) : Int) + (i : Int) = ((8 * p + i : Nat) : Int) := by omega
    have e2 : ((8 * p : Nat) : Int) + ((i : Int) + 1) = ((8 * p + i : Nat) : Int) + 1 := by omega
    rw [e1, e2]
    have hc := loop_count (hd b kk) ((8 * p + i : Nat) : Int) (fun k j a => impl_Book_kindOk.l1 N k kk ((8 * p : Nat) : Int) ((8 * p + i : Nat) : Int) a (hd b kk) (hd b kk).length j b)
      (fun k a => impl_Book_kindOk.l1 N (k + 1) kk ((8 * p : Nat) : Int) ((8 * p + i : Nat) : Int) a (hd b kk) (hd b kk).length (hd b kk).length b) (fun _ _ => rfl)
      (fun k j a hj h1 h2 => by
        simp (disch := omega) only [impl_Book_kindOk.l1, ct, bnd, w64, Int.toNat_natCast, cndb]
        split <;> rfl)
      (hd b kk).length 0 k 0 (by omega) (by omega) (by omega)
    rw [List.drop_zero, Int.zero_add] at hc
    have enter : impl_Book_kindOk.l0 N (k + ((hd b kk).length + 2)) kk ((8 * p : Nat) : Int) ((8 * p + i : Nat) : Int) b = impl_Book_kindOk.l1 N (k + (hd b kk).length + 1) kk ((8 * p : Nat) : Int) ((8 * p + i : Nat) : Int) 0 (hd b kk) (hd b kk).length 0 b := by
      rw [show k + ((hd b kk).length + 2) = k + (hd b kk).length + 1 + 1 by omega, impl_Book_kindOk.l0, w64 (n := ((8 * p : Nat) : Int) + 8) (by omega) (by omega), ct (by omega)]
      rcases usz_vals hkk4 with ⟨hu, hk⟩ | ⟨hu, hk⟩ | ⟨hu, hk⟩ | ⟨hu, hk⟩ <;> subst hk <;>
        simp (disch := omega) only [ct, cf, hd]
    rw [enter]
    rw [show ((0 : Nat) : Int) = 0 from rfl] at hc
    rw [hc]
    generalize hcc : (hd b kk).count ((8 * p + i : Nat) : Int) = c
    have hu0 : (usz kk : Int) ≠ 0 := by rcases usz_vals hkk4 with ⟨hu, hk⟩ | ⟨hu, hk⟩ | ⟨hu, hk⟩ | ⟨hu, hk⟩ <;> omega
    have hmod : ((8 * p + i : Nat) : Int) % (usz kk : Int) = ((i % usz kk : Nat) : Int) := by rw [← usz_dvd hkk4 p i]; omega
    simp (disch := omega) only [impl_Book_kindOk.l1, cf, impl_unitsOf_eq N hkk4, Option.bind_some, tm, hmod, bnd, Int.toNat_natCast, fold_ow, w64]
    have hroom : roomB b p kk i = tf ((i % usz kk ≠ 0 → ow b (8 * p + i) = 0 ∧ c = 0) ∧ (i % usz kk = 0 → 0 < ow b (8 * p + i) ∧ c = 0 ∨ ow b (8 * p + i) = 0 ∧ c = 1)) := by
      unfold roomB RoomP
      rw [hcc]
    rw [hroom]
    by_cases c1 : i % usz kk = 0
    · have t1 : (((i % usz kk : Nat) : Int) == 0) = true := beq_iff_eq.2 (by omega)
      rw [t1, cond_true, Bool.not_true, cond_false]
      by_cases c2 : ow b (8 * p + i) = 0
      · rw [bne_eq_false_iff_eq.2 c2]
        by_cases c3 : c = 1
        · rw [tf_t ⟨fun h => (h c1).elim, fun _ => .inr ⟨c2, c3⟩⟩, dt (p := (c : Int) > 0) (by omega), cf (by omega)]; rfl
        · rw [tf_f (fun h => by have := h.2 c1; omega)]
          by_cases c4 : (c : Int) > 0
          · rw [dt c4, ct (by omega)]; rfl
          · rw [df c4]; rfl
      · rw [bne_iff_ne.2 c2]
        by_cases c3 : c = 0
        · rw [tf_t ⟨fun h => (h c1).elim, fun _ => .inl ⟨by omega, c3⟩⟩, df (p := (c : Int) > 0) (by omega), cf (by omega)]; rfl
        · rw [tf_f (fun h => by have := h.2 c1; omega), dt (p := (c : Int) > 0) (by omega)]; rfl
    · have t1 : (((i % usz kk : Nat) : Int) == 0) = false := beq_eq_false_iff_ne.2 (by omega)
      have hc0 : c = 0 := by rw [← hcc]; exact lists_first hl hkk4 (by rw [usz_dvd hkk4]; exact c1)
      rw [t1, cond_false, Bool.not_false, cond_true, cf (by omega), cndn]
      by_cases c2 : ow b (8 * p + i) = 0
      · rw [if_pos c2, tf_t ⟨fun _ => ⟨c2, hc0⟩, fun h => (c1 h).elim⟩]; rfl
      · rw [if_neg c2, tf_f (fun h => c2 (h.1 c1).1)]; rfl
  have := loop_allk ((hd b kk).length + 2) (by omega) (some (false, ())) 8 (fun k i => impl_Book_kindOk.l0 N k kk ((8 * p : Nat) : Int) (((8 * p : Nat) : Int) + i) b) (roomB b p kk)
    (fun k => some (decide ((nz (seg b (8 * p) 8) : Int) > 0), ()))
    (fun k => by
      rw [impl_Book_kindOk.l0, w64 (by omega) (by omega), cf (by omega), show ((8 * p : Nat) : Int) + 8 = ((8 * p + 8 : Nat) : Int) by omega, hown]
      rfl)
    step 8 0 (N - 8 * ((hd b kk).length + 2) - 1) (by omega)
  rw [show N - 8 * ((hd b kk).length + 2) - 1 + 8 * ((hd b kk).length + 2) + 1 = N by omega, show ((0 : Nat) : Int) = 0 from rfl, Int.add_zero] at this
  have e8 : (p : Int) * 8 = ((8 * p : Nat) : Int) := by omega
  simp (disch := omega) only [impl_Book_kindOk, bnd, Int.toNat_natCast, fold_pg, hpk, w64, e8, this]
  have hz := nz_seg b (8 * p) 8 (by unfold nu; omega)
  unfold RoomsP
  by_cases c1 : allB (roomB b p kk) 8 0 = true
  · rw [c1, cond_true]
    congr 2
    rw [allB_iff] at c1
    refine tf_eq ?_
    rw [decide_eq_true_iff]
    constructor
    · intro h
      refine ⟨fun u hu => tf_iff.1 (c1 u (by omega) (by omega)), Classical.byContradiction fun g => ?_⟩
      have : nz (seg b (8 * p) 8) = 0 := hz.2 (fun j hj => by
        have h1 := ho (8 * p + j) (by unfold nu; omega)
        by_cases h2 : ow b (8 * p + j) = 0
        · exact h2
        · exact (g ⟨j, hj, by omega⟩).elim)
      omega
    · intro ⟨_, u, h1, h2⟩
      by_cases g : nz (seg b (8 * p) 8) = 0
      · have := hz.1 g u h1
        omega
      · omega
  · rw [tf_f]
    · cases h : allB (roomB b p kk) 8 0
      · rfl
      · exact (c1 h).elim
    · intro h
      exact c1 ((allB_iff _ _ _).2 fun j _ hj => tf_iff.2 (h.1 j (by omega)))
/-- The page at which a walk stands is no further page of a room before it. -/
def Apart (b : Bk) (p : Nat) : Prop := ∀ q, p = q + 1 → ¬ (pg b (back b q) > 8 ∧ (back b q : Int) + pg b (back b q) - 8 > p)
theorem back_self {b : Bk} {p : Nat} (h : pg b p ≠ 7) : back b p = p := by
  cases p with
  | zero => rfl
  | succ p => rw [back, if_neg h]
theorem back_run {b : Bk} {p : Nat} (h : pg b p ≠ 7) : ∀ i, (∀ j, 1 ≤ j → j ≤ i → pg b (p + j) = 7) → back b (p + i) = p
  | 0, _ => back_self h
  | i + 1, g => by
    rw [show p + (i + 1) = (p + i) + 1 by omega, back, if_pos (by have := g (i + 1) (by omega) (Nat.le_refl _); rwa [show p + (i + 1) = (p + i) + 1 by omega] at this)]
    exact back_run h i (fun j h1 h2 => g j h1 (by omega))
theorem apart_next {b : Bk} {p : Nat} (h : pg b p ≤ 8) (h7 : pg b p ≠ 7) : Apart b (p + 1) := by
  intro q hq
  obtain rfl : p = q := by omega
  rw [back_self h7]
  omega
theorem rest_not {b : Bk} {p : Nat} (h : Apart b p) (h7 : pg b p = 7) : ¬ RestP b p := by
  intro ⟨h1, h2, _⟩
  cases p with
  | zero => rw [back] at h1; omega
  | succ q =>
    rw [back, if_pos h7] at h1 h2
    exact h q rfl ⟨h1, h2⟩
/-- All pages from one on are right. -/
def From (b : Bk) (p : Nat) : Prop := ∀ q, p ≤ q → q < np b → PageP b q
theorem from_step {b : Bk} {p : Nat} (hp : p < np b) : From b p ↔ PageP b p ∧ From b (p + 1) :=
  ⟨fun h => ⟨h p (Nat.le_refl _) hp, fun q h1 h2 => h q (by omega) h2⟩, fun ⟨h1, h2⟩ q g1 g2 => by
    by_cases e : q = p
    · subst e; exact h1
    · exact h2 q (by omega) g2⟩
theorem from_end {b : Bk} {p : Nat} (hp : np b ≤ p) : From b p := fun q h1 h2 => by omega
theorem page_wide {b : Bk} {p : Nat} (h0 : pg b p ≠ 0) (h1 : ¬ (1 ≤ pg b p ∧ pg b p ≤ 4)) (h7 : pg b p ≠ 7) : PageP b p ↔ WideP b p :=
  ⟨fun h => h.2.2.2 h0 h1 h7, fun h => ⟨fun g => (h0 g).elim, fun g => (h1 g).elim, fun g => (h7 g).elim, fun _ _ _ => h⟩⟩
/-- The pages that follow in a room of whole pages are right if they have no owners. -/
theorem page_rest {b : Bk} {p : Nat} (h7 : pg b p ≠ 7) (n : Nat) (hn : pg b p = 8 + n) (i : Nat) (h1 : 1 ≤ i) (h2 : i < n) (hr : ∀ j, 1 ≤ j → j < n → pg b (p + j) = 7) : PageP b (p + i) ↔ FreeP b (p + i) 0 := by
  have e7 := hr i h1 h2
  have eb := back_run h7 i (fun j g1 g2 => hr j g1 (by omega))
  constructor
  · intro h
    exact (h.2.2.1 e7).2.2
  · intro h
    refine ⟨fun g => by omega, fun g => by omega, fun _ => ⟨?_, ?_, h⟩, fun _ _ g => (g e7).elim⟩
    · rw [eb]; omega
    · rw [eb]; omega
theorem wide_split {b : Bk} {p : Nat} (n : Nat) (hp : p + n ≤ np b) (h0 : 2 ≤ n) (h4 : n ≤ 4) (hn : pg b p = 8 + n) (ho : ow b (8 * p) ≠ 0) (hr : ∀ j, 1 ≤ j → j < n → pg b (p + j) = 7) :
    From b p ↔ (∀ j, 1 ≤ j → j < 8 * n → ow b (8 * p + j) = 0) ∧ From b (p + n) := by
  have h7 : pg b p ≠ 7 := by omega
  have hw := page_wide (b := b) (p := p) (by omega) (by omega) h7
  constructor
  · intro h
    refine ⟨fun j h1 h2 => ?_, fun q g1 g2 => h q (by omega) g2⟩
    by_cases c : j < 8
    · exact (hw.1 (h p (Nat.le_refl _) (by omega))).2.2.2.2.1 j h1 c
    · have := (page_rest h7 n hn (j / 8) (by omega) (by omega) hr).1 (h (p + j / 8) (by omega) (by omega)) (j % 8) (by omega) (by omega)
      rw [show 8 * p + j = 8 * (p + j / 8) + j % 8 by omega]
      exact this
  · intro ⟨h1, h2⟩ q g1 g2
    by_cases e : q = p
    · subst e
      exact hw.2 ⟨by omega, by omega, by omega, ho, fun u a b => h1 u a (by omega), fun i a b => hr i a (by omega)⟩
    · by_cases c : q < p + n
      · obtain ⟨i, rfl⟩ : ∃ i, q = p + i := ⟨q - p, by omega⟩
        refine (page_rest h7 n hn i (by omega) (by omega) hr).2 fun u _ hu => ?_
        rw [show 8 * (p + i) + u = 8 * p + (8 * i + u) by omega]
        exact h1 _ (by omega) (by omega)
      · exact h2 q (by omega) g2
theorem impl_BookOk_walk (N : Nat) (hN : Fuel N) (b : Bk) (hi : Bi b) (hs : Sizes b) (ho : Owners b) (hl : listsB b = true) (hb : Bshort b) :
    ∀ (d p k : Nat), p + d = np b → 100 * d < k → Apart b p → impl_BookOk.l0 N k p b = some (tf (From b p), ()) := by
  have hs' := hs
  unfold Sizes at hs'
  intro d
  induction d using Nat.strongRecOn with
  | ind d ih =>
    intro p k hpd hk ha
    obtain ⟨k, rfl⟩ := fuel hk
    by_cases hp : p < np b
    rotate_left
    · unfold np at hp
      rw [impl_BookOk.l0, cf (by omega), tf_t (from_end (by unfold np; omega))]
    have hp' := hp
    unfold np at hp'
    have hr := hi.2.1.at p
    rw [fold_pg] at hr
    obtain ⟨r1, r2⟩ := hr
    have hnp : np b = b.2.1.length := rfl
    have hnu : nu b = b.2.2.2.1.length := rfl
    have e8 : (p : Int) * 8 = ((8 * p : Nat) : Int) := by omega
    have e88 : ((8 * p : Nat) : Int) + 8 = ((8 * p + 8 : Nat) : Int) := by omega
    have e1 : (p : Int) + 1 = ((p + 1 : Nat) : Int) := by omega
    have hown := impl_owned_eq N hN b hb (8 * p) 8 (by omega)
    rw [impl_BookOk.l0, ct (by omega), bnd (by omega) (by omega), Int.toNat_natCast, fold_pg, w64 (n := (p : Int) * 8) (by omega) (by omega), w64 (n := (p : Int) * 8 + 8) (by omega) (by omega), w64 (n := (p : Int) + 1) (by omega) (by omega), e8, e88, e1, hown]
    simp only [impl_isKind, impl_within_eq, Option.bind_some]
    rw [cndb]
    by_cases c0 : pg b p = 0
    · rw [if_pos c0, ih (d - 1) (by omega) (p + 1) k (by omega) (by omega) (apart_next (by omega) (by omega))]
      have hz := nz_seg b (8 * p) 8 (by omega)
      have hst := from_step hp
      have hpp : PageP b p ↔ FreeP b p 0 := ⟨fun h => h.1 c0, fun h => ⟨fun _ => h, fun g => by omega, fun g => by omega, fun g => (g c0).elim⟩⟩
      by_cases c : nz (seg b (8 * p) 8) = 0
      · rw [cf (by omega)]
        congr 2
        exact tf_congr ⟨fun h => hst.2 ⟨hpp.2 fun u _ hu => hz.1 c u hu, h⟩, fun h => (hst.1 h).2⟩
      · rw [ct (by omega), tf_f]
        intro h
        exact c (hz.2 fun j hj => hpp.1 (hst.1 h).1 j (by omega) hj)
    rw [if_neg c0]
    by_cases c1 : 1 ≤ pg b p ∧ pg b p ≤ 4
    · rw [dt c1, cond_true, impl_kindOk_eq N hN b hs ho hl hb p hp c1, ih (d - 1) (by omega) (p + 1) k (by omega) (by omega) (apart_next (by omega) (by omega))]
      have hst := from_step hp
      have hpp : PageP b p ↔ RoomsP b p (pg b p - 1).toNat := ⟨fun h => h.2.1 c1, fun h => ⟨fun g => by omega, fun _ => h, fun g => by omega, fun _ g => (g c1).elim⟩⟩
      simp only [Option.bind_some]
      by_cases c : RoomsP b p (pg b p - 1).toNat
      · rw [tf_t c, Bool.not_true, cond_false]
        congr 2
        exact tf_congr ⟨fun h => hst.2 ⟨hpp.2 c, h⟩, fun h => (hst.1 h).2⟩
      · rw [tf_f c, tf_f (fun h => c (hpp.1 (hst.1 h).1))]; rfl
    rw [df c1, cond_false]
    by_cases c2 : 10 ≤ pg b p ∧ pg b p ≤ 12
    rotate_left
    · have hnot : ¬ From b p := by
        intro h
        have hp1 := (from_step hp).1 h |>.1
        by_cases c7 : pg b p = 7
        · exact rest_not ha c7 (hp1.2.2.1 c7)
        · have := hp1.2.2.2 c0 c1 c7
          exact c2 ⟨this.1, this.2.1⟩
      rw [tf_f hnot, df]
      · rfl
      · rw [IntKind.wrap_i64]; omega
    obtain ⟨n, hn⟩ : ∃ n : Nat, pg b p = 8 + n := ⟨(pg b p - 8).toNat, by omega⟩
    have w1 : IntKind.i64.wrap (pg b p - 8) = (n : Int) := by rw [w64 (by omega) (by omega)]; omega
    have w2 : IntKind.i64.wrap ((b.2.1.length : Int) - (p : Int)) = (b.2.1.length : Int) - (p : Int) := w64 (by omega) (by omega)
    have w3 : IntKind.i64.wrap (((8 * p : Nat) : Int) + IntKind.i64.wrap ((n : Int) * 8)) = ((8 * p + 8 * n : Nat) : Int) := by rw [w64 (n := (n : Int) * 8) (by omega) (by omega), w64 (by omega) (by omega)]; omega
    have w4 : IntKind.i64.wrap ((n : Int) - 1) = (n : Int) - 1 := w64 (by omega) (by omega)
    rw [w1, w2, w3, w4, dt (by omega), Bool.not_true, cond_false]
    have h7 : pg b p ≠ 7 := by omega
    have hw := page_wide (b := b) (p := p) c0 c1 h7
    by_cases c3 : (n : Int) > (b.2.1.length : Int) - (p : Int)
    · rw [ct c3, tf_f]
      intro h
      have := (hw.1 ((from_step hp).1 h).1).2.2.1
      omega
    rw [cf c3, bnd (by omega) (by omega), Int.toNat_natCast, fold_ow, cndb]
    by_cases c4 : ow b (8 * p) = 0
    · rw [if_pos c4, tf_f]
      intro h
      exact (hw.1 ((from_step hp).1 h).1).2.2.2.1 c4
    have hown2 := impl_owned_eq N hN b hb (8 * p) (8 * n) (by omega)
    rw [if_neg c4, hown2]
    simp only [Option.bind_some]
    -- the walk over the further pages
    have follow : ∀ (e i k : Nat), i + e = n - 1 → e < k → impl_BookOk.l1 N k ((p + i : Nat) : Int) ((n : Int) - 1) (i : Int) b = cond (allB (fun j => decide (pg b (p + 1 + j) = 7)) e i) (impl_BookOk.l0 N (k - e - 1) ((p + n : Nat) : Int) b) (some (false, ())) := by
      intro e
      induction e with
      | zero =>
        intro i k h1 h2
        obtain ⟨k, rfl⟩ := fuel h2
        rw [impl_BookOk.l1, cf (by omega), allB, cond_true, w64 (by omega) (by omega)]
        rw [show ((p + i : Nat) : Int) + 1 = ((p + n : Nat) : Int) by omega]
        rfl
      | succ e ihe =>
        intro i k h1 h2
        obtain ⟨k, rfl⟩ := fuel h2
        have w5 : IntKind.i64.wrap (((p + i : Nat) : Int) + 1) = ((p + (i + 1) : Nat) : Int) := by rw [w64 (by omega) (by omega)]; omega
        have w6 : IntKind.i64.wrap ((i : Int) + 1) = ((i + 1 : Nat) : Int) := by rw [w64 (by omega) (by omega)]; omega
        rw [impl_BookOk.l1, ct (by omega), w5, w6, bnd (by omega) (by omega), Int.toNat_natCast, fold_pg, cndn, allB, show p + (i + 1) = p + 1 + i by omega]
        by_cases c : pg b (p + 1 + i) = 7
        · rw [if_pos c, dt c, Bool.true_and, show p + 1 + i = p + (i + 1) by omega, ihe (i + 1) k (by omega) (by omega), show k + 1 - (e + 1) - 1 = k - e - 1 by omega]
        · rw [if_neg c, df c]; rfl
    have hz := nz_seg b (8 * p + 1) (8 * n - 1) (by omega)
    have hcons := nz_cons b (8 * p) (8 * n - 1) (by omega) c4
    rw [show 8 * n - 1 + 1 = 8 * n by omega] at hcons
    by_cases c7 : allB (fun j => decide (pg b (p + 1 + j) = 7)) (n - 1) 0 = true
    · have hrun : ∀ j, 1 ≤ j → j < n → pg b (p + j) = 7 := by
        intro j h1 h2
        have := of_decide_eq_true ((allB_iff _ _ _).1 c7 (j - 1) (by omega) (by omega))
        rwa [show p + 1 + (j - 1) = p + j by omega] at this
      have hsplit := wide_split n (by omega) (by omega) (by omega) hn c4 hrun
      have hap : Apart b (p + n) := by
        intro q hq
        have eb := back_run h7 (n - 1) (fun j g1 g2 => hrun j g1 (by omega))
        rw [show p + (n - 1) = q by omega] at eb
        rw [eb]
        omega
      have hf := follow (n - 1) 0 k (by omega) (by omega)
      rw [c7, cond_true, ih (d - n) (by omega) (p + n) _ (by omega) (by omega) hap, Nat.add_zero, show ((0 : Nat) : Int) = 0 from rfl] at hf
      rw [hf]
      by_cases c : nz (seg b (8 * p) (8 * n)) = 1
      · rw [cndn, if_pos (by omega)]
        congr 2
        refine tf_congr ⟨fun h => hsplit.2 ⟨fun j g1 g2 => ?_, h⟩, fun h => (hsplit.1 h).2⟩
        have := hz.1 (by omega) (j - 1) (by omega)
        rwa [show 8 * p + 1 + (j - 1) = 8 * p + j by omega] at this
      · rw [cndn, if_neg (by omega), tf_f]
        intro h
        have : nz (seg b (8 * p + 1) (8 * n - 1)) = 0 := hz.2 fun j hj => by
          have := (hsplit.1 h).1 (j + 1) (by omega) (by omega)
          rwa [show 8 * p + 1 + j = 8 * p + (j + 1) by omega]
        omega
    · have hf := follow (n - 1) 0 k (by omega) (by omega)
      have c7' : allB (fun j => decide (pg b (p + 1 + j) = 7)) (n - 1) 0 = false := by
        cases h : allB (fun j => decide (pg b (p + 1 + j) = 7)) (n - 1) 0
        · rfl
        · exact (c7 h).elim
      rw [c7', cond_false, Nat.add_zero, show ((0 : Nat) : Int) = 0 from rfl] at hf
      rw [hf, tf_f]
      · cases ((nz (seg b (8 * p) (8 * n)) : Int) != 1) <;> rfl
      · intro h
        refine c7 ((allB_iff _ _ _).2 fun j h1 h2 => dt ?_)
        have := (hw.1 ((from_step hp).1 h).1).2.2.2.2.2 (j + 1) (by omega) (by omega)
        rwa [show p + (j + 1) = p + 1 + j by omega] at this
theorem impl_BookOk_eq (N : Nat) (hN : Fuel N) (b : Bk) (hi : Bi b) (hb : Bshort b) : impl_BookOk N b = some (bookOk b, ()) := by
  unfold impl_BookOk bookOk BookP
  rw [impl_shapeOk_eq N hN b hi hb]
  simp only [Option.bind_some]
  cases h1 : slotsB b
  · rw [tf_f (fun h => by cases h.1)]; rfl
  have hs := slotsB_sizes h1
  have ho := slotsB_owners h1
  cases h2 : listsB b
  · rw [tf_f (fun h => by cases h.2.1)]; rfl
  have hs' := hs
  unfold Sizes at hs'
  have := impl_BookOk_walk N hN b hi hs ho h2 hb (np b) 0 N (by omega) (by omega) (fun q h => by omega)
  rw [show ((0 : Nat) : Int) = 0 from rfl] at this
  rw [Bool.and_self, Bool.not_true, cond_false, this]
  congr 2
  exact tf_congr ⟨fun h => ⟨by trivial, by trivial, fun p hp => h p (by omega) hp⟩, fun h q _ hq => h.2.2 q hq⟩
abbrev H4 := List Int × List Int × List Int × List Int
def sz4 (h : H4) : Int := h.1.length + (h.2.1.length + (h.2.2.1.length + (h.2.2.2.length + 0)))
def szB (b : Bk) : Int := b.2.1.length + (sz4 b.2.2.1 + (b.2.2.2.1.length + (b.2.2.2.2.1.length + (b.2.2.2.2.2.length + 0))))
theorem sz4_ge (a : H4) : 0 ≤ sz4 a := by unfold sz4; omega
theorem hd_len (b : Bk) (k : Nat) : (hd b k).length ≤ sz4 b.2.2.1 := by
  unfold sz4
  match k with
  | 0 => show ((b.2.2.1.1).length : Int) ≤ _; omega
  | 1 => show ((b.2.2.1.2.1).length : Int) ≤ _; omega
  | 2 => show ((b.2.2.1.2.2.1).length : Int) ≤ _; omega
  | _ + 3 => show ((b.2.2.1.2.2.2).length : Int) ≤ _; omega
theorem Bshort.of {b : Bk} (h : szB b ≤ 1048576) : Bshort b := by
  have h4 := sz4_ge b.2.2.1
  unfold szB at h
  refine ⟨by unfold Short; omega, fun k => ?_, by unfold Short; omega, by unfold Short; omega, by unfold Short; omega⟩
  have := hd_len b k
  unfold Short; omega
theorem eqIntSA4_eq (N : Nat) (hN : Fuel N) (a : H4) (h0 : Short a.1) (h1 : Short a.2.1) (h2 : Short a.2.2.1) (h3 : Short a.2.2.2) : laws_eqIntSA4 N a a = some (true, ()) := by
  have e : laws_eqIntSA4 N a a = laws_eqIntSA4.l0 N N 0 a a := rfl
  rw [e]
  obtain ⟨k, hk⟩ : ∃ k, N = k + 5 := ⟨N - 5, by unfold Fuel at hN; omega⟩
  have e2 : laws_eqIntSA4.l0 N N 0 a a = laws_eqIntSA4.l0 N (k + 5) 0 a a := by rw [← hk]
  rw [e2]
  rw [laws_eqIntSA4.l0]
  simp (disch := omega) only [ct, cf, w64, decide_true, decide_false, cond_true, cond_false, eqIntS_eq N hN _ h0, eqIntS_eq N hN _ h1, eqIntS_eq N hN _ h2, eqIntS_eq N hN _ h3, Option.bind_some, Bool.not_true]
  rw [laws_eqIntSA4.l0]
  simp (disch := omega) only [ct, cf, w64, decide_true, decide_false, cond_true, cond_false, eqIntS_eq N hN _ h0, eqIntS_eq N hN _ h1, eqIntS_eq N hN _ h2, eqIntS_eq N hN _ h3, Option.bind_some, Bool.not_true]
  rw [laws_eqIntSA4.l0]
  simp (disch := omega) only [ct, cf, w64, decide_true, decide_false, cond_true, cond_false, eqIntS_eq N hN _ h0, eqIntS_eq N hN _ h1, eqIntS_eq N hN _ h2, eqIntS_eq N hN _ h3, Option.bind_some, Bool.not_true]
  rw [laws_eqIntSA4.l0]
  simp (disch := omega) only [ct, cf, w64, decide_true, decide_false, cond_true, cond_false, eqIntS_eq N hN _ h0, eqIntS_eq N hN _ h1, eqIntS_eq N hN _ h2, eqIntS_eq N hN _ h3, Option.bind_some, Bool.not_true]
  rw [laws_eqIntSA4.l0]
  simp (disch := omega) only [ct, cf, w64, decide_true, decide_false, cond_true, cond_false, eqIntS_eq N hN _ h0, eqIntS_eq N hN _ h1, eqIntS_eq N hN _ h2, eqIntS_eq N hN _ h3, Option.bind_some, Bool.not_true]
theorem eqBook_eq (N : Nat) (hN : Fuel N) (b : Bk) (h : Bshort b) : laws_eqBook N b b = some (true, ()) := by
  obtain ⟨g0, g1, g2, g3, g4⟩ := h
  simp only [laws_eqBook, bne_self_eq_false, cond_false, eqIntS_eq N hN _ g0, eqIntSA4_eq N hN b.2.2.1 (g1 0) (g1 1) (g1 2) (g1 3), eqIntS_eq N hN _ g2, eqIntS_eq N hN _ g3, eqIntS_eq N hN _ g4, Option.bind_some, Bool.not_true]
theorem BookP.sizes {b : Bk} (h : BookP b) : Sizes b := slotsB_sizes h.1
theorem BookP.dims {b : Bk} (h : BookP b) : 1 ≤ np b ∧ np b ≤ 6 ∧ nu b = np b * 8 ∧ 1 ≤ b.1 ∧ b.1 ≤ 4 := by
  have := h.sizes
  unfold Sizes at this
  omega
theorem BookP.page {b : Bk} (h : BookP b) {p : Nat} (hp : p < np b) : PageP b p := h.2.2 p hp
theorem BookP.cases {b : Bk} (h : BookP b) {p : Nat} (hp : p < np b) : pg b p = 0 ∨ (1 ≤ pg b p ∧ pg b p ≤ 4) ∨ pg b p = 7 ∨ (10 ≤ pg b p ∧ pg b p ≤ 12) := by
  have := h.page hp
  by_cases h0 : pg b p = 0
  · exact .inl h0
  by_cases h1 : 1 ≤ pg b p ∧ pg b p ≤ 4
  · exact .inr (.inl h1)
  by_cases h7 : pg b p = 7
  · exact .inr (.inr (.inl h7))
  · have := this.2.2.2 h0 h1 h7
    exact .inr (.inr (.inr ⟨this.1, this.2.1⟩))
theorem BookP.wide {b : Bk} (h : BookP b) {p : Nat} (hp : p < np b) (hw : 10 ≤ pg b p) : WideP b p := by
  rcases h.cases hp with h0 | h1 | h7 | h8
  · omega
  · omega
  · omega
  · exact (h.page hp).2.2.2 (by omega) (by omega) (by omega)
/-- The size of the room that begins at a unit, or 0. -/
def room (b : Bk) (u : Nat) : Int := if ow b u = 0 then 0 else if 1 ≤ pg b (u / 8) ∧ pg b (u / 8) ≤ 4 then (usz (pg b (u / 8) - 1).toNat : Int) else (pg b (u / 8) - 8) * 8
/-- A sum over the first numbers. -/
def sm (f : Nat → Int) : Nat → Int
  | 0 => 0
  | n + 1 => sm f n + f n
theorem sm_congr {f g : Nat → Int} : ∀ n, (∀ i, i < n → f i = g i) → sm f n = sm g n
  | 0, _ => rfl
  | n + 1, h => by rw [sm, sm, sm_congr n (fun i hi => h i (by omega)), h n (by omega)]
theorem sm_add (f g : Nat → Int) : ∀ n, sm (fun i => f i + g i) n = sm f n + sm g n
  | 0 => rfl
  | n + 1 => by simp only [sm, sm_add f g n]; omega
theorem sm_le (f : Nat → Int) (c : Int) : ∀ n, (∀ i, i < n → 0 ≤ f i ∧ f i ≤ c) → 0 ≤ sm f n ∧ sm f n ≤ c * n
  | 0, _ => by simp [sm]
  | n + 1, h => by
    have h1 := sm_le f c n (fun i hi => h i (by omega))
    have h2 := h n (by omega)
    have : c * ((n + 1 : Nat) : Int) = c * n + c := by rw [show ((n + 1 : Nat) : Int) = (n : Int) + 1 by omega, Int.mul_add, Int.mul_one]
    rw [sm, this]; omega
theorem sm_zero : ∀ n, sm (fun _ => 0) n = 0
  | 0 => rfl
  | n + 1 => by rw [sm, sm_zero n]; rfl
/-- A count is a sum over the numbers below a bound. -/
theorem count_sm (n : Nat) : ∀ (l : List Int), (∀ x ∈ l, 0 ≤ x ∧ x < n) → (l.length : Int) = sm (fun u => (l.count ((u : Nat) : Int) : Int)) n
  | [], _ => by simp only [List.count_nil, List.length_nil]; exact (sm_zero n).symm
  | x :: r, h => by
    have h1 := count_sm n r (fun y hy => h y (List.mem_cons_of_mem _ hy))
    have h2 := h x (List.mem_cons_self)
    have e : ∀ u : Nat, (((x :: r).count ((u : Nat) : Int) : Nat) : Int) = (r.count ((u : Nat) : Int) : Int) + (if u = x.toNat then 1 else 0) := by
      intro u
      rw [List.count_cons]
      by_cases c : x = (u : Int)
      · rw [if_pos (by simp [c]), if_pos (by omega)]; omega
      · rw [if_neg (by simp [c]), if_neg (by omega)]; omega
    have one : ∀ m, sm (fun u => if u = x.toNat then 1 else 0) m = if x.toNat < m then 1 else 0 := by
      intro m
      induction m with
      | zero => rfl
      | succ m ih =>
        rw [sm, ih]
        by_cases c : m = x.toNat
        · rw [if_pos c, if_neg (by omega), if_pos (by omega)]; rfl
        · rw [if_neg c]
          by_cases c2 : x.toNat < m
          · rw [if_pos c2, if_pos (by omega)]; rfl
          · rw [if_neg c2, if_neg (by omega)]; rfl
    rw [sm_congr n (fun u _ => e u), sm_add, one, if_pos (by omega), ← h1, List.length_cons]
    omega
theorem BookP.mem {b : Bk} (h : BookP b) {k : Nat} (hk : k < 4) {x : Int} (hx : x ∈ hd b k) : 0 ≤ x ∧ x < nu b ∧ pg b (x / 8).toNat = k + 1 := by
  have := of_decide_eq_true (lists_mem h.2.1 hk hx)
  exact ⟨this.1, this.2.1, this.2.2.1⟩
theorem BookP.hd_len {b : Bk} (h : BookP b) {k : Nat} (hk : k < 4) : (hd b k).length ≤ nu b := by
  have := (allB_iff _ 4 0).1 h.2.1 k (by omega) (by omega)
  rw [listB, Bool.and_eq_true] at this
  exact of_decide_eq_true this.1
def FieldsP (c : Cfg) (g : Gst) : Prop :=
  match g with
  | (_, slot, epoch, _, _, pc, k, n, seq, next, who, whoE, _, time, _, _, _, _, snap, plan, _) =>
    0 ≤ slot ∧ slot < c.1 ∧ 0 ≤ epoch ∧ epoch ≤ 4095 ∧ 0 ≤ next ∧ next ≤ 4095 ∧ 0 ≤ pc ∧ pc ≤ 26 ∧ 0 ≤ seq ∧ seq ≤ 1000001 ∧ 0 ≤ who ∧ who ≤ 7 ∧ 0 ≤ whoE ∧ whoE ≤ 4095 ∧
    0 ≤ n ∧ n ≤ 20 ∧ 0 ≤ k ∧ k ≤ house c ∧ (snap.length : Int) ≤ house c ∧ (plan.length : Int) ≤ 20 ∧ 0 ≤ time ∧ time ≤ 1048575
def PlaceP (c : Cfg) (g : Gst) : Prop :=
  match g with
  | (_, _, _, _, (_, _, oa, _), pc, k, n, _, _, who, _, own, _, _, _, _, _, snap, plan, _) =>
    (own = true → 23 ≤ pc ∧ pc ≤ 25) ∧ (pc = 11 → (snap.length : Int) = k ∧ k < house c) ∧ (pc = 12 → (snap.length : Int) = house c ∧ 0 ≤ oa ∧ oa < c.1) ∧ (16 ≤ pc ∧ pc ≤ 21 → who < c.1) ∧
    (pc = 13 ∨ pc = 14 → k ≤ plan.length) ∧ (22 ≤ pc ∧ pc ≤ 24 → 1 ≤ k ∧ k ≤ n ∧ who < c.1 ∧ (own = true → n = plan.length))
def GuestP (c : Cfg) (g : Gst) : Prop :=
  Plat c ∧ (g.2.2.2.1 = true ↔ g.2.2.2.2.2.1 ≠ 0) ∧ (g.2.2.2.1 = true → g.2.2.2.2.1.2.1 = g.2.1) ∧ FieldsP c g ∧ PlaceP c g
noncomputable def guestOk (c : Cfg) (g : Gst) : Bool := tf (GuestP c g)
theorem seqF {p : Prop} [Decidable p] {r : Option (Bool × Unit)} (h : ¬ p → r = some (false, ())) : cond (decide p) (some (false, ())) r = some (false, ()) := by
  by_cases c : p
  · rw [ct c]
  · rw [cf c]; exact h c
theorem seqT {p : Prop} [Decidable p] {r : Option (Bool × Unit)} (h : p → r = some (false, ())) : cond (decide p) r (some (false, ())) = some (false, ()) := by
  by_cases c : p
  · rw [ct c]; exact h c
  · rw [cf c]
theorem seqN {p : Prop} [Decidable p] {r : Option (Bool × Unit)} (h : p → r = some (false, ())) : cond (!decide p) (some (false, ())) r = some (false, ()) := by
  by_cases c : p
  · rw [dt c]; exact h c
  · rw [df c]; rfl
theorem bq {x y : Int} : (x == y) = decide (x = y) := by by_cases h : x = y <;> simp [h]
theorem nbq {x y : Int} : (x != y) = decide (¬ x = y) := by by_cases h : x = y <;> simp [h]
theorem leafF {p : Prop} [Decidable p] (h : ¬ p) : (some (decide p, ()) : Option (Bool × Unit)) = some (false, ()) := by rw [df h]
theorem spec_l6Fields_eq (N : Nat) {c : Cfg} (h : Plat c) (g : Gst) : spec_l6Fields N c g = some (tf (FieldsP c g), ()) := by
  obtain ⟨up, slot, epoch, busy, ⟨o1, o2, o3, o4⟩, pc, k, n, seq, next, who, whoE, own, time, was, door, beat, entry, snap, plan, x1, x2, x3⟩ := g
  simp only [spec_l6Fields, spec_l2House_eq N h, Option.bind_some, FieldsP]
  generalize house c = hh
  by_cases g : 0 ≤ slot ∧ slot < c.1 ∧ 0 ≤ epoch ∧ epoch ≤ 4095 ∧ 0 ≤ next ∧ next ≤ 4095 ∧ 0 ≤ pc ∧ pc ≤ 26 ∧ 0 ≤ seq ∧ seq ≤ 1000001 ∧ 0 ≤ who ∧ who ≤ 7 ∧ 0 ≤ whoE ∧ whoE ≤ 4095 ∧
    0 ≤ n ∧ n ≤ 20 ∧ 0 ≤ k ∧ k ≤ hh ∧ (snap.length : Int) ≤ hh ∧ (plan.length : Int) ≤ 20 ∧ 0 ≤ time ∧ time ≤ 1048575
  · rw [tf_t g]
    obtain ⟨g1, g2, g3, g4, g5, g6, g7, g8, g9, g10, g11, g12, g13, g14, g15, g16, g17, g18, g19, g20, g21, g22⟩ := g
    simp (disch := omega) only [ct, cf]
    rw [dt (by omega)]
  · rw [tf_f g]
    repeat (first | refine seqF fun _ => ?_ | refine seqT fun _ => ?_)
    exact leafF fun _ => g (by omega)
theorem spec_l6Place_eq (N : Nat) {c : Cfg} (h : Plat c) (g : Gst) (hf : FieldsP c g) : spec_l6Place N c g = some (tf (PlaceP c g), ()) := by
  obtain ⟨up, slot, epoch, busy, ⟨o1, o2, o3, o4⟩, pc, k, n, seq, next, who, whoE, own, time, was, door, beat, entry, snap, plan, x1, x2, x3⟩ := g
  simp only [spec_l6Place, spec_l2House_eq N h, Option.bind_some, PlaceP, bq, nbq]
  simp only [FieldsP] at hf
  generalize house c = hh at hf ⊢
  obtain ⟨g1, g2, g3, g4, g5, g6, g7, g8, g9, g10, g11, g12, g13, g14, g15, g16, g17, g18, g19, g20, g21, g22⟩ := hf
  have hc : pc = 11 ∨ pc = 12 ∨ pc = 13 ∨ pc = 14 ∨ (16 ≤ pc ∧ pc ≤ 21) ∨ pc = 22 ∨ pc = 23 ∨ pc = 24 ∨ pc = 25 ∨ pc < 11 ∨ pc = 15 ∨ pc = 26 := by omega
  cases own
  all_goals
    simp only [cond_true, cond_false, Bool.not_true, Bool.not_false]
    rcases hc with hc | hc | hc | hc | hc | hc | hc | hc | hc | hc | hc | hc
    all_goals
      simp (disch := omega) only [ct, cf]
      try simp only [cnd]
      repeat' split
      all_goals
        refine congrArg (fun b => some (b, ())) (tf_eq ?_)
        simp only [decide_eq_true_eq, Bool.false_eq_true, reduceCtorEq, false_implies, true_and, and_true, true_implies, false_iff, true_iff]
        omega
theorem spec_GuestOk_eq (N : Nat) (c : Cfg) (g : Gst) : spec_GuestOk N c g = some (guestOk c g, ()) := by
  unfold spec_GuestOk guestOk
  rw [spec_PlatOk_eq]
  simp only [Option.bind_some]
  by_cases h : Plat c
  rotate_left
  · rw [df h, tf_f (fun q => h q.1)]; rfl
  rw [dt h, Bool.not_true, cond_false, spec_l6Fields_eq N h]
  simp only [Option.bind_some]
  have hpl : FieldsP c g → spec_l6Place N c g = some (tf (PlaceP c g), ()) := spec_l6Place_eq N h g
  by_cases hf : FieldsP c g
  · simp only [tf_t hf, cond_true, hpl hf, Option.bind_some, bq, nbq]
    rw [GuestP]
    generalize g.2.2.2.2.2.1 = pc
    generalize g.2.2.2.2.1.2.1 = os
    generalize g.2.1 = sl
    generalize hbb : g.2.2.2.1 = bb
    cases bb
    all_goals
      simp only [Bool.true_beq, Bool.false_beq, cond_true, cond_false]
      by_cases c1 : pc = 0 <;> by_cases c2 : os = sl <;> by_cases c3 : PlaceP c g <;> simp [c1, c2, c3, h, hf, tf_t, tf_f] <;> first | exact (tf_t (by simp [*])).symm | exact (tf_f (by simp [*])).symm | (rw [tf_t]; simp [*]) | (rw [tf_f]; simp [*])
  · rw [tf_f hf, tf_f (fun q => hf q.2.2.2.1)]
    simp only [cond_false]
    generalize (g.2.2.2.1 == (g.2.2.2.2.2.1 == 0)) = b1
    generalize (g.2.2.2.2.1.2.1 != g.2.1) = b2
    generalize g.2.2.2.1 = b3
    cases b1 <;> cases b2 <;> cases b3 <;> rfl
theorem impl_GuestOk_eq (N : Nat) (c : Cfg) (g : Gst) : impl_GuestOk N c g = some (guestOk c g, ()) := by
  unfold impl_GuestOk guestOk
  rw [impl_PlatOk_eq]
  simp only [Option.bind_some]
  by_cases h : Plat c
  rotate_left
  · rw [df h, tf_f (fun q => h q.1)]; rfl
  rw [dt h, Bool.not_true, cond_false]
  obtain ⟨up, slot, epoch, busy, ⟨o1, o2, o3, o4⟩, pc, k, n, seq, next, who, whoE, own, time, was, door, beat, entry, snap, plan, x1, x2, x3⟩ := g
  simp only [impl_deskAt_eq N h, impl_isSlot_eq N h, impl_within_eq, Option.bind_some, GuestP, FieldsP, PlaceP, h, true_and, bq, nbq]
  generalize house c = hh
  by_cases g : (busy = true ↔ pc ≠ 0) ∧ (busy = true → o2 = slot) ∧ 0 ≤ slot ∧ slot < c.1 ∧ 0 ≤ epoch ∧ epoch ≤ 4095 ∧ 0 ≤ next ∧ next ≤ 4095 ∧ 0 ≤ pc ∧ pc ≤ 26 ∧ 0 ≤ seq ∧ seq ≤ 1000001 ∧ 0 ≤ who ∧ who ≤ 7 ∧ 0 ≤ whoE ∧ whoE ≤ 4095 ∧
    0 ≤ n ∧ n ≤ 20 ∧ 0 ≤ k ∧ k ≤ hh ∧ (snap.length : Int) ≤ hh ∧ (plan.length : Int) ≤ 20 ∧ 0 ≤ time ∧ time ≤ 1048575
  · obtain ⟨gb, gs, g1, g2, g3, g4, g5, g6, g7, g8, g9, g10, g11, g12, g13, g14, g15, g16, g17, g18, g19, g20, g21, g22⟩ := g
    have hc : pc = 11 ∨ pc = 12 ∨ pc = 13 ∨ pc = 14 ∨ (16 ≤ pc ∧ pc ≤ 21) ∨ pc = 22 ∨ pc = 23 ∨ pc = 24 ∨ pc = 25 ∨ pc < 11 ∨ pc = 15 ∨ pc = 26 := by omega
    have e0 : (!(busy == decide (¬ pc = 0))) = false := by cases busy <;> simp at gb ⊢ <;> exact gb
    rw [e0, cond_false]
    cases busy
    all_goals
      simp only [cond_true, cond_false, Bool.false_eq_true, false_implies, true_implies, forall_const, false_iff, true_iff, ne_eq, Classical.not_not, true_and, Bool.true_eq_false] at gs gb ⊢
      rcases hc with hc | hc | hc | hc | hc | hc | hc | hc | hc | hc | hc | hc
      all_goals
        simp (disch := omega) only [ct, cf, dt, df, Bool.not_true, Bool.not_false, cond_true, cond_false]
        cases own
        all_goals
          try simp only [Bool.not_true, Bool.not_false, cond_true, cond_false, Bool.cond_not, cnd]
          repeat' split
          all_goals
            refine congrArg (fun b => some (b, ())) (tf_eq ?_)
            simp only [decide_eq_true_eq, Bool.false_eq_true, reduceCtorEq, false_implies, true_and, and_true, true_implies, false_iff, true_iff]
            omega
  · rw [tf_f (by intro q; apply g; simp only [and_assoc] at q ⊢; exact ⟨q.1, q.2.1, by omega⟩)]
    cases busy
    · simp only [Bool.false_beq, Bool.not_not, cond_false, cond_true]
      repeat (first | refine seqF fun _ => ?_ | refine seqT fun _ => ?_ | refine seqN fun _ => ?_)
      exact absurd (by simp; omega) g
    · simp only [Bool.true_beq, Bool.not_not, cond_false, cond_true]
      repeat (first | refine seqF fun _ => ?_ | refine seqT fun _ => ?_ | refine seqN fun _ => ?_)
      exact absurd (by simp; omega) g
def gt (l : List Gst) (i : Nat) : Gst := l.getD i gst0
theorem fold_gt (l : List Gst) (i : Nat) : l.getD i (false, 0, 0, false, (0, 0, 0, 0), 0, 0, 0, 0, 0, 0, 0, false, 0, 0, 0, 0, 0, ([] : List Int), ([] : List Int), 0, 0, 0) = gt l i := (rfl)
def WorldP (w : Wld) : Prop := Whole w.1 ∧ w.2.length ≤ 6 ∧ ∀ i, i < w.2.length → GuestP (wcfg w.1) (gt w.2 i)
noncomputable def worldOk (w : Wld) : Bool := tf (WorldP w)
theorem spec_WorldOk_loop (N : Nat) (c : Cfg) (w : Wld) (h6 : w.2.length ≤ 6) : ∀ d i k, i + d = w.2.length → d < k →
    spec_WorldOk.l0 N k (i : Int) w c = some (tf (∀ j, i ≤ j → j < w.2.length → GuestP c (gt w.2 j)), ())
  | 0, i, k, e, hk => by
    obtain ⟨k, rfl⟩ : ∃ j, k = j + 1 := ⟨k - 1, by omega⟩
    rw [spec_WorldOk.l0, cf (by omega), tf_t (fun j h1 h2 => by omega)]
  | d + 1, i, k, e, hk => by
    obtain ⟨k, rfl⟩ : ∃ j, k = j + 1 := ⟨k - 1, by omega⟩
    rw [spec_WorldOk.l0]
    simp (disch := omega) only [ct, bnd, Int.toNat_natCast, fold_gt, spec_GuestOk_eq, Option.bind_some, w64]
    rw [show (i : Int) + 1 = ((i + 1 : Nat) : Int) by omega, spec_WorldOk_loop N c w h6 d (i + 1) k (by omega) (by omega), guestOk]
    by_cases g : GuestP c (gt w.2 i)
    · rw [tf_t g, Bool.not_true, cond_false]
      refine congrArg (fun b => some (b, ())) (tf_congr ⟨fun h j h1 h2 => ?_, fun h j h1 h2 => h j (by omega) h2⟩)
      by_cases e2 : j = i
      · subst e2; exact g
      · exact h j (by omega) h2
    · rw [tf_f g, Bool.not_false, cond_true, tf_f (fun h => g (h i (by omega) (by omega)))]
theorem spec_WorldOk_eq (N : Nat) (hN : Fuel N) (w : Wld) (hw : Words w.1) : spec_WorldOk N w = some (worldOk w, ()) := by
  unfold spec_WorldOk worldOk
  rw [spec_PlatCheck_eq N hw]
  simp only [Option.bind_some]
  by_cases h : Whole w.1
  rotate_left
  · rw [if_neg h, tf_f (fun g => h g.1)]; rfl
  rw [if_pos h]
  simp only [Bool.not_true, cond_false]
  by_cases h6 : (w.2.length : Int) > 6
  · rw [ct h6, tf_f (fun g => by have := g.2.1; omega)]
  rw [cf h6]
  have := spec_WorldOk_loop N (cfg (w.1.getD 0 0)) w (by omega) w.2.length 0 N (by omega) (by unfold Fuel at hN; omega)
  rw [show ((0 : Nat) : Int) = 0 from rfl] at this
  rw [this]
  exact congrArg (fun b => some (b, ())) (tf_congr ⟨fun g => ⟨h, by omega, fun i hi => g i (by omega) hi⟩, fun g j h1 h2 => g.2.2 j h2⟩)
theorem impl_IndexGuest_loop (N : Nat) (c : Cfg) (l : List Gst) (h6 : l.length ≤ 6) : ∀ d i k, i + d = l.length → d < k →
    ∃ r : Int, slices_IndexFunc_loop_example_hostel_impl_Guest_loop_example_hostel_impl_Guest.l0 N k l c (l.length : Int) (i : Int) = some (r, ()) ∧ (r < 0 ↔ ∀ j, i ≤ j → j < l.length → GuestP c (gt l j))
  | 0, i, k, e, hk => by
    obtain ⟨k, rfl⟩ : ∃ j, k = j + 1 := ⟨k - 1, by omega⟩
    refine ⟨-1, ?_, ⟨fun _ j h1 h2 => by omega, fun _ => by omega⟩⟩
    rw [slices_IndexFunc_loop_example_hostel_impl_Guest_loop_example_hostel_impl_Guest.l0, cf (by omega)]
  | d + 1, i, k, e, hk => by
    obtain ⟨k, rfl⟩ : ∃ j, k = j + 1 := ⟨k - 1, by omega⟩
    rw [slices_IndexFunc_loop_example_hostel_impl_Guest_loop_example_hostel_impl_Guest.l0]
    simp (disch := omega) only [ct, bnd, Int.toNat_natCast, fold_gt, impl_WorldOk_1, impl_GuestOk_eq, Option.bind_some, w64, guestOk]
    by_cases g : GuestP c (gt l i)
    · obtain ⟨r, h1, h2⟩ := impl_IndexGuest_loop N c l h6 d (i + 1) k (by omega) (by omega)
      refine ⟨r, ?_, h2.trans ⟨fun h j h1 h2 => ?_, fun h j h1 h2 => h j (by omega) h2⟩⟩
      · rw [tf_t g, Bool.not_true, cond_false, show (i : Int) + 1 = ((i + 1 : Nat) : Int) by omega, h1]
      · by_cases e2 : j = i
        · subst e2; exact g
        · exact h j (by omega) h2
    · refine ⟨(i : Int), ?_, ⟨fun h => by omega, fun h => (g (h i (by omega) (by omega))).elim⟩⟩
      rw [tf_f g, Bool.not_false, cond_true]
theorem impl_WorldOk_eq (N : Nat) (hN : Fuel N) (w : Wld) (hw : Words w.1) : impl_WorldOk N w = some (worldOk w, ()) := by
  unfold impl_WorldOk worldOk
  rw [impl_PlatCheck_eq N hw]
  simp only [Option.bind_some]
  by_cases h : Whole w.1
  rotate_left
  · rw [if_neg h, tf_f (fun g => h g.1)]; rfl
  rw [if_pos h]
  simp only [cond_true]
  by_cases h6 : (w.2.length : Int) ≤ 6
  rotate_left
  · rw [cf h6, tf_f (fun g => by have := g.2.1; omega)]
  rw [ct h6]
  obtain ⟨r, h1, h2⟩ := impl_IndexGuest_loop N (cfg (w.1.getD 0 0)) w.2 (by omega) w.2.length 0 N (by omega) (by unfold Fuel at hN; omega)
  rw [show ((0 : Nat) : Int) = 0 from rfl] at h1
  simp only [slices_ContainsFunc_loop_example_hostel_impl_Guest_loop_example_hostel_impl_Guest, slices_IndexFunc_loop_example_hostel_impl_Guest_loop_example_hostel_impl_Guest, h1, Option.bind_some]
  refine congrArg (fun b => some (b, ())) (tf_eq ?_)
  rw [Bool.not_eq_true', decide_eq_false_iff_not]
  refine ⟨fun g => ⟨h, by omega, fun i hi => (h2.1 (by omega)) i (by omega) hi⟩, fun g => ?_⟩
  have := h2.2 (fun j _ hj => g.2.2 j hj)
  omega
theorem GuestP.slot {c : Cfg} {g : Gst} (h : GuestP c g) : 0 ≤ g.2.1 ∧ g.2.1 < c.1 := ⟨h.2.2.2.1.1, h.2.2.2.1.2.1⟩
def kindOf (u : Int) : Int := if u < 1 then -1 else if u ≤ 1 then 0 else if u ≤ 2 then 1 else if u ≤ 4 then 2 else if u ≤ 8 then 3 else if u ≤ 32 then 4 else -1
def zeroAt (ps : List Int) (p i : Nat) : Bool := decide (ps.getD (p + i) 0 = 0)
def zrow (ps : List Int) (n p : Nat) : Bool := allB (zeroAt ps p) n 0
/-- The first of so many empty pages in a row, from `p` on. -/
def runFrom (ps : List Int) (n : Nat) : Nat → Nat → Int
  | 0, _ => -1
  | d + 1, p => if zrow ps n p then (p : Int) else runFrom ps n d (p + 1)
def runOf (ps : List Int) (n : Nat) : Int := runFrom ps n (ps.length + 1 - n) 0
theorem runFrom_spec (ps : List Int) (n : Nat) : ∀ d p, runFrom ps n d p = -1 ∨ ∃ q : Nat, runFrom ps n d p = q ∧ p ≤ q ∧ q < p + d ∧ zrow ps n q = true
  | 0, p => .inl rfl
  | d + 1, p => by
    rw [runFrom]
    by_cases c : zrow ps n p = true
    · rw [if_pos c]; exact .inr ⟨p, rfl, by omega, by omega, c⟩
    · rw [if_neg c]
      rcases runFrom_spec ps n d (p + 1) with h | ⟨q, h1, h2, h3, h4⟩
      · exact .inl h
      · exact .inr ⟨q, h1, by omega, by omega, h4⟩
theorem nd_same {R : Type} (a b : Option R) (h : a = b) : nd a b = a := by unfold nd; rw [if_pos h]
def hset (h : H4) : Nat → List Int → H4
  | 0, l => (l, h.2)
  | 1, l => (h.1, l, h.2.2)
  | 2, l => (h.1, h.2.1, l, h.2.2.2)
  | _, l => (h.1, h.2.1, h.2.2.1, l)
def wPg (b : Bk) (l : List Int) : Bk := (b.1, l, b.2.2)
def wHd (b : Bk) (k : Nat) (l : List Int) : Bk := (b.1, b.2.1, hset b.2.2.1 k l, b.2.2.2)
def wOw (b : Bk) (u : Nat) (x : Int) : Bk := (b.1, b.2.1, b.2.2.1, b.2.2.2.1.set u x, b.2.2.2.2)
/-- `n` entries from `p` on are set to `x`. -/
def setRow (l : List Int) (x : Int) : Nat → Nat → List Int
  | 0, _ => l
  | n + 1, p => setRow (l.set p x) x n (p + 1)
def pagesP (b : Bk) (s : Int) (n : Nat) : Bk × Int × Int :=
  if runOf b.2.1 n < 0 then (b, 2, 0) else
    let p := (runOf b.2.1 n).toNat
    (wOw (wPg b (setRow (b.2.1.set p (8 + n)) 7 (n - 1) (p + 1))) (8 * p) (s + 1), 0, 8 * (p : Int))
/-- The rooms of a page that is split. -/
def roomsOf (k : Nat) : Nat → Nat → List Int
  | 0, _ => []
  | n + 1, u => (u : Int) :: roomsOf k n (u + usz k)
def carveP (b : Bk) (p k : Nat) : Bk := wHd (wPg b (b.2.1.set p ((k : Int) + 1))) k (hd b k ++ roomsOf k (8 / usz k) (8 * p))
def popP (b : Bk) (s : Int) (k : Nat) : Bk × Int × Int := (wOw (wHd b k ((hd b k).drop 1)) ((hd b k).getD 0 0).toNat (s + 1), 0, (hd b k).getD 0 0)
def takeP (b : Bk) (s u : Int) : Bk × Int × Int :=
  if kindOf u < 0 then (b, 1, 0) else if kindOf u = 4 then pagesP b s ((u + 7) / 8).toNat else
    let k := (kindOf u).toNat
    if (hd b k).length = 0 then (if runOf b.2.1 1 < 0 then (b, 2, 0) else popP (carveP b (runOf b.2.1 1).toNat k) s k) else popP b s k
theorem setRow_len (x : Int) : ∀ n p l, (setRow l x n p).length = l.length
  | 0, p, l => rfl
  | n + 1, p, l => by rw [setRow, setRow_len x n, List.length_set]
abbrev BkU := Int × Unit × (Unit × Unit × Unit × Unit) × Unit × Unit × Unit
abbrev L8 := List Int × List Int × List Int × List Int × List Int × List Int × List Int × List Int
/-- What the reference gives: the book in its memory. -/
abbrev out (r : Bk × Int × Int) : Option ((BkU × Int × Int) × L8) :=
  some (((r.1.1, (), ((), (), (), ()), (), (), ()), r.2), (r.1.2.1, r.1.2.2.1.1, r.1.2.2.1.2.1, r.1.2.2.1.2.2.1, r.1.2.2.1.2.2.2, r.1.2.2.2.1, r.1.2.2.2.2.1, r.1.2.2.2.2.2))
abbrev outB (b : Bk) : Option (BkU × L8) :=
  some ((b.1, (), ((), (), (), ()), (), (), ()), (b.2.1, b.2.2.1.1, b.2.2.1.2.1, b.2.2.1.2.2.1, b.2.2.1.2.2.2, b.2.2.2.1, b.2.2.2.2.1, b.2.2.2.2.2))
theorem kindOf_cases (u : Int) : kindOf u = -1 ∨ (kindOf u = 4 ∧ 9 ≤ u ∧ u ≤ 32) ∨ ∃ k : Nat, k < 4 ∧ kindOf u = k := by
  unfold kindOf
  by_cases c0 : u < 1
  · rw [if_pos c0]; exact .inl rfl
  rw [if_neg c0]
  by_cases c1 : u ≤ 1
  · rw [if_pos c1]; exact .inr (.inr ⟨0, by omega, rfl⟩)
  rw [if_neg c1]
  by_cases c2 : u ≤ 2
  · rw [if_pos c2]; exact .inr (.inr ⟨1, by omega, rfl⟩)
  rw [if_neg c2]
  by_cases c3 : u ≤ 4
  · rw [if_pos c3]; exact .inr (.inr ⟨2, by omega, rfl⟩)
  rw [if_neg c3]
  by_cases c4 : u ≤ 8
  · rw [if_pos c4]; exact .inr (.inr ⟨3, by omega, rfl⟩)
  rw [if_neg c4]
  by_cases c5 : u ≤ 32
  · rw [if_pos c5]; exact .inr (.inl ⟨rfl, by omega, c5⟩)
  · rw [if_neg c5]; exact .inl rfl
theorem runOf_rooms {k : Nat} (hk : k < 4) (p : Nat) : ∃ r, roomsOf k (8 / usz k) (8 * p) = ((8 * p : Nat) : Int) :: r := by
  rcases usz_vals hk with ⟨h, _⟩ | ⟨h, _⟩ | ⟨h, _⟩ | ⟨h, _⟩ <;> rw [h] <;> exact ⟨_, rfl⟩
theorem hd_hset (x : Int) (ps : List Int) (h : H4) (o : List Int × List Int × List Int) {k : Nat} (hk : k < 4) (l : List Int) : hd (x, ps, hset h k l, o) k = l := by
  rcases usz_vals hk with ⟨_, rfl⟩ | ⟨_, rfl⟩ | ⟨_, rfl⟩ | ⟨_, rfl⟩ <;> rfl
/-- What taking needs of a book: its sizes and its lists, not its slots. -/
def Tk (b : Bk) : Prop := (1 ≤ np b ∧ np b ≤ 6 ∧ nu b = np b * 8 ∧ 1 ≤ b.1 ∧ b.1 ≤ 4) ∧ (∀ k, k < 4 → (hd b k).length ≤ nu b) ∧ ∀ k : Nat, k < 4 → ∀ x ∈ hd b k, 0 ≤ x ∧ x < nu b ∧ pg b (x / 8).toNat = (k : Int) + 1
theorem Tk.dims {b : Bk} (h : Tk b) : 1 ≤ np b ∧ np b ≤ 6 ∧ nu b = np b * 8 ∧ 1 ≤ b.1 ∧ b.1 ≤ 4 := h.1
theorem Tk.hd_len {b : Bk} (h : Tk b) {k : Nat} (hk : k < 4) : (hd b k).length ≤ nu b := h.2.1 k hk
theorem Tk.mem {b : Bk} (h : Tk b) {k : Nat} (hk : k < 4) {x : Int} (hx : x ∈ hd b k) : 0 ≤ x ∧ x < nu b ∧ pg b (x / 8).toNat = k + 1 := h.2.2 k hk x hx
theorem hset_hset (h : H4) {k : Nat} (hk : k < 4) (l m : List Int) : hset (hset h k l) k m = hset h k m := by
  rcases usz_vals hk with ⟨_, rfl⟩ | ⟨_, rfl⟩ | ⟨_, rfl⟩ | ⟨_, rfl⟩ <;> rfl
theorem hd_heads (b b' : Bk) (h : b.2.2.1 = b'.2.2.1) (k : Nat) : hd b k = hd b' k := by
  obtain ⟨x, ps, hh, o⟩ := b
  obtain ⟨x', ps', hh', o'⟩ := b'
  simp only at h
  subst h
  unfold hd
  rfl
theorem hd_other (x : Int) (ps : List Int) (h : H4) (o : List Int × List Int × List Int) {k j : Nat} (hk : k < 4) (hj : j < 4) (hne : j ≠ k) (l : List Int) : hd (x, ps, hset h k l, o) j = hd (x, ps, h, o) j := by
  rcases usz_vals hk with ⟨_, rfl⟩ | ⟨_, rfl⟩ | ⟨_, rfl⟩ | ⟨_, rfl⟩ <;> rcases usz_vals hj with ⟨_, rfl⟩ | ⟨_, rfl⟩ | ⟨_, rfl⟩ | ⟨_, rfl⟩ <;> first | rfl | exact (hne rfl).elim
theorem getD_set (l : List Int) (u v : Nat) (x : Int) (hu : u < l.length) : (l.set u x).getD v 0 = if v = u then x else l.getD v 0 := by
  simp only [List.getD_eq_getElem?_getD, List.getElem?_set]
  by_cases c : v = u
  · subst c; simp [hu]
  · rw [if_neg c, if_neg (fun e => c e.symm)]
theorem BookP.slots {b : Bk} (h : BookP b) : (b.2.2.2.2.1.length : Int) = b.1 ∧ (b.2.2.2.2.2.length : Int) = b.1 := ⟨h.sizes.2.2.1, h.sizes.2.2.2.1⟩
abbrev heads (h : H4) (k : Nat) : List Int := hd (0, [], h, [], [], []) k
theorem mem_getD {l : List Int} {z : Int} (h : z ∈ l) : ∃ j, j < l.length ∧ l.getD j 0 = z := by
  obtain ⟨j, hj, e⟩ := List.getElem_of_mem h
  exact ⟨j, hj, by rw [List.getD_eq_getElem?_getD, List.getElem?_eq_getElem hj, e]; rfl⟩
def PageW (b : Bk) (p : Nat) : Prop :=
  (pg b p = 0 ∧ FreeP b p 0) ∨ (1 ≤ pg b p ∧ pg b p ≤ 4 ∧ RoomsP b p (pg b p - 1).toNat) ∨
  (pg b p = 7 ∧ FreeP b p 0 ∧ ∃ q, q < p ∧ 10 ≤ pg b q ∧ (p : Int) < q + (pg b q - 8)) ∨ WideP b p
theorem BookP.pageW {b : Bk} (h : BookP b) {p : Nat} (hp : p < np b) : PageW b p := by
  have hP := h.page hp
  rcases h.cases hp with h0 | h1 | h7 | h8
  · exact .inl ⟨h0, hP.1 h0⟩
  · exact .inr (.inl ⟨h1.1, h1.2, hP.2.1 h1⟩)
  · have hR := hP.2.2.1 h7
    have hbl := back_le b p
    have hb : back b p < np b := by omega
    have hne : back b p ≠ p := by
      intro e
      have h1 := hR.1
      rw [e] at h1
      omega
    refine .inr (.inr (.inl ⟨h7, hR.2.2, back b p, by omega, ?_, ?_⟩))
    · rcases h.cases hb with g | g | g | g
      · have := hR.1; omega
      · have := hR.1; omega
      · have := hR.1; omega
      · exact g.1
    · have := hR.2.1; omega
  · exact .inr (.inr (.inr (h.wide hp h8.1)))
theorem pageP_of {b : Bk} (h : ∀ p, p < np b → PageW b p) {p : Nat} (hp : p < np b) : PageP b p := by
  rcases h p hp with ⟨h0, hf⟩ | ⟨h1, h2, hr⟩ | ⟨h7, hf, q, hq, hq10, hqp⟩ | hw
  · exact ⟨fun _ => hf, fun g => by omega, fun g => by omega, fun g => (g h0).elim⟩
  · exact ⟨fun g => by omega, fun _ => hr, fun g => by omega, fun _ g => (g ⟨h1, h2⟩).elim⟩
  · refine ⟨fun g => by omega, fun g => by omega, fun _ => ?_, fun _ _ g => (g h7).elim⟩
    have hw : WideP b q := by
      rcases h q (by omega) with ⟨g, _⟩ | ⟨_, g, _⟩ | ⟨g, _⟩ | g
      · omega
      · omega
      · omega
      · exact g
    have hb : back b p = q := by
      have := back_run (b := b) (p := q) (by omega) (p - q) (fun j g1 g2 => hw.2.2.2.2.2 j g1 (by omega))
      rwa [show q + (p - q) = p by omega] at this
    unfold RestP
    rw [hb]
    exact ⟨by omega, by omega, hf⟩
  · have := hw.1
    exact ⟨fun g => by omega, fun g => by omega, fun g => by omega, fun _ _ _ => hw⟩
theorem BookP.slot {b : Bk} (h : BookP b) {i : Nat} (hi : i < b.1.toNat) : slotB b i = true := by
  have h1 := h.1
  unfold slotsB at h1
  rw [Bool.and_eq_true, Bool.and_eq_true] at h1
  exact (allB_iff _ _ _).1 h1.2.1 i (by omega) (by omega)
theorem BookP.own {b : Bk} (h : BookP b) {u : Nat} (hu : u < nu b) : ownB b u = true := by
  have h1 := h.1
  unfold slotsB at h1
  rw [Bool.and_eq_true, Bool.and_eq_true] at h1
  exact (allB_iff _ _ _).1 h1.2.2 u (by omega) (by omega)
theorem BookP.list {b : Bk} (h : BookP b) {k : Nat} (hk : k < 4) {x : Int} (hx : x ∈ hd b k) : memB b k x = true := lists_mem h.2.1 hk hx
theorem page_count {b : Bk} (hs : Sizes b) (h3 : ∀ k, k < 4 → ∀ x ∈ hd b k, memB b k x = true) (h4 : ∀ p, p < np b → PageW b p) {k : Nat} (hk : k < 4) {u : Nat} (hu : u < nu b) :
    (hd b k).count ((u : Nat) : Int) ≤ 1 := by
  unfold Sizes at hs
  by_cases c : ((u : Nat) : Int) ∈ hd b k
  · have hm := of_decide_eq_true (h3 k hk _ c)
    have hpg : pg b (u / 8) = (k : Int) + 1 := by
      have := hm.2.2.1
      rwa [show (((u : Nat) : Int) / 8).toNat = u / 8 by omega] at this
    rcases h4 (u / 8) (by omega) with ⟨g, _⟩ | ⟨_, _, hr⟩ | ⟨g, _⟩ | g
    · omega
    · rw [hpg, show ((k : Int) + 1 - 1).toNat = k by omega] at hr
      have := hr.1 (u % 8) (by omega)
      unfold RoomP at this
      rw [show 8 * (u / 8) + u % 8 = u by omega] at this
      by_cases c2 : u % 8 % usz k = 0
      · rcases this.2 c2 with g | g <;> omega
      · have := (this.1 c2).2; omega
    · omega
    · have := g.1; omega
  · rw [List.count_eq_zero.2 c]; omega
theorem BookP.mk' {b : Bk} (hs : Sizes b) (h1 : ∀ i, i < b.1.toNat → slotB b i = true) (h2 : ∀ u, u < nu b → ownB b u = true)
    (h3 : ∀ k, k < 4 → ∀ x ∈ hd b k, memB b k x = true) (h4 : ∀ p, p < np b → PageW b p) : BookP b := by
  refine ⟨?_, ?_, fun p hp => pageP_of h4 hp⟩
  · unfold slotsB
    rw [dt hs, Bool.true_and, Bool.and_eq_true]
    exact ⟨(allB_iff _ _ _).2 fun j _ hj => h1 j (by omega), (allB_iff _ _ _).2 fun j _ hj => h2 j (by omega)⟩
  · unfold listsB
    refine (allB_iff _ _ _).2 fun k _ hk => ?_
    have hk : k < 4 := by omega
    rw [listB, Bool.and_eq_true, List.all_eq_true]
    refine ⟨decide_eq_true ?_, h3 k hk⟩
    have := count_sm (nu b) (hd b k) (fun x hx => by have := of_decide_eq_true (h3 k hk x hx); omega)
    have h5 := sm_le (fun u => ((hd b k).count ((u : Nat) : Int) : Int)) 1 (nu b) (fun u hu => by
      have := page_count hs h3 h4 hk hu
      omega)
    omega
/-- A page that nothing touches. -/
theorem PageW.same {b b' : Bk} {p : Nat} (h : PageW b p) (hn : np b' = np b) (hp : pg b' p = pg b p) (ho : ∀ u, u < 8 → (ow b' (8 * p + u) = 0 ↔ ow b (8 * p + u) = 0) ∧ (0 < ow b' (8 * p + u) ↔ 0 < ow b (8 * p + u)))
    (hc : ∀ k : Nat, k < 4 → pg b p = (k : Int) + 1 → ∀ u, u < 8 → (hd b' k).count ((8 * p + u : Nat) : Int) = (hd b k).count ((8 * p + u : Nat) : Int))
    (h7 : pg b p = 7 → ∀ q, q < p → 10 ≤ pg b q → (p : Int) < q + (pg b q - 8) → pg b' q = pg b q)
    (hw : 10 ≤ pg b p → ∀ i : Nat, 1 ≤ i → (i : Int) < pg b p - 8 → pg b' (p + i) = pg b (p + i)) : PageW b' p := by
  have hf : ∀ f, FreeP b p f → FreeP b' p f := fun f g u h1 h2 => (ho u h2).1.2 (g u h1 h2)
  rcases h with ⟨h0, hfr⟩ | ⟨h1, h2, hr⟩ | ⟨g7, hfr, q, hq, hq10, hqp⟩ | g
  · exact .inl ⟨by rw [hp]; exact h0, hf 0 hfr⟩
  · refine .inr (.inl ?_)
    rw [hp]
    refine ⟨h1, h2, fun u hu => ?_, ?_⟩
    · have := hr.1 u hu
      unfold RoomP at this ⊢
      rw [propext (ho u hu).1, propext (ho u hu).2, hc (pg b p - 1).toNat (by omega) (by omega) u hu]
      exact this
    · obtain ⟨u, hu, g⟩ := hr.2
      exact ⟨u, hu, (ho u hu).2.2 g⟩
  · have := h7 g7 q hq hq10 hqp
    exact .inr (.inr (.inl ⟨by rw [hp]; exact g7, hf 0 hfr, q, hq, by rw [this]; exact hq10, by rw [this]; exact hqp⟩))
  · refine .inr (.inr (.inr ?_))
    obtain ⟨w1, w2, w3, w4, w5, w6⟩ := g
    have h80 := ho 0 (by omega)
    rw [Nat.add_zero] at h80
    unfold WideP
    rw [hp, hn]
    exact ⟨w1, w2, w3, fun e => w4 (h80.1.1 e), hf 1 w5, fun i g1 g2 => by rw [hw w1 i g1 g2]; exact w6 i g1 g2⟩
theorem setRow_getD (x : Int) : ∀ n p (l : List Int) (v : Nat), p + n ≤ l.length → (setRow l x n p).getD v 0 = if p ≤ v ∧ v < p + n then x else l.getD v 0
  | 0, p, l, v, h => by rw [setRow, if_neg (by omega)]
  | n + 1, p, l, v, h => by
    rw [setRow, setRow_getD x n (p + 1) _ v (by rw [List.length_set]; omega), getD_set _ _ _ _ (by omega)]
    by_cases c : p + 1 ≤ v ∧ v < p + 1 + n
    · rw [if_pos c, if_pos (by omega)]
    · rw [if_neg c]
      by_cases c2 : v = p
      · rw [if_pos c2, if_pos (by omega)]
      · rw [if_neg c2, if_neg (by omega)]
theorem ieq {a c : Int} (h : a = c) : (a = 0 ↔ c = 0) ∧ (0 < a ↔ 0 < c) := by rw [h]; exact ⟨Iff.rfl, Iff.rfl⟩
theorem memB_iff {b : Bk} {k : Nat} {x : Int} : memB b k x = true ↔ 0 ≤ x ∧ x < nu b ∧ pg b (x / 8).toNat = k + 1 ∧ x % (usz k : Int) = 0 := by
  unfold memB; exact decide_eq_true_iff
theorem ownB_iff {b : Bk} {u : Nat} : ownB b u = true ↔ 0 ≤ ow b u ∧ ow b u ≤ b.1 ∧ (0 < ow b u → inn b (ow b u - 1).toNat ≠ 0) := by
  unfold ownB; exact decide_eq_true_iff
/-- A change that leaves the slots alone. -/
theorem book_change {b b' : Bk} (hs : Sizes b) (hsl : ∀ i, i < b.1.toNat → slotB b i = true) (hob : ∀ u, u < nu b → ownB b u = true) (h1 : b'.1 = b.1) (hi : b'.2.2.2.2 = b.2.2.2.2) (hp : np b' = np b) (hu : nu b' = nu b)
    (ho : ∀ u, u < nu b → ow b' u = ow b u ∨ ow b' u = 0 ∨ (1 ≤ ow b' u ∧ ow b' u ≤ b.1 ∧ inn b (ow b' u - 1).toNat ≠ 0))
    (hl : ∀ k, k < 4 → ∀ x ∈ hd b' k, memB b' k x = true) (hpg : ∀ p, p < np b → PageW b' p) : BookP b' := by
  have hin : ∀ i, inn b' i = inn b i := fun i => by unfold inn; rw [hi]
  have hep : ∀ i, ep b' i = ep b i := fun i => by unfold ep; rw [hi]
  refine BookP.mk' ?_ (fun i h => ?_) (fun u h => ?_) hl (fun p h => hpg p (by omega))
  · unfold Sizes at hs ⊢
    rw [h1, hi, hp, hu]
    exact hs
  · rw [h1] at h
    have := hsl i h
    unfold slotB at this ⊢
    rw [hin, hep]
    exact this
  · rw [hu] at h
    have := ownB_iff.1 (hob u h)
    refine ownB_iff.2 ?_
    rw [hin, h1]
    rcases ho u h with e | e | e
    · rw [e]; exact this
    · rw [e]; unfold Sizes at hs; exact ⟨by omega, by omega, fun g => by omega⟩
    · exact ⟨by omega, e.2.1, fun _ => e.2.2⟩
/-- A free room of a page is taken. -/
theorem pop_ok {c : Bk} (hs : Sizes c) (hsl : ∀ i, i < c.1.toNat → slotB c i = true) (hob : ∀ u, u < nu c → ownB c u = true) (h3 : ∀ k, k < 4 → ∀ x ∈ hd c k, memB c k x = true)
    {k p0 : Nat} (hk : k < 4) (hpg : pg c p0 = (k : Int) + 1) (hr : ∀ u, u < 8 → RoomP c p0 k u) (h4 : ∀ p, p < np c → p ≠ p0 → PageW c p)
    {x : Int} {r : List Int} (hx : hd c k = x :: r) (hxp : (x / 8).toNat = p0) {s : Int} (hs0 : 0 ≤ s) (hs1 : s < c.1) (hin : inn c s.toNat ≠ 0) : BookP (popP c s k).1 := by
  have hm := memB_iff.1 (h3 k hk x (by rw [hx]; exact List.mem_cons_self))
  obtain ⟨u0, rfl⟩ : ∃ u : Nat, x = u := ⟨x.toNat, by omega⟩
  have hb' : (popP c s k).1 = wOw (wHd c k r) u0 (s + 1) := by unfold popP; rw [hx]; rfl
  rw [hb']
  have hu0 : u0 < nu c := by omega
  have hu0' : u0 < c.2.2.2.1.length := hu0
  have ho : ∀ v, ow (wOw (wHd c k r) u0 (s + 1)) v = if v = u0 then s + 1 else ow c v := fun v => getD_set _ _ _ _ hu0'
  have hk1 : hd (wOw (wHd c k r) u0 (s + 1)) k = r := hd_hset _ _ _ _ hk _
  have hk2 : ∀ j, j < 4 → j ≠ k → hd (wOw (wHd c k r) u0 (s + 1)) j = hd c j := fun j hj hne => hd_other _ _ _ _ hk hj hne _
  have hnu : nu (wOw (wHd c k r) u0 (s + 1)) = nu c := by show (c.2.2.2.1.set u0 (s + 1)).length = _; rw [List.length_set]; rfl
  have hcount : ∀ v : Nat, v ≠ u0 → (hd c k).count (v : Int) = r.count (v : Int) := fun v hv => by
    rw [hx, List.count_cons, beq_eq_false_iff_ne.2 (by omega), if_neg (by decide)]; rfl
  refine book_change hs hsl hob rfl rfl rfl hnu (fun v hv => ?_) (fun j hj y hy => ?_) (fun p hp => ?_)
  · rw [ho]
    by_cases e : v = u0
    · rw [if_pos e]
      refine .inr (.inr ⟨by omega, by omega, ?_⟩)
      rw [show s + 1 - 1 = s by omega]; exact hin
    · rw [if_neg e]; exact .inl rfl
  · have hy' : y ∈ hd c j := by
      by_cases e : j = k
      · subst e; rw [hk1] at hy; rw [hx]; exact List.mem_cons_of_mem _ hy
      · rwa [hk2 j hj e] at hy
    have := memB_iff.1 (h3 j hj y hy')
    refine memB_iff.2 ?_
    rw [hnu]
    exact this
  · by_cases e : p = p0
    · subst e
      refine .inr (.inl ⟨?_, ?_, ?_, ?_⟩)
      · show 1 ≤ pg c p; omega
      · show pg c p ≤ 4; omega
      · have e2 : (pg (wOw (wHd c k r) u0 (s + 1)) p - 1).toNat = k := by show (pg c p - 1).toNat = k; omega
        rw [e2]
        intro u hu
        have hru := hr u hu
        unfold RoomP at hru ⊢
        rw [hk1, ho]
        by_cases e3 : 8 * p + u = u0
        · rw [if_pos e3]
          rw [hx, e3, List.count_cons, beq_iff_eq.2 rfl, if_pos rfl] at hru
          have hz : r.count (u0 : Int) = 0 ∧ u % usz k = 0 := by
            by_cases g : u % usz k = 0
            · refine ⟨?_, g⟩
              rcases hru.2 g with g2 | g2 <;> omega
            · have := (hru.1 g).2; omega
          rw [e3, hz.1]
          exact ⟨fun g => (g hz.2).elim, fun _ => .inl ⟨by omega, rfl⟩⟩
        · rw [if_neg e3, ← hcount _ e3]; exact hru
      · refine ⟨u0 % 8, by omega, ?_⟩
        rw [ho, if_pos (by omega)]; omega
    · refine (h4 p hp e).same rfl rfl (fun u hu => ieq ?_) (fun j hj _ u hu => ?_) (fun _ _ _ _ _ => rfl) (fun _ _ _ _ => rfl)
      · rw [ho, if_neg (by omega)]
      · by_cases e2 : j = k
        · subst e2; rw [hk1, hcount _ (by omega)]
        · rw [hk2 j hj e2]
theorem roomsOf_mem {k : Nat} (hk : k < 4) : ∀ n u, ∀ x ∈ roomsOf k n u, ∃ v : Nat, x = v ∧ u ≤ v ∧ v < u + n * usz k ∧ (v - u) % usz k = 0
  | 0, u, x, h => by cases h
  | n + 1, u, x, h => by
    have hz := usz_vals hk
    rw [roomsOf] at h
    rcases List.mem_cons.1 h with e | h
    · refine ⟨u, e, Nat.le_refl _, ?_, by rw [Nat.sub_self, Nat.zero_mod]⟩
      rw [Nat.add_mul]; omega
    · obtain ⟨v, e, h1, h2, h3⟩ := roomsOf_mem hk n _ x h
      refine ⟨v, e, by omega, by rw [Nat.add_mul]; omega, ?_⟩
      rcases hz with ⟨hz, _⟩ | ⟨hz, _⟩ | ⟨hz, _⟩ | ⟨hz, _⟩ <;> rw [hz] at h3 h1 ⊢ <;> omega
theorem roomsOf_count {k : Nat} (hk : k < 4) : ∀ n u (v : Nat), (roomsOf k n u).count (v : Int) = if u ≤ v ∧ v < u + n * usz k ∧ (v - u) % usz k = 0 then 1 else 0
  | 0, u, v => by rw [roomsOf, List.count_nil, if_neg (by omega)]
  | n + 1, u, v => by
    have hz := usz_vals hk
    rw [roomsOf, List.count_cons, roomsOf_count hk n _ v]
    by_cases e : v = u
    · subst e
      rw [beq_iff_eq.2 rfl, if_pos rfl, if_neg (by omega), if_pos]
      refine ⟨Nat.le_refl _, ?_, by rw [Nat.sub_self, Nat.zero_mod]⟩
      rw [Nat.add_mul]; omega
    · rw [beq_eq_false_iff_ne.2 (by omega), if_neg (c := false = true) (by decide), Nat.add_zero, Nat.add_mul]
      by_cases c : u + usz k ≤ v ∧ v < u + usz k + n * usz k ∧ (v - (u + usz k)) % usz k = 0
      · rw [if_pos c, if_pos]
        obtain ⟨c1, c2, c3⟩ := c
        refine ⟨by omega, by omega, ?_⟩
        rcases hz with ⟨hz, _⟩ | ⟨hz, _⟩ | ⟨hz, _⟩ | ⟨hz, _⟩ <;> rw [hz] at c1 c3 ⊢ <;> omega
      · rw [if_neg c, if_neg]
        intro ⟨c1, c2, c3⟩
        refine c ?_
        rcases hz with ⟨hz, _⟩ | ⟨hz, _⟩ | ⟨hz, _⟩ | ⟨hz, _⟩ <;> rw [hz] at c2 c3 ⊢ <;> exact ⟨by omega, by omega, by omega⟩
theorem usz_div {k : Nat} (hk : k < 4) : 8 / usz k * usz k = 8 := by
  rcases usz_vals hk with ⟨hz, _⟩ | ⟨hz, _⟩ | ⟨hz, _⟩ | ⟨hz, _⟩ <;> rw [hz]
/-- A page is split and its first room taken. -/
theorem carve_ok {b : Bk} (h : BookP b) {k p : Nat} (hk : k < 4) (hp : p < np b) (h0 : pg b p = 0) (hnil : hd b k = []) {s : Int} (hs0 : 0 ≤ s) (hs1 : s < b.1) (hin : inn b s.toNat ≠ 0) : BookP (popP (carveP b p k) s k).1 := by
  have hp' : p < b.2.1.length := hp
  have hdim := h.dims
  have hpgc : ∀ q, pg (carveP b p k) q = if q = p then (k : Int) + 1 else pg b q := fun q => getD_set _ _ _ _ hp'
  have hk1 : hd (carveP b p k) k = roomsOf k (8 / usz k) (8 * p) := by
    have : hd (carveP b p k) k = hd b k ++ roomsOf k (8 / usz k) (8 * p) := hd_hset _ _ _ _ hk _
    rw [this, hnil]; rfl
  have hk2 : ∀ j, j < 4 → j ≠ k → hd (carveP b p k) j = hd b j := fun j hj hne => hd_other _ _ _ _ hk hj hne _
  have hnp : np (carveP b p k) = np b := by show (b.2.1.set p ((k : Int) + 1)).length = _; rw [List.length_set]; rfl
  have hd8 := usz_div hk
  obtain ⟨r, hr⟩ := runOf_rooms hk p
  have hfree : FreeP b p 0 := (h.page hp).1 h0
  refine pop_ok (c := carveP b p k) (p0 := p) (x := ((8 * p : Nat) : Int)) (r := r) ?_ (fun i hi => h.slot hi) (fun u hu => h.own hu) (fun j hj x hx => ?_) hk (by rw [hpgc, if_pos rfl]) (fun u hu => ?_) (fun q hq hne => ?_) (by rw [hk1, hr]) (by omega) hs0 hs1 hin
  · have := h.sizes
    unfold Sizes at this ⊢
    rw [hnp]
    exact this
  · refine memB_iff.2 ?_
    have e : nu (carveP b p k) = nu b := rfl
    rw [e]
    by_cases c : j = k
    · subst c
      rw [hk1] at hx
      obtain ⟨v, e, h1, h2, h3⟩ := roomsOf_mem hk _ _ x hx
      rw [hd8] at h2
      refine ⟨by omega, by omega, ?_, ?_⟩
      · rw [hpgc, if_pos (by omega)]
      · rw [e]
        have := usz_dvd hk p (v - 8 * p)
        rw [show 8 * p + (v - 8 * p) = v by omega] at this
        omega
    · rw [hk2 j hj c] at hx
      have := memB_iff.1 (h.list hj hx)
      refine ⟨this.1, this.2.1, ?_, this.2.2.2⟩
      rw [hpgc, if_neg, this.2.2.1]
      intro e
      have := this.2.2.1
      rw [e] at this
      omega
  · unfold RoomP
    have ho : ow (carveP b p k) (8 * p + u) = 0 := hfree u (by omega) hu
    rw [hk1, roomsOf_count hk, hd8, ho, show 8 * p + u - 8 * p = u by omega]
    by_cases c : u % usz k = 0
    · rw [if_pos ⟨by omega, by omega, c⟩]; exact ⟨fun g => (g c).elim, fun _ => .inr ⟨rfl, rfl⟩⟩
    · rw [if_neg (fun g => c g.2.2)]; exact ⟨fun _ => ⟨rfl, rfl⟩, fun g => (c g).elim⟩
  · rw [hnp] at hq
    refine (h.pageW hq).same hnp (by rw [hpgc, if_neg hne]) (fun u hu => ieq rfl) (fun j hj hj2 u hu => ?_) (fun _ q' _ h10 _ => ?_) (fun h10 i h1 h2 => ?_)
    · by_cases c : j = k
      · subst c; rw [hk1, hnil, roomsOf_count hk, hd8, if_neg (by omega), List.count_nil]
      · rw [hk2 j hj c]
    · rw [hpgc, if_neg]; intro e; rw [e] at h10; omega
    · have := (h.wide hq h10).2.2.2.2.2 i h1 h2
      rw [hpgc, if_neg]; intro e; rw [e] at this; omega
theorem runOf_in {b : Bk} {n : Nat} (hn : 1 ≤ n) (h : ¬ runOf b.2.1 n < 0) : ∃ p : Nat, runOf b.2.1 n = p ∧ p + n ≤ np b ∧ ∀ i, i < n → pg b (p + i) = 0 := by
  unfold runOf at h ⊢
  rcases runFrom_spec b.2.1 n (b.2.1.length + 1 - n) 0 with e | ⟨q, e, h1, h2, h3⟩
  · rw [e] at h; omega
  · refine ⟨q, e, by unfold np; omega, fun i hi => ?_⟩
    have := (allB_iff _ _ _).1 h3 i (by omega) (by omega)
    exact of_decide_eq_true this
/-- A row of pages is taken. -/
theorem pages_ok {b : Bk} (h : BookP b) {n : Nat} (hn : 2 ≤ n) (hn4 : n ≤ 4) {s : Int} (hs0 : 0 ≤ s) (hs1 : s < b.1) (hin : inn b s.toNat ≠ 0) : BookP (pagesP b s n).1 := by
  unfold pagesP
  by_cases c : runOf b.2.1 n < 0
  · rw [if_pos c]; exact h
  rw [if_neg c]
  obtain ⟨p, e, hp, hz⟩ := runOf_in (by omega) c
  rw [e]
  dsimp only
  rw [Int.toNat_natCast]
  have hdim := h.dims
  have hl : b.2.1.length = np b := rfl
  have hlu : b.2.2.2.1.length = nu b := rfl
  generalize hb' : wOw (wPg b (setRow (b.2.1.set p (8 + (n : Int))) 7 (n - 1) (p + 1))) (8 * p) (s + 1) = b'
  have hpg : ∀ q, pg b' q = if q = p then 8 + (n : Int) else if p < q ∧ q < p + n then 7 else pg b q := fun q => by
    rw [← hb']
    show (setRow (b.2.1.set p (8 + (n : Int))) 7 (n - 1) (p + 1)).getD q 0 = _
    rw [setRow_getD _ _ _ _ _ (by rw [List.length_set]; omega), getD_set _ _ _ _ (by omega)]
    by_cases c1 : q = p
    · rw [if_pos c1, if_pos c1, if_neg (by omega)]
    · rw [if_neg c1, if_neg c1]
      by_cases c2 : p < q ∧ q < p + n
      · rw [if_pos c2, if_pos (by omega)]
      · rw [if_neg c2, if_neg (by omega)]; rfl
  have ho : ∀ v, ow b' v = if v = 8 * p then s + 1 else ow b v := fun v => by
    rw [← hb']; exact getD_set b.2.2.2.1 _ _ _ (by omega)
  have hnp : np b' = np b := by
    rw [← hb']
    show (setRow (b.2.1.set p (8 + (n : Int))) 7 (n - 1) (p + 1)).length = _
    rw [setRow_len, List.length_set]; rfl
  have hnu : nu b' = nu b := by rw [← hb']; show (b.2.2.2.1.set (8 * p) (s + 1)).length = _; rw [List.length_set]; rfl
  have hhd : ∀ k, hd b' k = hd b k := fun k => by rw [← hb']; exact hd_heads _ _ rfl k
  have hzero : ∀ q, p ≤ q → q < p + n → pg b q = 0 := fun q h1 h2 => by have := hz (q - p) (by omega); rwa [show p + (q - p) = q by omega] at this
  have hout : ∀ q, pg b q ≠ 0 → pg b' q = pg b q := fun q hq => by
    rw [hpg]
    by_cases c1 : p ≤ q ∧ q < p + n
    · exact (hq (hzero q c1.1 c1.2)).elim
    · rw [if_neg (by omega), if_neg (by omega)]
  refine book_change h.sizes (fun i hi => h.slot hi) (fun u hu => h.own hu) (by rw [← hb']; rfl) (by rw [← hb']; rfl) hnp hnu (fun v hv => ?_) (fun j hj x hx => ?_) (fun q hq => ?_)
  · rw [ho]
    by_cases e : v = 8 * p
    · rw [if_pos e]
      refine .inr (.inr ⟨by omega, by omega, ?_⟩)
      rw [show s + 1 - 1 = s by omega]; exact hin
    · rw [if_neg e]; exact .inl rfl
  · rw [hhd] at hx
    have := memB_iff.1 (h.list hj hx)
    refine memB_iff.2 ?_
    rw [hnu]
    refine ⟨this.1, this.2.1, ?_, this.2.2.2⟩
    rw [hout _ (by omega)]; exact this.2.2.1
  · by_cases c1 : q = p
    · subst c1
      have hf : FreeP b q 0 := (h.page (p := q) (by omega)).1 (hzero q (by omega) (by omega))
      refine .inr (.inr (.inr ?_))
      have e1 : pg b' q = 8 + (n : Int) := by rw [hpg, if_pos rfl]
      unfold WideP
      rw [e1, hnp]
      refine ⟨by omega, by omega, by omega, by rw [ho, if_pos rfl]; omega, fun u h1 h2 => ?_, fun i h1 h2 => ?_⟩
      · rw [ho, if_neg (by omega)]; exact hf u (by omega) h2
      · rw [hpg, if_neg (by omega), if_pos (by omega)]
    · by_cases c2 : p < q ∧ q < p + n
      · have hf : FreeP b q 0 := (h.page (p := q) (by omega)).1 (hzero q (by omega) (by omega))
        refine .inr (.inr (.inl ⟨by rw [hpg, if_neg c1, if_pos c2], fun u h1 h2 => ?_, p, by omega, by rw [hpg, if_pos rfl]; omega, by rw [hpg, if_pos rfl]; omega⟩))
        rw [ho, if_neg (by omega)]; exact hf u h1 h2
      · refine (h.pageW hq).same hnp (by rw [hpg, if_neg c1, if_neg c2]) (fun u hu => ieq ?_) (fun j hj hj2 u hu => by rw [hhd]) (fun _ q' _ h10 _ => hout _ (by omega)) (fun h10 i h1 h2 => hout _ ?_)
        · rw [ho, if_neg (by omega)]
        · have := (h.wide hq h10).2.2.2.2.2 i h1 h2; omega
theorem take_ok {b : Bk} (h : BookP b) {s : Int} (hs0 : 0 ≤ s) (hs1 : s < b.1) (hin : inn b s.toNat ≠ 0) (u : Int) : BookP (takeP b s u).1 := by
  unfold takeP
  rcases kindOf_cases u with hk | ⟨hk, hu1, hu2⟩ | ⟨k, hk4, hk⟩
  · rw [hk, if_pos (by omega)]; exact h
  · rw [hk, if_neg (by omega), if_pos rfl]; exact pages_ok h (by omega) (by omega) hs0 hs1 hin
  · rw [hk, if_neg (by omega), if_neg (by omega)]
    dsimp only
    rw [Int.toNat_natCast]
    by_cases c : (hd b k).length = 0
    · rw [if_pos c]
      by_cases c2 : runOf b.2.1 1 < 0
      · rw [if_pos c2]; exact h
      · rw [if_neg c2]
        obtain ⟨p, e, hp, hz⟩ := runOf_in (by omega) c2
        rw [e, Int.toNat_natCast]
        exact carve_ok h hk4 (by omega) (by have := hz 0 (by omega); rwa [Nat.add_zero] at this) (List.eq_nil_of_length_eq_zero c) hs0 hs1 hin
    · rw [if_neg c]
      cases hl : hd b k with
      | nil => rw [hl] at c; exact (c rfl).elim
      | cons x r =>
        have hm := memB_iff.1 (h.list hk4 (x := x) (by rw [hl]; exact List.mem_cons_self))
        have hdim := h.dims
        refine pop_ok h.sizes (fun i hi => h.slot hi) (fun u hu => h.own hu) (fun j hj y hy => h.list hj hy) hk4 (p0 := (x / 8).toNat) hm.2.2.1 ?_ (fun p hp _ => h.pageW hp) hl rfl hs0 hs1 hin
        have := ((h.page (p := (x / 8).toNat) (by omega)).2.1 (by omega)).1
        rwa [hm.2.2.1, show ((k : Int) + 1 - 1).toNat = k by omega] at this
theorem slotB_iff {b : Bk} {i : Nat} : slotB b i = true ↔ 0 ≤ inn b i ∧ inn b i ≤ 2 ∧ 0 ≤ ep b i ∧ ep b i ≤ 4095 ∧ (ep b i = 0 → inn b i = 0) := by
  unfold slotB; exact decide_eq_true_iff
/-- A valid book's rows are short and its numbers are Go's. -/
theorem BookP.short {b : Bk} (h : BookP b) : Bshort b := by
  have hdim := h.dims
  have hsl := h.slots
  have e1 : np b = b.2.1.length := rfl
  have e2 : nu b = b.2.2.2.1.length := rfl
  have key : ∀ j, j < 4 → (hd b j).length ≤ 4194304 := fun j hj => by have := h.hd_len hj; omega
  refine ⟨?_, fun j => ?_, ?_, ?_, ?_⟩
  · show b.2.1.length ≤ 4194304; omega
  · by_cases c : j < 4
    · exact key j c
    · obtain ⟨q, rfl⟩ : ∃ q, j = q + 3 := ⟨j - 3, by omega⟩
      exact key 3 (by omega)
  · show b.2.2.2.1.length ≤ 4194304; omega
  · show b.2.2.2.2.1.length ≤ 4194304; omega
  · show b.2.2.2.2.2.length ≤ 4194304; omega
theorem ints_of {l : List Int} (h : ∀ i, i < l.length → -100000 ≤ l.getD i 0 ∧ l.getD i 0 ≤ 100000) : Ints l := by
  intro x hx
  obtain ⟨j, hj, e⟩ := mem_getD hx
  have := h j hj
  rw [e] at this
  exact ⟨by omega, by omega⟩
theorem BookP.ints {b : Bk} (h : BookP b) : Bi b := by
  have hdim := h.dims
  have hsl := h.slots
  have key : ∀ j, j < 4 → Ints (hd b j) := fun j hj x hx => by have := h.mem hj hx; exact ⟨by omega, by omega⟩
  refine ⟨⟨by omega, by omega⟩, ints_of fun i hi => ?_, fun j => ?_, ints_of fun i hi => ?_, ints_of fun i hi => ?_, ints_of fun i hi => ?_⟩
  · have := h.cases (p := i) hi
    rw [fold_pg]; omega
  · by_cases c : j < 4
    · exact key j c
    · obtain ⟨q, rfl⟩ : ∃ q, j = q + 3 := ⟨j - 3, by omega⟩
      exact key 3 (by omega)
  · have := ownB_iff.1 (h.own (u := i) hi)
    rw [fold_ow]; omega
  · have := slotB_iff.1 (h.slot (i := i) (by omega))
    rw [fold_in]; omega
  · have := slotB_iff.1 (h.slot (i := i) (by omega))
    rw [fold_ep]; omega
def bk0 : Bk := (0, [], ([], [], [], []), [], [], [])
theorem bk0_short : Bshort bk0 := ⟨Nat.zero_le _, fun k => by match k with | 0 => exact Nat.zero_le _ | 1 => exact Nat.zero_le _ | 2 => exact Nat.zero_le _ | _ + 3 => exact Nat.zero_le _, Nat.zero_le _, Nat.zero_le _, Nat.zero_le _⟩
theorem bk0_ints : Bi bk0 := ⟨⟨by decide, by decide⟩, fun x h => (by cases h), fun k => by match k with | 0 => exact fun x h => (by cases h) | 1 => exact fun x h => (by cases h) | 2 => exact fun x h => (by cases h) | _ + 3 => exact fun x h => (by cases h), fun x h => (by cases h), fun x h => (by cases h), fun x h => (by cases h)⟩
theorem markIntSA4_eq (N : Nat) (hN : Fuel N) (l0 l1 l2 l3 : List Int) (s0 : Short l0) (s1 : Short l1) (s2 : Short l2) (s3 : Short l3) (x : Int) (h1 : 0 ≤ x) (h2 : x ≤ 1000000000) : laws_markIntSA4 N ((), (), (), ()) x l0 l1 l2 l3 =
    some (x + l0.length + l1.length + l2.length + l3.length, (marks x l0.length, marks (x + l0.length) l1.length, marks (x + l0.length + l1.length) l2.length, marks (x + l0.length + l1.length + l2.length) l3.length)) := by
  have t0 := s0; have t1 := s1; have t2 := s2; have t3 := s3
  unfold Short at t0 t1 t2 t3
  have e0 := markIntS_eq N hN l0 x s0 (by omega) (by omega)
  have e1 := markIntS_eq N hN l1 (x + l0.length) s1 (by omega) (by omega)
  have e2 := markIntS_eq N hN l2 (x + l0.length + l1.length) s2 (by omega) (by omega)
  have e3 := markIntS_eq N hN l3 (x + l0.length + l1.length + l2.length) s3 (by omega) (by omega)
  have w : ∀ x : Int, 0 ≤ x → x ≤ 4 → IntKind.i64.wrap (x + 1) = x + 1 := fun x h1 h2 => w64 (by omega) (by omega)
  obtain ⟨k, rfl⟩ : ∃ k, N = k + 1 + 1 + 1 + 1 + 1 := ⟨N - 5, by unfold Fuel at hN; omega⟩
  unfold laws_markIntSA4
  rw [laws_markIntSA4.l0]
  simp (disch := omega) only [ct, cf, w, e0, Option.bind_some, decide_true, cond_true]
  rw [laws_markIntSA4.l0]
  simp (disch := omega) only [ct, cf, w, e1, Option.bind_some, decide_true, cond_true]
  rw [laws_markIntSA4.l0]
  simp (disch := omega) only [ct, cf, w, e2, Option.bind_some, decide_true, cond_true]
  rw [laws_markIntSA4.l0]
  simp (disch := omega) only [ct, cf, w, e3, Option.bind_some, decide_true, cond_true]
  rw [laws_markIntSA4.l0]
  simp (disch := omega) only [ct, cf, w, Option.bind_some, decide_true, cond_true]
theorem heldIntSA4_eq (N : Nat) (hN : Fuel N) (n0 n1 n2 n3 : Nat) (t0 : n0 ≤ 4194304) (t1 : n1 ≤ 4194304) (t2 : n2 ≤ 4194304) (t3 : n3 ≤ 4194304) (x : Int) (h1 : 0 ≤ x) (h2 : x ≤ 1000000000) :
    laws_heldIntSA4 N (marks x n0, marks (x + n0) n1, marks (x + n0 + n1) n2, marks (x + n0 + n1 + n2) n3) x = some (x + n0 + n1 + n2 + n3, ()) := by
  have e0 := heldIntS_eq N hN n0 x t0 (by omega) (by omega)
  have e1 := heldIntS_eq N hN n1 (x + n0) t1 (by omega) (by omega)
  have e2 := heldIntS_eq N hN n2 (x + n0 + n1) t2 (by omega) (by omega)
  have e3 := heldIntS_eq N hN n3 (x + n0 + n1 + n2) t3 (by omega) (by omega)
  have w : ∀ x : Int, 0 ≤ x → x ≤ 4 → IntKind.i64.wrap (x + 1) = x + 1 := fun x h1 h2 => w64 (by omega) (by omega)
  obtain ⟨k, rfl⟩ : ∃ k, N = k + 1 + 1 + 1 + 1 + 1 := ⟨N - 5, by unfold Fuel at hN; omega⟩
  unfold laws_heldIntSA4
  rw [laws_heldIntSA4.l0]
  simp (disch := omega) only [ct, cf, w, e0, Option.bind_some, decide_true, cond_true]
  rw [laws_heldIntSA4.l0]
  simp (disch := omega) only [ct, cf, w, e1, Option.bind_some, decide_true, cond_true]
  rw [laws_heldIntSA4.l0]
  simp (disch := omega) only [ct, cf, w, e2, Option.bind_some, decide_true, cond_true]
  rw [laws_heldIntSA4.l0]
  simp (disch := omega) only [ct, cf, w, e3, Option.bind_some, decide_true, cond_true]
  rw [laws_heldIntSA4.l0]
  simp (disch := omega) only [ct, cf, w, Option.bind_some, decide_true, cond_true]
/-- A book whose rows are marked. -/
def markB (b : Bk) : Bk :=
  (b.1, marks 1 b.2.1.length,
    (marks (1 + b.2.1.length) b.2.2.1.1.length, marks (1 + b.2.1.length + b.2.2.1.1.length) b.2.2.1.2.1.length, marks (1 + b.2.1.length + b.2.2.1.1.length + b.2.2.1.2.1.length) b.2.2.1.2.2.1.length, marks (1 + b.2.1.length + b.2.2.1.1.length + b.2.2.1.2.1.length + b.2.2.1.2.2.1.length) b.2.2.1.2.2.2.length),
    marks (1 + b.2.1.length + b.2.2.1.1.length + b.2.2.1.2.1.length + b.2.2.1.2.2.1.length + b.2.2.1.2.2.2.length) b.2.2.2.1.length,
    marks (1 + b.2.1.length + b.2.2.1.1.length + b.2.2.1.2.1.length + b.2.2.1.2.2.1.length + b.2.2.1.2.2.2.length + b.2.2.2.1.length) b.2.2.2.2.1.length,
    marks (1 + b.2.1.length + b.2.2.1.1.length + b.2.2.1.2.1.length + b.2.2.1.2.2.1.length + b.2.2.1.2.2.2.length + b.2.2.2.1.length + b.2.2.2.2.1.length) b.2.2.2.2.2.length)
def markN (b : Bk) : Int := 1 + b.2.1.length + b.2.2.1.1.length + b.2.2.1.2.1.length + b.2.2.1.2.2.1.length + b.2.2.1.2.2.2.length + b.2.2.2.1.length + b.2.2.2.2.1.length + b.2.2.2.2.2.length
theorem markBook_eq (N : Nat) (hN : Fuel N) (b : Bk) (h : Bshort b) (a0 : BkU) : laws_markBook N a0 1 b.2.1 b.2.2.1.1 b.2.2.1.2.1 b.2.2.1.2.2.1 b.2.2.1.2.2.2 b.2.2.2.1 b.2.2.2.2.1 b.2.2.2.2.2 =
    some (markN b, ((markB b).2.1, (markB b).2.2.1.1, (markB b).2.2.1.2.1, (markB b).2.2.1.2.2.1, (markB b).2.2.1.2.2.2, (markB b).2.2.2.1, (markB b).2.2.2.2.1, (markB b).2.2.2.2.2)) := by
  obtain ⟨g0, g1, g2, g3, g4⟩ := h
  have r0 : Short b.2.2.1.1 := g1 0
  have r1 : Short b.2.2.1.2.1 := g1 1
  have r2 : Short b.2.2.1.2.2.1 := g1 2
  have r3 : Short b.2.2.1.2.2.2 := g1 3
  have t0 := g0; have t1 := r0; have t2 := r1; have t3 := r2; have t4 := r3; have t5 := g2; have t6 := g3; have t7 := g4
  unfold Short at t0 t1 t2 t3 t4 t5 t6 t7
  unfold laws_markBook
  rw [markIntS_eq N hN _ _ g0 (by omega) (by omega)]
  simp only [Option.bind_some]
  rw [markIntSA4_eq N hN _ _ _ _ r0 r1 r2 r3 _ (by omega) (by omega)]
  simp only [Option.bind_some]
  rw [markIntS_eq N hN _ _ g2 (by omega) (by omega)]
  simp only [Option.bind_some]
  rw [markIntS_eq N hN _ _ g3 (by omega) (by omega)]
  simp only [Option.bind_some]
  rw [markIntS_eq N hN _ _ g4 (by omega) (by omega)]
  rfl
theorem heldBook_eq (N : Nat) (hN : Fuel N) (b : Bk) (h : Bshort b) : laws_heldBook N (markB b) 1 = some (markN b, ()) := by
  obtain ⟨g0, g1, g2, g3, g4⟩ := h
  have r0 : Short b.2.2.1.1 := g1 0
  have r1 : Short b.2.2.1.2.1 := g1 1
  have r2 : Short b.2.2.1.2.2.1 := g1 2
  have r3 : Short b.2.2.1.2.2.2 := g1 3
  unfold Short at r0 r1 r2 r3 g0 g2 g3 g4
  unfold laws_heldBook markB
  dsimp only
  rw [heldIntS_eq N hN _ _ g0 (by omega) (by omega)]
  simp only [Option.bind_some]
  rw [cf (by omega), heldIntSA4_eq N hN _ _ _ _ r0 r1 r2 r3 _ (by omega) (by omega)]
  simp only [Option.bind_some]
  rw [cf (by omega), heldIntS_eq N hN _ _ g2 (by omega) (by omega)]
  simp only [Option.bind_some]
  rw [cf (by omega), heldIntS_eq N hN _ _ g3 (by omega) (by omega)]
  simp only [Option.bind_some]
  rw [cf (by omega), heldIntS_eq N hN _ _ g4 (by omega) (by omega)]
  simp only [Option.bind_some]
  rw [cf (by omega)]
  rfl
/-- A book with other slots. -/
def wIE (b : Bk) (is es : List Int) : Bk := (b.1, b.2.1, b.2.2.1, b.2.2.2.1, is, es)
theorem hd_wIE (b : Bk) (is es : List Int) (k : Nat) : hd (wIE b is es) k = hd b k := hd_heads _ _ rfl k
theorem popP_wIE (b : Bk) (s : Int) (k : Nat) (is es : List Int) : popP (wIE b is es) s k = (wIE (popP b s k).1 is es, (popP b s k).2) := by
  unfold popP
  rw [hd_wIE]
  rfl
theorem takeP_wIE (b : Bk) (s u : Int) (is es : List Int) : takeP (wIE b is es) s u = (wIE (takeP b s u).1 is es, (takeP b s u).2) := by
  unfold takeP
  by_cases c1 : kindOf u < 0
  · rw [if_pos c1, if_pos c1]
  rw [if_neg c1, if_neg c1]
  by_cases c2 : kindOf u = 4
  · rw [if_pos c2, if_pos c2]
    unfold pagesP
    have e : (wIE b is es).2.1 = b.2.1 := rfl
    rw [e]
    by_cases c3 : runOf b.2.1 ((u + 7) / 8).toNat < 0
    · rw [if_pos c3, if_pos c3]
    · rw [if_neg c3, if_neg c3]; rfl
  rw [if_neg c2, if_neg c2]
  dsimp only
  rw [hd_wIE]
  by_cases c3 : (hd b (kindOf u).toNat).length = 0
  · rw [if_pos c3, if_pos c3]
    have e : (wIE b is es).2.1 = b.2.1 := rfl
    rw [e]
    by_cases c4 : runOf b.2.1 1 < 0
    · rw [if_pos c4, if_pos c4]
    · rw [if_neg c4, if_neg c4, ← popP_wIE]
      have e2 : carveP (wIE b is es) (runOf b.2.1 1).toNat (kindOf u).toNat = wIE (carveP b (runOf b.2.1 1).toNat (kindOf u).toNat) is es := by
        unfold carveP
        rw [hd_wIE]
        rfl
      rw [e2]
  · rw [if_neg c3, if_neg c3, popP_wIE]
/-- A book that would be valid with somebody in slot 0. -/
def Near (b : Bk) : Prop := ∃ is es, BookP (wIE b is es) ∧ inn (wIE b is es) 0 ≠ 0
theorem Near.take {b : Bk} (h : Near b) (u : Int) : Near (takeP b 0 u).1 := by
  obtain ⟨is, es, hb, hi⟩ := h
  have hdim := hb.dims
  refine ⟨is, es, ?_, hi⟩
  have := take_ok hb (s := 0) (by omega) (by omega) hi u
  rwa [takeP_wIE] at this
/-- There is a value, and it has the property. -/
def Ok {α : Type _} (x : Option α) (P : α → Prop) : Prop := ∃ a, x = some a ∧ P a
theorem Ok.bind {α β : Type _} {x : Option α} {P : α → Prop} {f : α → Option β} {Q : β → Prop} (h : Ok x P) (g : ∀ a, P a → Ok (f a) Q) : Ok (x.bind f) Q := by
  obtain ⟨a, rfl, h⟩ := h
  exact g a h
theorem Ok.of {α : Type _} {x : Option α} {P Q : α → Prop} (h : Ok x P) (g : ∀ a, P a → Q a) : Ok x Q := by
  obtain ⟨a, e, h⟩ := h; exact ⟨a, e, g a h⟩
/-- Short lists of small numbers. -/
def Sm (n : Nat) (l : List Int) : Prop := l.length ≤ n ∧ ∀ x ∈ l, -100000 ≤ x ∧ x ≤ 100000
theorem Sm.set {n : Nat} {l : List Int} (h : Sm n l) (i : Nat) {x : Int} (h1 : -100000 ≤ x) (h2 : x ≤ 100000) : Sm n (l.set i x) := by
  refine ⟨by rw [List.length_set]; exact h.1, fun y hy => ?_⟩
  rcases List.mem_or_eq_of_mem_set hy with g | g
  · exact h.2 y g
  · rw [g]; exact ⟨h1, h2⟩
theorem Sm.short {l : List Int} (h : Sm 100 l) : Short l := by have := h.1; unfold Short; omega
theorem Sm.ints {n : Nat} {l : List Int} (h : Sm n l) : Ints l := fun x hx => by have := h.2 x hx; exact ⟨by omega, by omega⟩
/-- A book that is small. -/
def Bd (b : Bk) : Prop := (-100 ≤ b.1 ∧ b.1 ≤ 100) ∧ Sm 100 b.2.1 ∧ (Sm 100 b.2.2.1.1 ∧ Sm 100 b.2.2.1.2.1 ∧ Sm 100 b.2.2.1.2.2.1 ∧ Sm 100 b.2.2.1.2.2.2) ∧ Sm 100 b.2.2.2.1 ∧ (∀ x ∈ b.2.2.2.1, 0 ≤ x ∧ x ≤ 10) ∧ Sm 100 b.2.2.2.2.1 ∧ Sm 100 b.2.2.2.2.2
theorem Bd.short {b : Bk} (h : Bd b) : Bshort b := by
  obtain ⟨h0, h1, ⟨g0, g1, g2, g3⟩, h2, _, h3, h4⟩ := h
  exact ⟨h1.short, fun k => by match k with | 0 => exact g0.short | 1 => exact g1.short | 2 => exact g2.short | _ + 3 => exact g3.short, h2.short, h3.short, h4.short⟩
theorem Bd.ints {b : Bk} (h : Bd b) : Bi b := by
  obtain ⟨h0, h1, ⟨g0, g1, g2, g3⟩, h2, _, h3, h4⟩ := h
  exact ⟨⟨by omega, by omega⟩, h1.ints, fun k => by match k with | 0 => exact g0.ints | 1 => exact g1.ints | 2 => exact g2.ints | _ + 3 => exact g3.ints, h2.ints, h3.ints, h4.ints⟩
/-- A new book. -/
def openP (c : Cfg) : Bk := (c.1, List.replicate c.2.1.toNat 0, ([], [], [], []), List.replicate (c.2.1 * 8).toNat 0, List.replicate c.1.toNat 0, List.replicate c.1.toNat 0)
theorem rep_getD (n i : Nat) : (List.replicate n (0 : Int)).getD i 0 = 0 := by
  rw [List.getD_eq_getElem?_getD, List.getElem?_replicate]
  split <;> rfl
theorem spec_BookOpen_eq (N : Nat) {c : Cfg} (h : Plat c) : spec_BookOpen N c = some (((openP c).1, (), ((), (), (), ()), (), (), ()), ((openP c).2.1, (openP c).2.2.2.1, (openP c).2.2.2.2.1, (openP c).2.2.2.2.2)) := by
  unfold spec_BookOpen
  rw [spec_PlatOk_eq, dt h]
  unfold Plat at h
  simp only [Option.bind_some, Bool.not_true, cond_false]
  rw [w64 (n := c.2.1 * 8) (by omega) (by omega)]
  repeat rw [ct (by omega)]
  rfl
theorem list_ext {l m : List Int} (hl : l.length = m.length) (h : ∀ i, l.getD i 0 = m.getD i 0) : l = m := by
  apply List.ext_getElem hl
  intro i h1 h2
  have := h i
  rwa [getD_lt h1, getD_lt h2] at this
abbrev outT (r : Bk × Bool) : Option ((BkU × Bool) × L8) :=
  some (((r.1.1, (), ((), (), (), ()), (), (), ()), r.2), (r.1.2.1, r.1.2.2.1.1, r.1.2.2.1.2.1, r.1.2.2.1.2.2.1, r.1.2.2.1.2.2.2, r.1.2.2.2.1, r.1.2.2.2.2.1, r.1.2.2.2.2.2))
def hA (c : Cfg) : Nat := (3 + 2 * c.1).toNat
def pA (c : Cfg) : Nat := (7 + 2 * c.1).toNat
def tA (c : Cfg) : Nat := (7 + 2 * c.1 + c.2.1).toNat
def kA (c : Cfg) : Nat := (7 + 2 * c.1 + 9 * c.2.1).toNat
def dA (c : Cfg) : Nat := (house c).toNat
theorem plat_at {c : Cfg} (h : Plat c) : (hA c : Int) = 3 + 2 * c.1 ∧ (pA c : Int) = 7 + 2 * c.1 ∧ (tA c : Int) = 7 + 2 * c.1 + c.2.1 ∧ (kA c : Int) = 7 + 2 * c.1 + 9 * c.2.1 ∧ (dA c : Int) = 7 + 2 * c.1 + 17 * c.2.1 ∧ 1 ≤ c.1 ∧ c.1 ≤ 4 ∧ 1 ≤ c.2.1 ∧ c.2.1 ≤ 6 := by
  unfold Plat at h
  unfold hA pA tA kA dA house
  omega
/-- A list is written as a chain: each place names the next unit. -/
def chainP (k0 : Nat) : List Int → Nat → List Int → List Int
  | M, p, [] => M
  | M, p, u :: r => chainP k0 (M.set p (u + 1)) (k0 + u.toNat) r
theorem chainP_len (k0 : Nat) : ∀ (l M : List Int) (p : Nat), (chainP k0 M p l).length = M.length
  | [], M, p => rfl
  | u :: r, M, p => by rw [chainP, chainP_len k0 r, List.length_set]
/-- The first of a list, as a place names it. -/
def headOr (l : List Int) (d : Int) : Int := match l with
  | [] => d
  | x :: _ => x + 1
/-- What follows a unit in a list, as a place names it. -/
def nextOr : List Int → Int → Int → Int
  | [], _, d => d
  | x :: r, u, d => if x = u then headOr r d else nextOr r u d
theorem nextOr_not : ∀ (l : List Int) (u d : Int), u ∉ l → nextOr l u d = d
  | [], u, d, _ => rfl
  | x :: r, u, d, h => by
    rw [nextOr, if_neg (fun e => h (by rw [e]; exact List.mem_cons_self)), nextOr_not r u d (fun g => h (List.mem_cons_of_mem _ g))]
theorem chainP_getD (k0 : Nat) : ∀ (l M : List Int) (p : Nat), l.Nodup → (∀ x ∈ l, 0 ≤ x ∧ k0 + x.toNat < M.length) → p < M.length → (∀ x ∈ l, k0 + x.toNat ≠ p) → ∀ j,
    (chainP k0 M p l).getD j 0 = if j = p then headOr l (M.getD j 0) else if k0 ≤ j then nextOr l ((j - k0 : Nat) : Int) (M.getD j 0) else M.getD j 0
  | [], M, p, _, _, _, _, j => by
    rw [chainP]
    unfold headOr nextOr
    split
    · rfl
    split <;> rfl
  | x :: r, M, p, hn, hx, hp, hne, j => by
    have hn' := List.nodup_cons.1 hn
    have hx0 := hx x List.mem_cons_self
    have hp0 := hne x List.mem_cons_self
    have ih := chainP_getD k0 r (M.set p (x + 1)) (k0 + x.toNat) hn'.2 (fun y hy => by rw [List.length_set]; exact hx y (List.mem_cons_of_mem _ hy)) (by rw [List.length_set]; exact hx0.2) (fun y hy e => by
      have := hx y (List.mem_cons_of_mem _ hy)
      have : y = x := by omega
      rw [this] at hy; exact hn'.1 hy) j
    have hM : (M.set p (x + 1)).getD j 0 = if j = p then x + 1 else M.getD j 0 := getD_set _ _ _ _ hp
    rw [chainP, ih, hM]
    by_cases c1 : j = p
    · subst c1
      rw [if_neg (show ¬ j = k0 + x.toNat from fun e => hp0 e.symm), if_pos rfl, if_pos rfl]
      have hh : headOr (x :: r) (M.getD j 0) = x + 1 := rfl
      rw [hh]
      split
      · rw [nextOr_not]
        intro g
        exact hne _ (List.mem_cons_of_mem _ g) (by omega)
      · rfl
    · rw [if_neg c1, if_neg c1]
      by_cases c2 : j = k0 + x.toNat
      · rw [if_pos c2, if_pos (by omega), nextOr, if_pos (by omega)]
      · rw [if_neg c2]
        split
        · rw [nextOr, if_neg (by omega)]
        · rfl
/-- The values but for the lists. -/
def baseV (c : Cfg) (b : Bk) (j : Nat) : Int :=
  if 3 ≤ j ∧ j < 3 + c.1.toNat then inn b (j - 3) + 4 * ep b (j - 3) else if pA c ≤ j ∧ j < tA c then pg b (j - pA c) else if tA c ≤ j ∧ j < kA c then ow b (j - tA c) else 0
def baseP (c : Cfg) (b : Bk) : List Int := (List.range (dA c)).map (baseV c b)
theorem map_range_getD (f : Nat → Int) (n j : Nat) (h : j < n) : ((List.range n).map f).getD j 0 = f j := by
  rw [getD_lt (by simp; exact h)]; simp
theorem baseP_len (c : Cfg) (b : Bk) : (baseP c b).length = dA c := by unfold baseP; simp
theorem baseP_getD (c : Cfg) (b : Bk) (j : Nat) (h : j < dA c) : (baseP c b).getD j 0 = baseV c b j := map_range_getD _ _ _ h
/-- The words' values of a book. -/
def layP (c : Cfg) (b : Bk) : List Int :=
  chainP (kA c) (chainP (kA c) (chainP (kA c) (chainP (kA c) (baseP c b) (hA c) (hd b 0)) (hA c + 1) (hd b 1)) (hA c + 2) (hd b 2)) (hA c + 3) (hd b 3)
theorem layP_len (c : Cfg) (b : Bk) : (layP c b).length = dA c := by
  unfold layP
  rw [chainP_len, chainP_len, chainP_len, chainP_len, baseP_len]
/-- A book that is one of a house. -/
def Fit (c : Cfg) (b : Bk) : Prop := Plat c ∧ BookP b ∧ b.1 = c.1 ∧ (np b : Int) = c.2.1
theorem nodup_of {l : List Int} (h : ∀ x ∈ l, l.count x ≤ 1) : l.Nodup := List.nodup_iff_count.2 fun x => by
  by_cases c : x ∈ l
  · exact h x c
  · rw [List.count_eq_zero.2 c]; omega
theorem BookP.nodup {b : Bk} (h : BookP b) {k : Nat} (hk : k < 4) : (hd b k).Nodup := nodup_of fun x hx => by
  have hm := h.mem hk hx
  have := page_count h.sizes (fun k hk x hx => h.list hk hx) (fun p hp => h.pageW hp) hk (u := x.toNat) (by omega)
  rwa [Int.toNat_of_nonneg hm.1] at this
theorem BookP.kinds {b : Bk} (h : BookP b) {k j : Nat} (hk : k < 4) (hj : j < 4) (hne : k ≠ j) {x : Int} (hx : x ∈ hd b k) : x ∉ hd b j := fun g => by
  have h1 := h.mem hk hx
  have h2 := h.mem hj g
  omega
/-- What follows a unit in the list that has it. -/
def nextV (b : Bk) (u : Int) : Int := nextOr (hd b 3) u (nextOr (hd b 2) u (nextOr (hd b 1) u (nextOr (hd b 0) u 0)))
def layV (c : Cfg) (b : Bk) (j : Nat) : Int :=
  if hA c ≤ j ∧ j < pA c then headOr (hd b (j - hA c)) 0 else if kA c ≤ j then nextV b ((j - kA c : Nat) : Int) else baseV c b j
theorem layP_getD {c : Cfg} {b : Bk} (h : Fit c b) (j : Nat) (hj : j < dA c) : (layP c b).getD j 0 = layV c b j := by
  obtain ⟨hc, hb, h1, h2⟩ := h
  obtain ⟨a1, a2, a3, a4, a5, a6, a7, a8, a9⟩ := plat_at hc
  have hdim := hb.dims
  have hm : ∀ k, k < 4 → ∀ x ∈ hd b k, 0 ≤ x ∧ kA c + x.toNat < dA c := fun k hk x hx => by have := hb.mem hk hx; omega
  have hp : ∀ k i, k < 4 → i < 4 → ∀ x ∈ hd b k, kA c + x.toNat ≠ hA c + i := fun k i hk hi x hx => by omega
  have e0 := chainP_getD (kA c) (hd b 0) (baseP c b) (hA c) (hb.nodup (by omega)) (by rw [baseP_len]; exact hm 0 (by omega)) (by rw [baseP_len]; omega) (hp 0 0 (by omega) (by omega)) j
  have e1 := chainP_getD (kA c) (hd b 1) (chainP (kA c) (baseP c b) (hA c) (hd b 0)) (hA c + 1) (hb.nodup (by omega)) (by rw [chainP_len, baseP_len]; exact hm 1 (by omega)) (by rw [chainP_len, baseP_len]; omega) (hp 1 1 (by omega) (by omega)) j
  have e2 := chainP_getD (kA c) (hd b 2) (chainP (kA c) (chainP (kA c) (baseP c b) (hA c) (hd b 0)) (hA c + 1) (hd b 1)) (hA c + 2) (hb.nodup (by omega)) (by rw [chainP_len, chainP_len, baseP_len]; exact hm 2 (by omega)) (by rw [chainP_len, chainP_len, baseP_len]; omega) (hp 2 2 (by omega) (by omega)) j
  have e3 := chainP_getD (kA c) (hd b 3) (chainP (kA c) (chainP (kA c) (chainP (kA c) (baseP c b) (hA c) (hd b 0)) (hA c + 1) (hd b 1)) (hA c + 2) (hd b 2)) (hA c + 3) (hb.nodup (by omega)) (by rw [chainP_len, chainP_len, chainP_len, baseP_len]; exact hm 3 (by omega)) (by rw [chainP_len, chainP_len, chainP_len, baseP_len]; omega) (hp 3 3 (by omega) (by omega)) j
  unfold layP
  rw [e3, e2, e1, e0, baseP_getD c b j hj]
  have hz : hA c ≤ j → (j < pA c ∨ kA c ≤ j) → baseV c b j = 0 := fun g1 g2 => by unfold baseV; rw [if_neg (by omega), if_neg (by omega), if_neg (by omega)]
  unfold layV
  by_cases g : hA c ≤ j ∧ j < pA c
  · rw [if_pos g, hz g.1 (.inl g.2)]
    obtain ⟨i, rfl⟩ : ∃ i, j = hA c + i := ⟨j - hA c, by omega⟩
    rw [show hA c + i - hA c = i by omega]
    have hi : i = 0 ∨ i = 1 ∨ i = 2 ∨ i = 3 := by omega
    rcases hi with rfl | rfl | rfl | rfl
    · rw [if_neg (by omega), if_neg (by omega), if_neg (by omega), if_neg (by omega), if_neg (by omega), if_neg (by omega), if_pos (by omega)]
    · rw [if_neg (by omega), if_neg (by omega), if_neg (by omega), if_neg (by omega), if_pos (by omega), if_neg (by omega), if_neg (by omega)]
    · rw [if_neg (by omega), if_neg (by omega), if_pos (by omega), if_neg (by omega), if_neg (by omega), if_neg (by omega), if_neg (by omega)]
    · rw [if_pos (by omega), if_neg (by omega), if_neg (by omega), if_neg (by omega), if_neg (by omega), if_neg (by omega), if_neg (by omega)]
  · have n0 : ¬ j = hA c := fun e => g ⟨by omega, by omega⟩
    have n1 : ¬ j = hA c + 1 := fun e => g ⟨by omega, by omega⟩
    have n2 : ¬ j = hA c + 2 := fun e => g ⟨by omega, by omega⟩
    have n3 : ¬ j = hA c + 3 := fun e => g ⟨by omega, by omega⟩
    rw [if_neg g, if_neg n3, if_neg n2, if_neg n1, if_neg n0]
    by_cases g2 : kA c ≤ j
    · simp only [if_pos g2]
      rw [hz (by omega) (.inr g2)]; rfl
    · simp only [if_neg g2]
/-- What follows a unit of a list. -/
theorem nextV_mem {b : Bk} (h : BookP b) {k : Nat} (hk : k < 4) {u : Int} (hu : u ∈ hd b k) : nextV b u = nextOr (hd b k) u 0 := by
  have hno : ∀ j, j < 4 → j ≠ k → u ∉ hd b j := fun j hj hne => h.kinds hk hj (fun e => hne e.symm) hu
  unfold nextV
  have hi : k = 0 ∨ k = 1 ∨ k = 2 ∨ k = 3 := by omega
  rcases hi with rfl | rfl | rfl | rfl
  · rw [nextOr_not _ _ _ (hno 3 (by omega) (by omega)), nextOr_not _ _ _ (hno 2 (by omega) (by omega)), nextOr_not _ _ _ (hno 1 (by omega) (by omega))]
  · rw [nextOr_not _ _ _ (hno 3 (by omega) (by omega)), nextOr_not _ _ _ (hno 2 (by omega) (by omega)), nextOr_not (hd b 0) _ _ (hno 0 (by omega) (by omega))]
  · rw [nextOr_not _ _ _ (hno 3 (by omega) (by omega)), nextOr_not (hd b 1) _ _ (hno 1 (by omega) (by omega)), nextOr_not (hd b 0) _ _ (hno 0 (by omega) (by omega))]
  · rw [nextOr_not (hd b 2) _ _ (hno 2 (by omega) (by omega)), nextOr_not (hd b 1) _ _ (hno 1 (by omega) (by omega)), nextOr_not (hd b 0) _ _ (hno 0 (by omega) (by omega))]
/-- A chain, as far as it goes. -/
def chainR (v : Nat → Int) (k0 : Nat) (U : Int) : Nat → Int → List Int
  | 0, _ => []
  | n + 1, a => if 0 < a ∧ a ≤ U then (a - 1) :: chainR v k0 U n (v (k0 + (a - 1).toNat)) else []
/-- Does a chain end, within so many places? -/
def chainB (v : Nat → Int) (k0 : Nat) (U : Int) : Nat → Int → Bool
  | n, a => if a = 0 then true else if a > U then false else match n with
    | 0 => false
    | m + 1 => chainB v k0 U m (v (k0 + (a - 1).toNat))
/-- A list that is written is read. -/
theorem chain_read (v : Nat → Int) (k0 : Nat) (U : Int) : ∀ (l : List Int) (n : Nat), l.length ≤ n → (∀ x ∈ l, 0 ≤ x ∧ x < U) → l.Nodup → (∀ x ∈ l, v (k0 + x.toNat) = nextOr l x 0) → chainR v k0 U n (headOr l 0) = l ∧ chainB v k0 U n (headOr l 0) = true
  | [], n, _, _, _, _ => by
    have e0 : headOr [] 0 = 0 := rfl
    rw [e0]
    refine ⟨?_, ?_⟩
    · cases n with
      | zero => rfl
      | succ n => rw [chainR, if_neg (by omega)]
    · unfold chainB; rw [if_pos rfl]
  | x :: r, n, hn, hx, hd, hv => by
    obtain ⟨m, rfl⟩ : ∃ m, n = m + 1 := ⟨n - 1, by simp at hn; omega⟩
    have hx0 := hx x List.mem_cons_self
    have hd' := List.nodup_cons.1 hd
    have hv0 := hv x List.mem_cons_self
    rw [nextOr, if_pos rfl] at hv0
    obtain ⟨i1, i2⟩ := chain_read v k0 U r m (by simp at hn; omega) (fun y hy => hx y (List.mem_cons_of_mem _ hy)) hd'.2 (fun y hy => by
      have := hv y (List.mem_cons_of_mem _ hy)
      rwa [nextOr, if_neg (fun e => hd'.1 (by rw [e]; exact hy))] at this)
    have hh : headOr (x :: r) 0 = x + 1 := rfl
    rw [hh]
    refine ⟨?_, ?_⟩
    · rw [chainR, if_pos (by omega), show x + 1 - 1 = x by omega, hv0, i1]
    · rw [chainB, if_neg (by omega), if_neg (by omega)]
      show chainB v k0 U m (v (k0 + (x + 1 - 1).toNat)) = true
      rw [show x + 1 - 1 = x by omega, hv0, i2]
/-- The book of some values, whether it is one or not. -/
def readB (c : Cfg) (v : Nat → Int) : Bk :=
  (c.1, (List.range c.2.1.toNat).map (fun i => v (pA c + i)),
    (chainR v (kA c) (8 * c.2.1) ((8 * c.2.1).toNat + 1) (v (hA c)), chainR v (kA c) (8 * c.2.1) ((8 * c.2.1).toNat + 1) (v (hA c + 1)),
      chainR v (kA c) (8 * c.2.1) ((8 * c.2.1).toNat + 1) (v (hA c + 2)), chainR v (kA c) (8 * c.2.1) ((8 * c.2.1).toNat + 1) (v (hA c + 3))),
    (List.range (8 * c.2.1).toNat).map (fun i => v (tA c + i)), (List.range c.1.toNat).map (fun i => v (3 + i) % 4), (List.range c.1.toNat).map (fun i => v (3 + i) / 4))
/-- The values that are a book's are as it lies. -/
def Agree (c : Cfg) (v : Nat → Int) (b : Bk) : Prop := ∀ j, j < dA c → (3 ≤ j ∧ j < 3 + c.1.toNat ∨ hA c ≤ j) → layV c b j = v j
noncomputable def censP (c : Cfg) (v : Nat → Int) : Bk × Bool := @ite _ (BookP (readB c v) ∧ Agree c v (readB c v)) (Classical.propDecidable _) (readB c v, true) (bk0, false)
theorem readB_fit {c : Cfg} (hc : Plat c) {v : Nat → Int} (hb : BookP (readB c v)) : Fit c (readB c v) := by
  refine ⟨hc, hb, rfl, ?_⟩
  unfold Plat at hc
  have : np (readB c v) = c.2.1.toNat := by unfold np readB; simp
  omega
theorem fit_nu {c : Cfg} {b : Bk} (h : Fit c b) : (nu b : Int) = 8 * c.2.1 := by
  have := h.2.1.dims
  have := h.2.2.2
  omega
theorem layV_head {c : Cfg} {b : Bk} (h : Fit c b) {k : Nat} (hk : k < 4) : layV c b (hA c + k) = headOr (hd b k) 0 := by
  obtain ⟨a1, a2, a3, a4, a5, a6, a7, a8, a9⟩ := plat_at h.1
  unfold layV
  rw [if_pos (by omega), show hA c + k - hA c = k by omega]
theorem layV_link {c : Cfg} {b : Bk} (h : Fit c b) (u : Nat) : layV c b (kA c + u) = nextV b u := by
  obtain ⟨a1, a2, a3, a4, a5, a6, a7, a8, a9⟩ := plat_at h.1
  unfold layV
  rw [if_neg (by omega), if_pos (by omega), show kA c + u - kA c = u by omega]
/-- What agrees with a book has its lists as chains that end. -/
theorem agree_chain {c : Cfg} {v : Nat → Int} {b : Bk} (h : Fit c b) (ha : Agree c v b) {k : Nat} (hk : k < 4) (n : Nat) (hn : (nu b : Int) ≤ n) : chainR v (kA c) (8 * c.2.1) n (v (hA c + k)) = hd b k ∧ chainB v (kA c) (8 * c.2.1) n (v (hA c + k)) = true := by
  obtain ⟨a1, a2, a3, a4, a5, a6, a7, a8, a9⟩ := plat_at h.1
  have hnu := fit_nu h
  have hb := h.2.1
  have hl := hb.hd_len hk
  have e : v (hA c + k) = headOr (hd b k) 0 := by rw [← layV_head h hk]; exact (ha _ (by omega) (.inr (by omega))).symm
  rw [e]
  refine chain_read v (kA c) (8 * c.2.1) (hd b k) n (by omega) (fun x hx => by have := hb.mem hk hx; omega) (hb.nodup hk) (fun x hx => ?_)
  have hm := hb.mem hk hx
  have := ha (kA c + x.toNat) (by omega) (.inr (by omega))
  rw [← this, layV_link h, Int.toNat_of_nonneg hm.1, nextV_mem hb hk hx]
theorem map_eq {f : Nat → Int} {l : List Int} {n : Nat} (hl : l.length = n) (h : ∀ i, i < n → f i = l.getD i 0) : (List.range n).map f = l := by
  apply list_ext (by simp; exact hl.symm)
  intro i
  by_cases c : i < n
  · rw [map_range_getD _ _ _ c, h i c]
  · have e1 : l.getD i 0 = 0 := by rw [List.getD_eq_getElem?_getD, List.getElem?_eq_none (by omega)]; rfl
    rw [e1, List.getD_eq_getElem?_getD, List.getElem?_eq_none (by simp; omega)]; rfl
/-- A list with given places. -/
def Mat (n : Nat) (M : List Int) (f : Nat → Int) : Prop := M.length = n ∧ ∀ j, j < n → M.getD j 0 = f j
theorem Mat.set {n : Nat} {M : List Int} {f : Nat → Int} (h : Mat n M f) {p : Nat} (hp : p < n) (x : Int) {g : Nat → Int} (hg : ∀ j, g j = if j = p then x else f j) : Mat n (M.set p x) g :=
  ⟨by rw [List.length_set]; exact h.1, fun j hj => by rw [getD_set _ _ _ _ (by rw [h.1]; exact hp), hg]; split; rfl; exact h.2 j hj⟩
theorem Mat.congr {n : Nat} {M : List Int} {f g : Nat → Int} (h : Mat n M f) (hg : ∀ j, j < n → f j = g j) : Mat n M g := ⟨h.1, fun j hj => by rw [h.2 j hj, hg j hj]⟩
theorem Mat.eq {n : Nat} {M : List Int} {f : Nat → Int} (h : Mat n M f) : M = (List.range n).map f := (map_eq h.1 fun i hi => (h.2 i hi).symm).symm
theorem mat_zero (n : Nat) : Mat n (List.replicate n 0) (fun _ => 0) := ⟨by simp, fun j _ => rep_getD n j⟩
/-- The values of the slots, from those of the first so many on. -/
def regV (b : Bk) (n : Nat) (j : Nat) : Int := if 3 ≤ j ∧ j < 3 + n then inn b (j - 3) + 4 * ep b (j - 3) else 0
def pgV (c : Cfg) (b : Bk) (n : Nat) (j : Nat) : Int := if pA c ≤ j ∧ j < pA c + n then pg b (j - pA c) else regV b c.1.toNat j
def owV (c : Cfg) (b : Bk) (n : Nat) (j : Nat) : Int := if tA c ≤ j ∧ j < tA c + n then ow b (j - tA c) else pgV c b c.2.1.toNat j
theorem owV_base {c : Cfg} (hc : Plat c) (b : Bk) (j : Nat) : owV c b (8 * c.2.1).toNat j = baseV c b j := by
  obtain ⟨a1, a2, a3, a4, a5, a6, a7, a8, a9⟩ := plat_at hc
  unfold owV pgV regV baseV
  by_cases g1 : 3 ≤ j ∧ j < 3 + c.1.toNat
  · rw [if_neg (by omega), if_neg (by omega), if_pos g1, if_pos g1]
  rw [if_neg g1, if_neg g1]
  by_cases g2 : pA c ≤ j ∧ j < tA c
  · rw [if_neg (by omega), if_pos (by omega), if_pos g2]
  rw [if_neg g2]
  by_cases g3 : tA c ≤ j ∧ j < kA c
  · rw [if_pos (by omega), if_pos g3]
  · rw [if_neg (by omega), if_neg (by omega), if_neg g3]
theorem cpy_getD (x : List Int) (o n : Nat) (y : List Int) (h1 : o + n ≤ x.length) (h2 : n ≤ y.length) : (cpy x o n y).length = x.length ∧ ∀ j, (cpy x o n y).getD j 0 = if o ≤ j ∧ j < o + n then y.getD (j - o) 0 else x.getD j 0 := by
  unfold cpy
  refine ⟨by simp; omega, fun j => ?_⟩
  simp only [List.getD_eq_getElem?_getD, List.getElem?_append, List.length_take, List.getElem?_take, List.getElem?_drop]
  by_cases c1 : j < min o x.length
  · rw [if_pos c1, if_pos (by omega), if_neg (by omega)]
  · rw [if_neg c1]
    by_cases c2 : j - min o x.length < min n y.length
    · rw [if_pos c2, if_pos (by omega), if_pos (by omega), show j - min o x.length = j - o by omega]
    · rw [if_neg c2, if_neg (by omega), show o + n + (j - min o x.length - min n y.length) = j by omega]
theorem hd_cases {P : Prop} {k : Nat} (hk : k < 4) (h0 : k = 0 → P) (h1 : k = 1 → P) (h2 : k = 2 → P) (h3 : k = 3 → P) : P := by
  have hi : k = 0 ∨ k = 1 ∨ k = 2 ∨ k = 3 := by omega
  rcases hi with h | h | h | h
  · exact h0 h
  · exact h1 h
  · exact h2 h
  · exact h3 h
theorem impl_lay_l2 (N : Nat) {c : Cfg} {b : Bk} (h : Fit c b) (k : Nat) (l : List Int) (hl : l.length ≤ 48) (hm : ∀ x ∈ l, 0 ≤ x ∧ x < nu b) : ∀ d i K (p : Nat) (M : List Int), i + d = l.length → M.length = dA c → p < dA c →
    impl_lay.l2 N (K + d + 1) (p : Nat) b.2.2.1 k l (l.length : Int) (i : Nat) c M = impl_lay.l1 N K b.2.2.1 (IntKind.i64.wrap ((k : Int) + 1)) c (chainP (kA c) M p (l.drop i))
  | 0, i, K, p, M, e, hM, hp => by
    rw [impl_lay.l2, cf (by omega), drop_end (by omega)]; rfl
  | d + 1, i, K, p, M, e, hM, hp => by
    obtain ⟨a1, a2, a3, a4, a5, a6, a7, a8, a9⟩ := plat_at h.1
    have hnu := fit_nu h
    have hx := hm (l.getD i 0) (by rw [getD_lt (by omega)]; exact List.getElem_mem _)
    rw [drop_at 0 (show i < l.length by omega), chainP]
    rw [show K + (d + 1) + 1 = K + d + 1 + 1 by omega, impl_lay.l2, ct (by omega), bnd (by omega) (by omega), bnd (by omega) (by omega), impl_linkAt_eq N h.1]
    simp only [Option.bind_some]
    rw [Int.toNat_natCast, Int.toNat_natCast, w64 (n := l.getD i 0 + 1) (by omega) (by omega), w64 (n := (i : Int) + 1) (by omega) (by omega), show (i : Int) + 1 = ((i + 1 : Nat) : Int) by omega, w64 (n := 7 + 2 * c.1 + 9 * c.2.1 + l.getD i 0) (by omega) (by omega), show 7 + 2 * c.1 + 9 * c.2.1 + l.getD i 0 = ((kA c + (l.getD i 0).toNat : Nat) : Int) by omega]
    exact impl_lay_l2 N h k l hl hm d (i + 1) K _ _ (by omega) (by rw [List.length_set]; exact hM) (by omega)
theorem impl_lay_l1 (N : Nat) {c : Cfg} {b : Bk} (h : Fit c b) (M : List Int) (hM : M.length = dA c) (K : Nat) (hK : 1000 < K) :
    impl_lay.l1 N K b.2.2.1 0 c M = some ((), chainP (kA c) (chainP (kA c) (chainP (kA c) (chainP (kA c) M (hA c) (hd b 0)) (hA c + 1) (hd b 1)) (hA c + 2) (hd b 2)) (hA c + 3) (hd b 3)) := by
  obtain ⟨a1, a2, a3, a4, a5, a6, a7, a8, a9⟩ := plat_at h.1
  have hnu := fit_nu h
  have hb := h.2.1
  have hdim := hb.dims
  have step : ∀ (k K : Nat) (M : List Int), k < 4 → M.length = dA c → 60 < K → ∃ K', K ≤ K' + 60 ∧ impl_lay.l1 N K b.2.2.1 (k : Nat) c M = impl_lay.l1 N K' b.2.2.1 ((k + 1 : Nat) : Int) c (chainP (kA c) M (hA c + k) (hd b k)) := by
    intro k K M hk hM hK
    have hl := hb.hd_len hk
    have hm : ∀ x ∈ hd b k, 0 ≤ x ∧ x < nu b := fun x hx => by have := hb.mem hk hx; omega
    refine ⟨K - 1 - (hd b k).length - 1, by omega, ?_⟩
    have e := impl_lay_l2 N h k (hd b k) (by omega) hm (hd b k).length 0 (K - 1 - (hd b k).length - 1) (hA c + k) M (by omega) hM (by omega)
    rw [show K - 1 - (hd b k).length - 1 + (hd b k).length + 1 = K - 1 by omega, List.drop_zero, w64 (n := (k : Int) + 1) (by omega) (by omega), show (k : Int) + 1 = ((k + 1 : Nat) : Int) by omega] at e
    rw [← e]
    obtain ⟨K, rfl⟩ := fuel (show 0 < K by omega)
    rw [impl_lay.l1, ct (by omega), impl_headAt_eq N h.1]
    simp only [Option.bind_some]
    rw [w64 (n := 3 + 2 * c.1 + (k : Int)) (by omega) (by omega), show 3 + 2 * c.1 + (k : Int) = ((hA c + k : Nat) : Int) by omega, show K + 1 - 1 = K by omega]
    refine hd_cases hk (fun e => ?_) (fun e => ?_) (fun e => ?_) (fun e => ?_) <;> subst e
    · rw [ct (by omega)]; rfl
    · rw [cf (by omega), ct (by omega)]; rfl
    · rw [cf (by omega), cf (by omega), ct (by omega)]; rfl
    · rw [cf (by omega), cf (by omega), cf (by omega), ct (by omega)]; rfl
  obtain ⟨K1, g1, e1⟩ := step 0 K M (by omega) hM (by omega)
  obtain ⟨K2, g2, e2⟩ := step 1 K1 (chainP (kA c) M (hA c + 0) (hd b 0)) (by omega) (by simp only [chainP_len]; exact hM) (by omega)
  obtain ⟨K3, g3, e3⟩ := step 2 K2 (chainP (kA c) (chainP (kA c) M (hA c + 0) (hd b 0)) (hA c + 1) (hd b 1)) (by omega) (by simp only [chainP_len]; exact hM) (by omega)
  obtain ⟨K4, g4, e4⟩ := step 3 K3 (chainP (kA c) (chainP (kA c) (chainP (kA c) M (hA c + 0) (hd b 0)) (hA c + 1) (hd b 1)) (hA c + 2) (hd b 2)) (by omega) (by simp only [chainP_len]; exact hM) (by omega)
  have e1' : impl_lay.l1 N K b.2.2.1 0 c M = _ := e1
  rw [e1', e2, e3, e4]
  obtain ⟨K4, rfl⟩ := fuel (show 0 < K4 by omega)
  rw [impl_lay.l1, cf (by omega)]; rfl
theorem impl_lay_l0 (N : Nat) {c : Cfg} {b : Bk} (h : Fit c b) : ∀ d i K (M : List Int), i + d = c.1.toNat → d + 2000 < K → Mat (dA c) M (regV b i) → impl_lay.l0 N K c.1 (i : Nat) c b M = some ((), layP c b)
  | 0, i, K, M, e, hK, hM => by
    obtain ⟨a1, a2, a3, a4, a5, a6, a7, a8, a9⟩ := plat_at h.1
    have hnu := fit_nu h
    have hnp : np b = b.2.1.length := rfl
    have hnub : nu b = b.2.2.2.1.length := rfl
    have h2 := h.2.2.2
    obtain ⟨K, rfl⟩ := fuel (show 0 < K by omega)
    obtain rfl : i = c.1.toNat := by omega
    have hlen := hM.1
    have p1 : (7 + 2 * c.1).toNat = pA c := rfl
    have p2 : (7 + 2 * c.1 + c.2.1).toNat = tA c := rfl
    rw [impl_lay.l0, cf (by omega), impl_pageAt_eq N h.1]
    simp only [Option.bind_some]
    rw [dt (show (0 : Int) ≤ 7 + 2 * c.1 by omega), dt (show 7 + 2 * c.1 ≤ (M.length : Int) by omega), impl_tagAt_eq N h.1, p1, Nat.min_eq_left (by omega)]
    simp only [Option.bind_some, cond_true]
    obtain ⟨q1, q2⟩ := cpy_getD M (pA c) b.2.1.length b.2.1 (by omega) (by omega)
    have hM1 : Mat (dA c) (cpy M (pA c) b.2.1.length b.2.1) (pgV c b c.2.1.toNat) := ⟨by omega, fun j hj => by
      rw [q2 j]
      unfold pgV
      by_cases g : pA c ≤ j ∧ j < pA c + b.2.1.length
      · rw [if_pos g, if_pos (by omega)]; rfl
      · rw [if_neg g, if_neg (by omega), hM.2 j hj]⟩
    obtain ⟨r1, r2⟩ := cpy_getD (cpy M (pA c) b.2.1.length b.2.1) (tA c) b.2.2.2.1.length b.2.2.2.1 (by omega) (by omega)
    have hM2 : Mat (dA c) (cpy (cpy M (pA c) b.2.1.length b.2.1) (tA c) b.2.2.2.1.length b.2.2.2.1) (baseV c b) := ⟨by omega, fun j hj => by
      rw [r2 j, ← owV_base h.1]
      unfold owV
      by_cases g : tA c ≤ j ∧ j < tA c + b.2.2.2.1.length
      · rw [if_pos g, if_pos (by omega)]; rfl
      · rw [if_neg g, if_neg (by omega), hM1.2 j hj]⟩
    rw [dt (show (0 : Int) ≤ 7 + 2 * c.1 + c.2.1 by omega), dt (show 7 + 2 * c.1 + c.2.1 ≤ ((cpy M (pA c) b.2.1.length b.2.1).length : Int) by omega), p2, Nat.min_eq_left (by omega)]
    simp only [cond_true]
    rw [impl_lay_l1 N h _ hM2.1 K (by omega), hM2.eq]
    rfl
  | d + 1, i, K, M, e, hK, hM => by
    obtain ⟨a1, a2, a3, a4, a5, a6, a7, a8, a9⟩ := plat_at h.1
    obtain ⟨K, rfl⟩ := fuel (show 0 < K by omega)
    have hsl := h.2.1.slots
    have h1 := h.2.2.1
    have hlen := hM.1
    have hs := slotB_iff.1 (h.2.1.slot (i := i) (by omega))
    rw [impl_lay.l0, ct (by omega), impl_regAt_eq]
    simp only [Option.bind_some]
    rw [bnd (by omega) (by omega), bnd (by omega) (by omega), w64 (n := 3 + (i : Int)) (by omega) (by omega), bnd (by omega) (by omega), Int.toNat_natCast, fold_in, fold_ep, w64 (n := 4 * ep b i) (by omega) (by omega), w64 (n := inn b i + 4 * ep b i) (by omega) (by omega), w64 (n := (i : Int) + 1) (by omega) (by omega), show (i : Int) + 1 = ((i + 1 : Nat) : Int) by omega, show (3 + (i : Int)).toNat = 3 + i by omega]
    refine impl_lay_l0 N h d (i + 1) K _ (by omega) (by omega) (hM.set (by omega) _ fun j => ?_)
    unfold regV
    by_cases g : j = 3 + i
    · subst g
      rw [if_pos (by omega), if_pos rfl, show 3 + i - 3 = i by omega]
    · rw [if_neg g]
      by_cases g2 : 3 ≤ j ∧ j < 3 + i
      · rw [if_pos (by omega), if_pos g2]
      · rw [if_neg (by omega), if_neg g2]
theorem impl_lay_eq (N : Nat) (hN : Fuel N) {c : Cfg} {b : Bk} (h : Fit c b) : impl_lay N c b = some ((), layP c b) := by
  obtain ⟨a1, a2, a3, a4, a5, a6, a7, a8, a9⟩ := plat_at h.1
  have hh : house c = 7 + 2 * c.1 + 17 * c.2.1 := rfl
  unfold impl_lay
  rw [impl_deskAt_eq N h.1]
  simp only [Option.bind_some]
  rw [ct (by omega), ct (by omega), ct (by omega)]
  have e : (house c).toNat = dA c := rfl
  rw [e]
  exact impl_lay_l0 N h c.1.toNat 0 N _ (by omega) (by unfold Fuel at hN; omega) ((mat_zero _).congr fun j _ => by unfold regV; rw [if_neg (by omega)])
theorem sReg (N : Nat) {c : Cfg} (h : Plat c) {i : Nat} (hi : i < c.1.toNat) : spec_PlatReg N c (i : Nat) = some (((3 + i : Nat) : Int), ()) := by
  have h' := h
  unfold Plat at h'
  unfold spec_PlatReg
  rw [spec_l2At_eq N h 3 i c.1 1 (by omega) (by omega) (by omega) (by omega) (by omega), if_pos (by omega)]
  simp only [Option.bind_some]
  congr 2; omega
theorem sHead (N : Nat) {c : Cfg} (h : Plat c) {i : Nat} (hi : i < 4) : spec_PlatHead N c (i : Nat) = some (((hA c + i : Nat) : Int), ()) := by
  obtain ⟨a1, a2, a3, a4, a5, a6, a7, a8, a9⟩ := plat_at h
  unfold spec_PlatHead
  rw [w64 (n := 2 * c.1) (by omega) (by omega), w64 (n := 3 + 2 * c.1) (by omega) (by omega), spec_l2At_eq N h _ i 4 1 (by omega) (by omega) (by omega) (by omega) (by omega), if_pos (by omega)]
  simp only [Option.bind_some]
  congr 2; omega
theorem sPage (N : Nat) {c : Cfg} (h : Plat c) {i : Nat} (hi : i < c.2.1.toNat) : spec_PlatPage N c (i : Nat) = some (((pA c + i : Nat) : Int), ()) := by
  obtain ⟨a1, a2, a3, a4, a5, a6, a7, a8, a9⟩ := plat_at h
  unfold spec_PlatPage
  rw [w64 (n := 2 * c.1) (by omega) (by omega), w64 (n := 3 + 2 * c.1) (by omega) (by omega), w64 (n := 3 + 2 * c.1 + 4) (by omega) (by omega), spec_l2At_eq N h _ i c.2.1 1 (by omega) (by omega) (by omega) (by omega) (by omega), if_pos (by omega)]
  simp only [Option.bind_some]
  congr 2; omega
theorem sTag (N : Nat) {c : Cfg} (h : Plat c) {i : Nat} (hi : i < (8 * c.2.1).toNat) : spec_PlatTag N c (i : Nat) = some (((tA c + i : Nat) : Int), ()) := by
  obtain ⟨a1, a2, a3, a4, a5, a6, a7, a8, a9⟩ := plat_at h
  unfold spec_PlatTag
  rw [w64 (n := 2 * c.1) (by omega) (by omega), w64 (n := 3 + 2 * c.1) (by omega) (by omega), w64 (n := 3 + 2 * c.1 + 4) (by omega) (by omega), w64 (n := 3 + 2 * c.1 + 4 + c.2.1) (by omega) (by omega), w64 (n := c.2.1 * 8) (by omega) (by omega), spec_l2At_eq N h _ i (c.2.1 * 8) 1 (by omega) (by omega) (by omega) (by omega) (by omega), if_pos (by omega)]
  simp only [Option.bind_some]
  congr 2; omega
theorem sLink (N : Nat) {c : Cfg} (h : Plat c) {i : Nat} (hi : i < (8 * c.2.1).toNat) : spec_PlatLink N c (i : Nat) = some (((kA c + i : Nat) : Int), ()) := by
  obtain ⟨a1, a2, a3, a4, a5, a6, a7, a8, a9⟩ := plat_at h
  unfold spec_PlatLink
  rw [w64 (n := 2 * c.1) (by omega) (by omega), w64 (n := 3 + 2 * c.1) (by omega) (by omega), w64 (n := 3 + 2 * c.1 + 4) (by omega) (by omega), w64 (n := 3 + 2 * c.1 + 4 + c.2.1) (by omega) (by omega), w64 (n := 8 * c.2.1) (by omega) (by omega), w64 (n := 3 + 2 * c.1 + 4 + c.2.1 + 8 * c.2.1) (by omega) (by omega), w64 (n := c.2.1 * 8) (by omega) (by omega), spec_l2At_eq N h _ i (c.2.1 * 8) 1 (by omega) (by omega) (by omega) (by omega) (by omega), if_pos (by omega)]
  simp only [Option.bind_some]
  congr 2; omega
theorem spec_lay_l7 (N : Nat) {c : Cfg} {b : Bk} (h : Fit c b) {k : Nat} (hk : k < 4) : ∀ d i K (p : Nat) (M : List Int), i + d = (hd b k).length → M.length = dA c → p < dA c →
    spec_l4Lay.l7 N (K + 3 * d + 2) k (p : Nat) (i : Nat) c b M = spec_l4Lay.l6 N K ((k + 1 : Nat) : Int) c b (chainP (kA c) M p ((hd b k).drop i))
  | 0, i, K, p, M, e, hM, hp => by
    rw [drop_end (by omega), chainP, show K + 3 * 0 + 2 = K + 1 + 1 by omega]
    have w : IntKind.i64.wrap ((k : Int) + 1) = ((k + 1 : Nat) : Int) := wi (by omega)
    refine hd_cases hk (fun g => ?_) (fun g => ?_) (fun g => ?_) (fun g => ?_) <;> subst g
    · have e' : ((b.2.2.1.1.length : Nat) : Int) = (i : Nat) := by have : (hd b 0).length = i := by omega
                                                                   rw [← this]; rfl
      rw [spec_l4Lay.l7, ct (by omega), cf (by omega), spec_l4Lay.l9, w]
    · have e' : ((b.2.2.1.2.1.length : Nat) : Int) = (i : Nat) := by have : (hd b 1).length = i := by omega
                                                                     rw [← this]; rfl
      rw [spec_l4Lay.l7, cf (by omega), ct (by omega), cf (by omega), spec_l4Lay.l9, w]
    · have e' : ((b.2.2.1.2.2.1.length : Nat) : Int) = (i : Nat) := by have : (hd b 2).length = i := by omega
                                                                       rw [← this]; rfl
      rw [spec_l4Lay.l7, cf (by omega), cf (by omega), ct (by omega), cf (by omega), spec_l4Lay.l9, w]
    · have e' : ((b.2.2.1.2.2.2.length : Nat) : Int) = (i : Nat) := by have : (hd b 3).length = i := by omega
                                                                       rw [← this]; rfl
      rw [spec_l4Lay.l7, cf (by omega), cf (by omega), cf (by omega), ct (by omega), cf (by omega), spec_l4Lay.l9, w]
  | d + 1, i, K, p, M, e, hM, hp => by
    obtain ⟨a1, a2, a3, a4, a5, a6, a7, a8, a9⟩ := plat_at h.1
    have hnu := fit_nu h
    have hl := h.2.1.hd_len hk
    have hx := h.2.1.mem hk (x := (hd b k).getD i 0) (by rw [getD_lt (by omega)]; exact List.getElem_mem _)
    obtain ⟨x, hxe⟩ : ∃ x : Nat, (hd b k).getD i 0 = x := ⟨((hd b k).getD i 0).toNat, by omega⟩
    have ih := spec_lay_l7 N h hk d (i + 1) K (kA c + x) (M.set p ((x : Int) + 1)) (by omega) (by rw [List.length_set]; exact hM) (by omega)
    have w1 : IntKind.i64.wrap ((i : Int) + 1) = ((i + 1 : Nat) : Int) := wi (by omega)
    have w2 : IntKind.i64.wrap ((x : Int) + 1) = (x : Int) + 1 := w64 (by omega) (by omega)
    have lk := sLink N h.1 (i := x) (by omega)
    rw [drop_at 0 (show i < (hd b k).length by omega), chainP, hxe, Int.toNat_natCast, ← ih, show K + 3 * (d + 1) + 2 = K + 3 * d + 2 + 1 + 1 + 1 by omega]
    refine hd_cases hk (fun g => ?_) (fun g => ?_) (fun g => ?_) (fun g => ?_) <;> subst g
    · have q : hd b 0 = b.2.2.1.1 := rfl
      rw [q] at hxe e hl
      rw [spec_l4Lay.l7, ct (by omega), ct (by omega), ct (by omega), bnd (by omega) (by omega), bnd (by omega) (by omega), Int.toNat_natCast, Int.toNat_natCast, hxe, w2, spec_l4Lay.l8, ct (by omega), bnd (by omega) (by omega), Int.toNat_natCast, hxe, lk]
      simp only [Option.bind_some]
      rw [spec_l4Lay.l10, w1]
    · have q : hd b 1 = b.2.2.1.2.1 := rfl
      rw [q] at hxe e hl
      rw [spec_l4Lay.l7, cf (by omega), ct (by omega), ct (by omega), cf (by omega), ct (by omega), bnd (by omega) (by omega), bnd (by omega) (by omega), Int.toNat_natCast, Int.toNat_natCast, hxe, w2, spec_l4Lay.l8, cf (by omega), ct (by omega), bnd (by omega) (by omega), Int.toNat_natCast, hxe, lk]
      simp only [Option.bind_some]
      rw [spec_l4Lay.l10, w1]
    · have q : hd b 2 = b.2.2.1.2.2.1 := rfl
      rw [q] at hxe e hl
      rw [spec_l4Lay.l7, cf (by omega), cf (by omega), ct (by omega), ct (by omega), cf (by omega), cf (by omega), ct (by omega), bnd (by omega) (by omega), bnd (by omega) (by omega), Int.toNat_natCast, Int.toNat_natCast, hxe, w2, spec_l4Lay.l8, cf (by omega), cf (by omega), ct (by omega), bnd (by omega) (by omega), Int.toNat_natCast, hxe, lk]
      simp only [Option.bind_some]
      rw [spec_l4Lay.l10, w1]
    · have q : hd b 3 = b.2.2.1.2.2.2 := rfl
      rw [q] at hxe e hl
      rw [spec_l4Lay.l7, cf (by omega), cf (by omega), cf (by omega), ct (by omega), ct (by omega), cf (by omega), cf (by omega), cf (by omega), ct (by omega), bnd (by omega) (by omega), bnd (by omega) (by omega), Int.toNat_natCast, Int.toNat_natCast, hxe, w2, spec_l4Lay.l8, cf (by omega), cf (by omega), cf (by omega), ct (by omega), bnd (by omega) (by omega), Int.toNat_natCast, hxe, lk]
      simp only [Option.bind_some]
      rw [spec_l4Lay.l10, w1]
end Go.Proofs.YtdkinmgpclbedaaGreat.Pv
