/- The plain law of FnExactTermDead: what the functions compute, over numbers and lists. -/
import Derived.Test.YtpanngbbofkeoabC2F
import Derived.Test.YtpanngbbofkeoabPvRow
namespace Go.Proofs.Ytpanngbbofkeoab.Pv
open Go Go.Pv Go.Proofs
set_option linter.unusedVariables false
set_option linter.unusedSimpArgs false
theorem w64 {n : Int} (h : -9223372036854775808 ≤ n) (h2 : n ≤ 9223372036854775807) : IntKind.i64.wrap n = n := by rw [IntKind.wrap_i64]; omega
theorem u64w {n : Int} (h : 0 ≤ n) (h2 : n < 18446744073709551616) : IntKind.u64.wrap n = n := by
  unfold IntKind.wrap
  simp [IntKind.bits, IntKind.signed]
  omega
theorem tm {a b : Int} (h : 0 ≤ a) : Int.tmod a b = a % b := Int.tmod_eq_emod_of_nonneg h
theorem td {a b : Int} (h : 0 ≤ a) : Int.tdiv a b = a / b := Int.tdiv_eq_ediv_of_nonneg h
theorem dt {p : Prop} [Decidable p] (h : p) : decide p = true := decide_eq_true h
theorem df {p : Prop} [Decidable p] (h : ¬ p) : decide p = false := decide_eq_false h
theorem ct {α : Type _} {p : Prop} [Decidable p] {a b : α} (h : p) : cond (decide p) a b = a := by rw [decide_eq_true h]; rfl
theorem cf {α : Type _} {p : Prop} [Decidable p] {a b : α} (h : ¬ p) : cond (decide p) a b = b := by rw [decide_eq_false h]; rfl
theorem cnd {α : Type _} {p : Prop} [Decidable p] {a b : α} : cond (decide p) a b = if p then a else b := by by_cases h : p <;> simp [h]
/-- The test that a place lies in a row. -/
theorem bnd {α : Type _} {i : Int} {n : Nat} {a b : α} (h : 0 ≤ i) (h2 : i < (n : Int)) : cond (cond (decide (0 ≤ i)) (decide (i < (n : Int))) false) a b = a := by rw [dt h, dt h2]; rfl
theorem getD_lt {α : Type _} {l : List α} {i : Nat} {d : α} (h : i < l.length) : l.getD i d = l[i] := by simp [h]
theorem fuel {n k : Nat} (h : n < k) : ∃ j, k = j + 1 := ⟨k - 1, by omega⟩
/-- A loop over the places below a length, with a state. -/
theorem loop_idx {A : Type _} {R : Type _} (len : Nat) (L : Nat → Int → A → R) (F : Nat → A → R) (I : Nat → A → Prop)
    (hend : ∀ k a, I len a → L (k + 1) (len : Int) a = F len a)
    (hstep : ∀ k i a, i < len → I i a → (∀ a', I (i + 1) a' → L k ((i : Int) + 1) a' = F (i + 1) a') → L (k + 1) (i : Int) a = F i a) :
    ∀ n k i a, i + n = len → n < k → I i a → L k (i : Int) a = F i a := by
  intro n
  induction n with
  | zero =>
    intro k i a h1 h2 h3
    obtain ⟨k, rfl⟩ := fuel h2
    obtain rfl : i = len := by omega
    exact hend k a h3
  | succ n ih =>
    intro k i a h1 h2 h3
    obtain ⟨k, rfl⟩ := fuel h2
    exact hstep k i a (by omega) h3 (fun a' h => by have := ih k (i + 1) a' (by omega) (by omega) h; rwa [Int.natCast_add] at this)
/-- Lists that are short enough for every count. -/
def Short {α : Type _} (l : List α) : Prop := l.length ≤ 4194304
abbrev Fuel (N : Nat) : Prop := 1099511627776 < N
/-- The fuel with which the laws are told. -/
def N0 : Nat := 1099511627777
theorem hN0 : Fuel N0 := by unfold Fuel N0; omega
theorem wf_u64 {x : Int} (h : (Lit.int .u64 x).wf = true) : 0 ≤ x ∧ x < 18446744073709551616 := by
  simp [Lit.wf, IntKind.min, IntKind.max, IntKind.signed, IntKind.bits] at h
  omega
/-- What a loop that copies has behind it. -/
theorem copy_step {α : Type _} {l m : List α} {i : Nat} {d : α} (hi : i < l.length) (hm : m.length = l.length) (h : m.take i = l.take i) : (m.set i (l.getD i d)).take (i + 1) = l.take (i + 1) := by
  rw [getD_lt hi]
  apply List.ext_getElem?
  intro j
  simp only [List.getElem?_take, List.getElem?_set]
  by_cases hj : j < i + 1
  · simp only [if_pos hj]
    by_cases e : i = j
    · subst e; simp [hm, hi]
    · simp only [if_neg e]
      have := congrArg (fun l => l[j]?) h
      simp only [List.getElem?_take, show j < i by omega, if_true] at this
      exact this
  · simp only [if_neg hj]
theorem copy_end {α : Type _} {l m : List α} (hm : m.length = l.length) (h : m.take l.length = l.take l.length) : m = l := by
  rwa [List.take_of_length_le (by omega), List.take_of_length_le (by omega)] at h
theorem toUint64S_eq (N : Nat) (hN : Fuel N) (a : List Int) (ha : Short a) : laws_toUint64S N a = some ((), a) := by
  unfold Short at ha
  have := loop_idx a.length (fun k i m => laws_toUint64S.l0 N k a i m) (fun _ _ => some ((), a)) (fun i m => m.length = a.length ∧ m.take i = a.take i)
    (fun k m ⟨h1, h2⟩ => by simp (disch := omega) only [laws_toUint64S.l0, cf, copy_end h1 h2])
    (fun k i m hi ⟨h1, h2⟩ ih => by
      have := ih (m.set i (a.getD i 0)) ⟨by simp [h1], copy_step hi h1 h2⟩
      simp (disch := omega) only [laws_toUint64S.l0, ct, bnd, w64, Int.toNat_natCast, this])
    a.length N 0 (List.replicate a.length 0) (by omega) (by omega) ⟨by simp, by simp⟩
  simp (disch := omega) only [laws_toUint64S, ct, Int.toNat_natCast]
  exact this
theorem eqIntS_eq (N : Nat) (hN : Fuel N) (a : List Int) (ha : Short a) : laws_eqIntS N a a = some (true, ()) := by
  unfold Short at ha
  have := loop_idx a.length (fun k i (_ : Unit) => laws_eqIntS.l0 N k a a i) (fun _ _ => some (true, ())) (fun i m => True)
    (fun k m _ => by simp (disch := omega) only [laws_eqIntS.l0, cf])
    (fun k i m hi _ ih => by simp (disch := omega) only [laws_eqIntS.l0, ct, bnd, w64, Int.toNat_natCast, bne_self_eq_false, cond_false, ih () trivial])
    a.length N 0 () (by omega) (by omega) trivial
  simp only [laws_eqIntS, bne_self_eq_false, cond_false]
  exact this
theorem eqUint64S_eq (N : Nat) (hN : Fuel N) (a : List Int) (ha : Short a) : laws_eqUint64S N a a = some (true, ()) := by
  unfold Short at ha
  have := loop_idx a.length (fun k i (_ : Unit) => laws_eqUint64S.l0 N k a a i) (fun _ _ => some (true, ())) (fun i m => True)
    (fun k m _ => by simp (disch := omega) only [laws_eqUint64S.l0, cf])
    (fun k i m hi _ ih => by simp (disch := omega) only [laws_eqUint64S.l0, ct, bnd, w64, Int.toNat_natCast, bne_self_eq_false, cond_false, ih () trivial])
    a.length N 0 () (by omega) (by omega) trivial
  simp only [laws_eqUint64S, bne_self_eq_false, cond_false]
  exact this
/-- Numbers that count up. -/
def marks (x : Int) : Nat → List Int
  | 0 => []
  | n + 1 => x :: marks (x + 1) n
theorem marks_length (x : Int) : ∀ n, (marks x n).length = n := by
  intro n
  induction n generalizing x with
  | zero => rfl
  | succ n ih => simp [marks, ih]
theorem marks_getD (x : Int) : ∀ n i, i < n → (marks x n).getD i 0 = x + i := by
  intro n
  induction n generalizing x with
  | zero => intro i h; omega
  | succ n ih =>
    intro i h
    cases i with
    | zero => simp [marks]
    | succ i =>
      have := ih (x + 1) i (by omega)
      simp only [marks, List.getD_cons_succ, this]
      omega
theorem getElem?_marks (x : Int) {n i : Nat} (h : i < n) : (marks x n)[i]? = some (x + i) := by
  have := marks_getD x n i h
  have h2 : i < (marks x n).length := by rw [marks_length]; exact h
  rw [getD_lt h2] at this
  rw [List.getElem?_eq_getElem h2, this]
/-- What a loop that fills has behind it. -/
theorem fill_step {α : Type _} {l m : List α} {i : Nat} {v : α} (hi : i < l.length) (hm : m.length = l.length) (hv : l[i]? = some v) (h : m.take i = l.take i) : (m.set i v).take (i + 1) = l.take (i + 1) := by
  have : l.getD i v = v := by rw [List.getD_eq_getElem?_getD, hv]; rfl
  have := copy_step (d := v) hi hm h
  rwa [show l.getD i v = v by rw [List.getD_eq_getElem?_getD, hv]; rfl] at this
theorem markIntS_eq (N : Nat) (hN : Fuel N) (a : List Int) (x : Int) (ha : Short a) (h1 : 0 ≤ x) (h2 : x ≤ 1073741824) : laws_markIntS N x a = some (x + a.length, marks x a.length) := by
  unfold Short at ha
  have hl := marks_length x a.length
  have := loop_idx a.length (fun k i (p : Int × List Int) => laws_markIntS.l0 N k p.1 i p.2) (fun _ _ => some (x + a.length, marks x a.length))
    (fun i p => p.1 = x + i ∧ p.2.length = a.length ∧ p.2.take i = (marks x a.length).take i)
    (fun k p ⟨g1, g2, g3⟩ => by
      have : p.2 = marks x a.length := copy_end (by omega) (by rw [hl]; exact g3)
      simp (disch := omega) only [laws_markIntS.l0, cf, g1, this])
    (fun k i p hi ⟨g1, g2, g3⟩ ih => by
      have := ih (p.1 + 1, p.2.set i p.1) ⟨by dsimp only; omega, by simp [g2], by dsimp only; exact fill_step (by omega) (by omega) (by rw [g1]; exact getElem?_marks x hi) g3⟩
      simp (disch := omega) only [laws_markIntS.l0, ct, bnd, w64, Int.toNat_natCast, this])
    a.length N 0 (x, a) (by omega) (by omega) ⟨by simp, rfl, by simp⟩
  exact this
theorem markUint64S_eq (N : Nat) (hN : Fuel N) (a : List Int) (x : Int) (ha : Short a) (h1 : 0 ≤ x) (h2 : x ≤ 1073741824) : laws_markUint64S N x a = some (x + a.length, marks x a.length) := by
  unfold Short at ha
  have hl := marks_length x a.length
  have := loop_idx a.length (fun k i (p : Int × List Int) => laws_markUint64S.l0 N k p.1 i p.2) (fun _ _ => some (x + a.length, marks x a.length))
    (fun i p => p.1 = x + i ∧ p.2.length = a.length ∧ p.2.take i = (marks x a.length).take i)
    (fun k p ⟨g1, g2, g3⟩ => by
      have : p.2 = marks x a.length := copy_end (by omega) (by rw [hl]; exact g3)
      simp (disch := omega) only [laws_markUint64S.l0, cf, g1, this])
    (fun k i p hi ⟨g1, g2, g3⟩ ih => by
      have := ih (p.1 + 1, p.2.set i p.1) ⟨by dsimp only; omega, by simp [g2], by dsimp only; exact fill_step (by omega) (by omega) (by rw [g1]; exact getElem?_marks x hi) g3⟩
      simp (disch := omega) only [laws_markUint64S.l0, ct, bnd, w64, u64w, Int.toNat_natCast, this])
    a.length N 0 (x, a) (by omega) (by omega) ⟨by simp, rfl, by simp⟩
  exact this
theorem heldIntS_eq (N : Nat) (hN : Fuel N) (n : Nat) (x : Int) (ha : n ≤ 4194304) (h1 : 0 ≤ x) (h2 : x ≤ 1073741824) : laws_heldIntS N (marks x n) x = some (x + n, ()) := by
  have hl := marks_length x n
  have := loop_idx n (fun k i (p : Int) => laws_heldIntS.l0 N k (marks x n) p i) (fun _ _ => some (x + n, ())) (fun i p => p = x + i)
    (fun k p g1 => by simp (disch := omega) only [laws_heldIntS.l0, hl, cf, g1])
    (fun k i p hi g1 ih => by
      have := ih (p + 1) (by omega)
      simp (disch := omega) only [laws_heldIntS.l0, hl, ct, bnd, w64, Int.toNat_natCast, marks_getD, g1.symm, bne_self_eq_false, cond_false, this])
    n N 0 x (by omega) (by omega) (by simp)
  exact this
abbrev Cfg := Int × Int × Int
def W64 (x : Int) : Prop := 0 ≤ x ∧ x < 18446744073709551616
theorem impl_within_eq (N : Nat) (x lo hi : Int) : impl_within N x lo hi = some (decide (lo ≤ x ∧ x ≤ hi), ()) := by
  unfold impl_within
  by_cases h : lo ≤ x
  · by_cases h2 : x ≤ hi <;> simp [h, h2]
  · simp [h]
theorem spec_CellVal_eq (N : Nat) {x : Int} (h : W64 x) : spec_CellVal N x = some (x % 4294967296, ()) := by
  obtain ⟨h1, h2⟩ := h
  simp (disch := omega) only [spec_CellVal, tm, w64]
theorem spec_CellStamp_eq (N : Nat) {x : Int} (h : W64 x) : spec_CellStamp N x = some (x / 4294967296, ()) := by
  obtain ⟨h1, h2⟩ := h
  simp (disch := omega) only [spec_CellStamp, td, u64w, w64]
theorem impl_CellStamp_eq (N : Nat) {x : Int} (h : W64 x) : impl_CellStamp N x = some (x / 4294967296, ()) := by
  obtain ⟨h1, h2⟩ := h
  have e : Int.fdiv x (2 ^ 32) = x / 4294967296 := by rw [Int.fdiv_eq_ediv_of_nonneg _ (by decide)]; rfl
  simp (disch := omega) only [impl_CellStamp, e, w64]
theorem impl_CellVal_eq (N : Nat) {x : Int} (h : W64 x) : impl_CellVal N x = some (x % 4294967296, ()) := by
  unfold impl_CellVal
  obtain ⟨h1, h2⟩ := h
  obtain ⟨n, rfl⟩ := Int.eq_ofNat_of_zero_le h1
  have e : (BitVec.ofInt 64 (n : Int) &&& BitVec.ofInt 64 4294967295).toNat = n % 4294967296 := by
    rw [BitVec.toNat_and, BitVec.toNat_ofInt, BitVec.toNat_ofInt]
    have e1 : ((n : Int) % ((2 ^ 64 : Nat) : Int)).toNat = n := by omega
    have e2 : ((4294967295 : Int) % ((2 ^ 64 : Nat) : Int)).toNat = 2 ^ 32 - 1 := by decide
    rw [e1, e2, Nat.and_two_pow_sub_one_eq_mod]
  rw [e, u64w (by omega) (by omega), w64 (by omega) (by omega)]
  congr 2
theorem spec_CellRegOf_eq (N : Nat) {x : Int} (h : W64 x) : spec_CellRegOf N x = some ((x % 4294967296 % 4, x % 4294967296 / 4), ()) := by
  have h' := h
  obtain ⟨h1, h2⟩ := h'
  simp (disch := omega) only [spec_CellRegOf, spec_CellVal_eq N h, Option.bind_some, tm, td, w64]
theorem impl_CellRegOf_eq (N : Nat) {x : Int} (h : W64 x) : impl_CellRegOf N x = some ((x % 4294967296 % 4, x % 4294967296 / 4), ()) := by
  have h' := h
  obtain ⟨h1, h2⟩ := h'
  simp (disch := omega) only [impl_CellRegOf, impl_CellVal_eq N h, Option.bind_some, tm, td, w64]
/-- A number brought into 0 to m. -/
def low (n m : Int) : Int := if n < 0 then 0 else if n > m then m else n
theorem low_id {n m : Int} (h : 0 ≤ n) (h2 : n ≤ m) : low n m = n := by unfold low; rw [if_neg (by omega), if_neg (by omega)]
theorem low_ge (n m : Int) (h : 0 ≤ m) : 0 ≤ low n m := by unfold low; split <;> (try split) <;> omega
theorem low_le (n m : Int) (h : 0 ≤ m) : low n m ≤ m := by unfold low; split <;> (try split) <;> omega
theorem spec_l1Low_eq (N : Nat) (n m : Int) : spec_l1Low N n m = some (low n m, ()) := by
  unfold spec_l1Low low
  by_cases h : n < 0
  · simp [h]
  · by_cases h2 : n > m <;> simp [h, h2]
theorem spec_CellPack_eq (N : Nat) (v s : Int) : spec_CellPack N v s = some (low s 4294967295 * 4294967296 + low v 4294967295, ()) := by
  have := low_ge v 4294967295 (by omega)
  have := low_le v 4294967295 (by omega)
  have := low_ge s 4294967295 (by omega)
  have := low_le s 4294967295 (by omega)
  simp (disch := omega) only [spec_CellPack, spec_l1Low_eq, Option.bind_some, u64w]
def Plat (a : Cfg) : Prop := 1 ≤ a.1 ∧ a.1 ≤ 4 ∧ 1 ≤ a.2.1 ∧ a.2.1 ≤ 6 ∧ 1 ≤ a.2.2 ∧ a.2.2 ≤ 20
instance (a : Cfg) : Decidable (Plat a) := inferInstanceAs (Decidable (_ ∧ _))
theorem spec_PlatOk_eq (N : Nat) (a : Cfg) : spec_PlatOk N a = some (decide (Plat a), ()) := by
  simp only [spec_PlatOk, cnd, Plat, ge_iff_le]
  repeat' split
  all_goals (congr 2; first | exact decide_eq_decide.2 (by omega) | exact (df (by omega)).symm | exact (dt (by omega)).symm)
theorem impl_PlatOk_eq (N : Nat) (a : Cfg) : impl_PlatOk N a = some (decide (Plat a), ()) := by
  simp only [impl_PlatOk, impl_within_eq, Option.bind_some, cnd, Plat]
  repeat' split
  all_goals (congr 2; first | exact decide_eq_decide.2 (by omega) | exact (df (by omega)).symm | exact (dt (by omega)).symm)
def house (a : Cfg) : Int := 7 + 2 * a.1 + 17 * a.2.1
def size (a : Cfg) : Int := 7 + 23 * a.1 + 17 * a.2.1
theorem spec_l2House_eq (N : Nat) {a : Cfg} (h : Plat a) : spec_l2House N a = some (house a, ()) := by
  unfold Plat at h
  simp (disch := omega) only [spec_l2House, w64, house]
  congr 2; omega
theorem spec_l2Size_eq (N : Nat) {a : Cfg} (h : Plat a) : spec_l2Size N a = some (size a, ()) := by
  have h' := h
  unfold Plat at h'
  simp only [spec_l2Size, spec_l2House_eq N h, Option.bind_some]
  unfold house size
  simp (disch := omega) only [w64]
  congr 2; omega
theorem impl_regAt_eq (N : Nat) (a : Cfg) : impl_PlatCfg_regAt N a = some (3, ()) := rfl
theorem impl_beatAt_eq (N : Nat) {a : Cfg} (h : Plat a) : impl_PlatCfg_beatAt N a = some (3 + a.1, ()) := by
  unfold Plat at h
  simp (disch := omega) only [impl_PlatCfg_beatAt, impl_regAt_eq, Option.bind_some, w64]
theorem impl_headAt_eq (N : Nat) {a : Cfg} (h : Plat a) : impl_PlatCfg_headAt N a = some (3 + 2 * a.1, ()) := by
  have h' := h
  unfold Plat at h'
  simp (disch := omega) only [impl_PlatCfg_headAt, impl_beatAt_eq N h, Option.bind_some, w64]
  congr 2; omega
theorem impl_pageAt_eq (N : Nat) {a : Cfg} (h : Plat a) : impl_PlatCfg_pageAt N a = some (7 + 2 * a.1, ()) := by
  have h' := h
  unfold Plat at h'
  simp (disch := omega) only [impl_PlatCfg_pageAt, impl_headAt_eq N h, Option.bind_some, w64]
  congr 2; omega
theorem impl_tagAt_eq (N : Nat) {a : Cfg} (h : Plat a) : impl_PlatCfg_tagAt N a = some (7 + 2 * a.1 + a.2.1, ()) := by
  have h' := h
  unfold Plat at h'
  simp (disch := omega) only [impl_PlatCfg_tagAt, impl_pageAt_eq N h, Option.bind_some, w64]
theorem impl_linkAt_eq (N : Nat) {a : Cfg} (h : Plat a) : impl_PlatCfg_linkAt N a = some (7 + 2 * a.1 + 9 * a.2.1, ()) := by
  have h' := h
  unfold Plat at h'
  simp (disch := omega) only [impl_PlatCfg_linkAt, impl_tagAt_eq N h, Option.bind_some, w64]
  congr 2; omega
theorem impl_deskAt_eq (N : Nat) {a : Cfg} (h : Plat a) : impl_PlatCfg_deskAt N a = some (house a, ()) := by
  have h' := h
  unfold Plat at h'
  simp (disch := omega) only [impl_PlatCfg_deskAt, impl_linkAt_eq N h, Option.bind_some, w64, house]
  congr 2; omega
theorem impl_size_eq (N : Nat) {a : Cfg} (h : Plat a) : impl_PlatCfg_size N a = some (size a, ()) := by
  have h' := h
  unfold Plat at h'
  simp only [impl_PlatCfg_size, impl_deskAt_eq N h, Option.bind_some]
  unfold house size
  simp (disch := omega) only [w64]
  congr 2; omega
theorem spec_l2At_eq (N : Nat) {a : Cfg} (h : Plat a) (fr n m st : Int) (h1 : 0 ≤ fr) (h2 : fr ≤ 1000) (h3 : m ≤ 1000) (h4 : 0 ≤ st) (h5 : st ≤ 100) :
    spec_l2At N a fr n m st = some (if 0 ≤ n ∧ n < m then fr + n * st else 0, ()) := by
  simp only [spec_l2At, spec_PlatOk_eq, dt h, Option.bind_some, Bool.not_true, cond_false, cnd]
  by_cases g1 : n < 0
  · rw [if_pos g1, if_neg (by omega)]
  · by_cases g2 : n ≥ m
    · rw [if_neg g1, if_pos g2, if_neg (by omega)]
    · rw [if_neg g1, if_neg g2, if_pos (by omega)]
      have g3 : 0 ≤ n * st := Int.mul_nonneg (by omega) h4
      have g4 : n * st ≤ 1000 * 100 := Int.mul_le_mul (by omega) h5 h4 (by omega)
      simp (disch := omega) only [w64]
/-- The plat that a word tells. -/
def cfg (x : Int) : Cfg := (x % 4294967296 % 8, x % 4294967296 / 8 % 8, x % 4294967296 / 64)
theorem cfg_text {x : Int} (h : W64 x) : (Int.tmod (x % 4294967296) 8, Int.tmod (IntKind.i64.wrap (Int.tdiv (x % 4294967296) 8)) 8, IntKind.i64.wrap (Int.tdiv (x % 4294967296) 64)) = cfg x := by
  obtain ⟨h1, h2⟩ := h
  simp (disch := omega) only [cfg, tm, td, w64]
/-- Is the list of words a whole memory? -/
def Whole (l : List Int) : Prop := 0 < l.length ∧ l.getD 0 0 / 4294967296 = 201115 ∧ Plat (cfg (l.getD 0 0)) ∧ (l.length : Int) = size (cfg (l.getD 0 0))
instance (l : List Int) : Decidable (Whole l) := inferInstanceAs (Decidable (_ ∧ _))
abbrev Words (l : List Int) : Prop := ∀ x ∈ l, W64 x
theorem Words.at {l : List Int} (h : Words l) (i : Nat) : W64 (l.getD i 0) := by
  rw [List.getD_eq_getElem?_getD]
  cases hi : l[i]? with
  | none => exact ⟨by decide, by decide⟩
  | some x => exact h x (List.mem_of_getElem? hi)
theorem spec_l2Magic_eq (N : Nat) {x : Int} (h : W64 x) (hp : Plat (cfg x)) : spec_l2Magic N (cfg x) = some (201115 * 4294967296 + x % 4294967296, ()) := by
  obtain ⟨h1, h2⟩ := h
  have e : x % 4294967296 % 8 + 8 * (x % 4294967296 / 8 % 8) + 64 * (x % 4294967296 / 64) = x % 4294967296 := by omega
  simp only [spec_l2Magic, cfg] at hp ⊢
  unfold Plat at hp
  simp only [] at hp
  simp (disch := omega) only [w64, e, spec_CellPack_eq, low_id, Option.bind_some]
theorem spec_PlatCheck_eq (N : Nat) {l : List Int} (hw : Words l) : spec_PlatCheck N l = some (if Whole l then (cfg (l.getD 0 0), true) else ((0, 0, 0), false), ()) := by
  have hx := hw.at 0
  have hx' := hx
  obtain ⟨x1, x2⟩ := hx'
  unfold spec_PlatCheck
  by_cases h1 : l.length = 0
  · have n0 : ((l.length : Int) == 0) = true := by rw [beq_iff_eq]; omega
    rw [if_neg (fun h => by have := h.1; omega)]
    simp only [n0, cond_true]
  have n0 : ((l.length : Int) == 0) = false := by rw [beq_eq_false_iff_ne]; omega
  simp (disch := omega) only [n0, cond_false, ct, spec_CellVal_eq N hx, Option.bind_some, cfg_text hx, spec_PlatOk_eq]
  by_cases h3 : Plat (cfg (l.getD 0 0))
  rotate_left
  · rw [if_neg (fun h => h3 h.2.2.1)]
    simp only [df h3, Bool.not_false, cond_true]
  simp only [dt h3, Bool.not_true, cond_false, spec_l2Magic_eq N hx h3, Option.bind_some, spec_l2Size_eq N h3]
  by_cases h2 : l.getD 0 0 / 4294967296 = 201115
  rotate_left
  · rw [if_neg (fun h => h2 h.2.1)]
    have e : l.getD 0 0 ≠ 201115 * 4294967296 + l.getD 0 0 % 4294967296 := by omega
    rw [bne_iff_ne.2 e, cond_true]
  have e : 201115 * 4294967296 + l.getD 0 0 % 4294967296 = l.getD 0 0 := by omega
  rw [e, bne_self_eq_false, cond_false]
  by_cases e4 : (l.length : Int) = size (cfg (l.getD 0 0))
  · rw [if_pos ⟨by omega, h2, h3, e4⟩, e4, bne_self_eq_false, cond_false]
  · rw [if_neg (fun h => e4 h.2.2.2), bne_iff_ne.2 e4, cond_true]
/-- What the first word tells, if it is one of a memory's. -/
def Head (l : List Int) : Prop := 0 < l.length ∧ l.getD 0 0 / 4294967296 = 201115 ∧ Plat (cfg (l.getD 0 0))
instance (l : List Int) : Decidable (Head l) := inferInstanceAs (Decidable (_ ∧ _))
theorem impl_cfgOf_yes (N : Nat) {l : List Int} (hw : Words l) (h : Head l) : impl_cfgOf N l = some ((cfg (l.getD 0 0), true), ()) := by
  have hx := hw.at 0
  obtain ⟨h1, h2, h3⟩ := h
  have n0 : ((l.length : Int) == 0) = false := by rw [beq_eq_false_iff_ne]; omega
  simp (disch := omega) only [impl_cfgOf, n0, cond_false, ct, impl_CellVal_eq N hx, impl_CellStamp_eq N hx, h2, bne_self_eq_false, Option.bind_some, cfg_text hx, impl_PlatOk_eq, dt h3]
theorem impl_cfgOf_no (N : Nat) {l : List Int} (hw : Words l) (h : ¬ Head l) : ∃ c, impl_cfgOf N l = some ((c, false), ()) := by
  have hx := hw.at 0
  unfold impl_cfgOf
  by_cases h1 : l.length = 0
  · have n0 : ((l.length : Int) == 0) = true := by rw [beq_iff_eq]; omega
    simp only [n0, cond_true]; exact ⟨_, rfl⟩
  have n0 : ((l.length : Int) == 0) = false := by rw [beq_eq_false_iff_ne]; omega
  simp (disch := omega) only [n0, cond_false, ct, impl_CellVal_eq N hx, impl_CellStamp_eq N hx, Option.bind_some, cfg_text hx, impl_PlatOk_eq]
  by_cases h2 : l.getD 0 0 / 4294967296 = 201115
  rotate_left
  · simp only [bne_iff_ne.2 h2, cond_true]; exact ⟨_, rfl⟩
  simp only [h2, bne_self_eq_false, cond_false]
  rw [df (fun h3 => h ⟨by omega, h2, h3⟩)]
  exact ⟨_, rfl⟩
theorem impl_PlatCheck_eq (N : Nat) {l : List Int} (hw : Words l) : impl_PlatCheck N l = some (if Whole l then (cfg (l.getD 0 0), true) else ((0, 0, 0), false), ()) := by
  unfold impl_PlatCheck
  by_cases h : Head l
  · simp only [impl_cfgOf_yes N hw h, Option.bind_some, Bool.not_true, cond_false, impl_size_eq N h.2.2]
    by_cases e4 : (l.length : Int) = size (cfg (l.getD 0 0))
    · rw [if_pos ⟨h.1, h.2.1, h.2.2, e4⟩, e4, bne_self_eq_false, cond_false]
    · rw [if_neg (fun h => e4 h.2.2.2), bne_iff_ne.2 e4, cond_true]
  · obtain ⟨c, hc⟩ := impl_cfgOf_no N hw h
    rw [if_neg (fun g => h ⟨g.1, g.2.1, g.2.2.1⟩)]
    simp only [hc, Option.bind_some, Bool.not_false, cond_true]
def wcfg (w : List Int) : Cfg := cfg (w.getD 0 0)
theorem Whole.plat {w : List Int} (h : Whole w) : Plat (wcfg w) := h.2.2.1
theorem Whole.len {w : List Int} (h : Whole w) : (w.length : Int) = 7 + 23 * (wcfg w).1 + 17 * (wcfg w).2.1 := h.2.2.2
def HasSlot (w : List Int) (s : Int) : Prop := Whole w ∧ 0 ≤ s ∧ s < (wcfg w).1
instance (w : List Int) (s : Int) : Decidable (HasSlot w s) := inferInstanceAs (Decidable (_ ∧ _))
/-- The register's word of a slot, and its beat. -/
def regW (w : List Int) (s : Int) : Int := w.getD (3 + s).toNat 0
def beatW (w : List Int) (s : Int) : Int := w.getD (3 + (wcfg w).1 + s).toNat 0
def stOf (x : Int) : Int := x % 4294967296 % 4
def epOf (x : Int) : Int := x % 4294967296 / 4
def vl (x : Int) : Int := x % 4294967296
def sp (x : Int) : Int := x / 4294967296
theorem spec_PlatReg_eq (N : Nat) {a : Cfg} (h : Plat a) (n : Int) : spec_PlatReg N a n = some (if 0 ≤ n ∧ n < a.1 then 3 + n else 0, ()) := by
  have h' := h
  unfold Plat at h'
  simp only [spec_PlatReg, spec_l2At_eq N h 3 n a.1 1 (by omega) (by omega) (by omega) (by omega) (by omega), Option.bind_some, Int.mul_one]
theorem spec_PlatBeat_eq (N : Nat) {a : Cfg} (h : Plat a) (n : Int) : spec_PlatBeat N a n = some (if 0 ≤ n ∧ n < a.1 then 3 + a.1 + n else 0, ()) := by
  have h' := h
  unfold Plat at h'
  rw [spec_PlatBeat, w64 (by omega) (by omega)]
  simp only [spec_l2At_eq N h (3 + a.1) n a.1 1 (by omega) (by omega) (by omega) (by omega) (by omega), Option.bind_some, Int.mul_one]
theorem spec_l11Slot_yes (N : Nat) {w : List Int} (hw : Words w) {s : Int} (h : HasSlot w s) : spec_l11Slot N w s = some ((wcfg w, stOf (regW w s), epOf (regW w s), true), ()) := by
  obtain ⟨h1, h2, h3⟩ := h
  have hp := h1.plat
  have hl := h1.len
  have hr := hw.at (3 + s).toNat
  have hp' := hp
  unfold Plat at hp'
  simp (disch := omega) only [spec_l11Slot, spec_PlatCheck_eq N hw, if_pos h1, Option.bind_some, Bool.not_true, cond_false, cf, show cfg (w.getD 0 0) = wcfg w from rfl, spec_PlatReg_eq N hp, if_pos (And.intro h2 h3), bnd, spec_CellRegOf_eq N hr]
  rfl
theorem spec_l11Slot_no (N : Nat) {w : List Int} (hw : Words w) {s : Int} (h : ¬ HasSlot w s) : ∃ c, spec_l11Slot N w s = some ((c, 0, 0, false), ()) := by
  simp only [spec_l11Slot, spec_PlatCheck_eq N hw, Option.bind_some]
  by_cases h1 : Whole w
  rotate_left
  · simp only [if_neg h1, Bool.not_false, cond_true]; exact ⟨_, rfl⟩
  simp only [if_pos h1, Bool.not_true, cond_false, show cfg (w.getD 0 0) = wcfg w from rfl]
  by_cases h2 : s < 0
  · rw [ct h2]; exact ⟨_, rfl⟩
  rw [cf h2, ct (Classical.byContradiction fun g => h ⟨h1, by omega, by omega⟩)]
  exact ⟨_, rfl⟩
theorem impl_isSlot_eq (N : Nat) {a : Cfg} (h : Plat a) (s : Int) : impl_PlatCfg_isSlot N a s = some (decide (0 ≤ s ∧ s < a.1), ()) := by
  unfold Plat at h
  simp (disch := omega) only [impl_PlatCfg_isSlot, impl_within_eq, w64, Option.bind_some]
  congr 2
  exact decide_eq_decide.2 (by omega)
theorem impl_term_yes (N : Nat) {w : List Int} (hw : Words w) {s : Int} (h : HasSlot w s) : impl_term N w s = some ((wcfg w, epOf (regW w s), beatW w s, vl (w.getD 1 0), (stOf (regW w s) == 1)), ()) := by
  obtain ⟨h1, h2, h3⟩ := h
  have hp := h1.plat
  have hl := h1.len
  have hr := hw.at (3 + s).toNat
  have hc := hw.at 1
  have hp' := hp
  unfold Plat at hp'
  simp (disch := omega) only [impl_term, impl_PlatCheck_eq N hw, if_pos h1, Option.bind_some, Bool.not_true, cond_false, show cfg (w.getD 0 0) = wcfg w from rfl, impl_isSlot_eq N hp, dt (And.intro h2 h3), impl_regAt_eq, impl_beatAt_eq N hp, w64, bnd, impl_CellRegOf_eq N hr, ct, impl_CellVal_eq N hc]
  rfl
theorem impl_term_no (N : Nat) {w : List Int} (hw : Words w) {s : Int} (h : ¬ HasSlot w s) : impl_term N w s = some (((0, 0, 0), 0, 0, 0, false), ()) := by
  simp only [impl_term, impl_PlatCheck_eq N hw, Option.bind_some]
  by_cases h1 : Whole w
  rotate_left
  · simp only [if_neg h1, Bool.not_false, cond_true]
  simp only [if_pos h1, Bool.not_true, cond_false, show cfg (w.getD 0 0) = wcfg w from rfl, impl_isSlot_eq N h1.plat, Option.bind_some]
  rw [df (fun g => h ⟨h1, g.1, g.2⟩)]
  rfl
theorem vl_lt (x : Int) : 0 ≤ vl x ∧ vl x < 4294967296 := by unfold vl; omega
def IsOver (w : List Int) (s : Int) : Prop :=
  HasSlot w s ∧ stOf (regW w s) = 1 ∧ (sp (beatW w s) < epOf (regW w s) ∨ sp (beatW w s) = epOf (regW w s) ∧ vl (w.getD 1 0) - vl (beatW w s) > (wcfg w).2.2)
instance (w : List Int) (s : Int) : Decidable (IsOver w s) := inferInstanceAs (Decidable (_ ∧ _))
def termOver (w : List Int) (s : Int) : Bool := decide (IsOver w s)
theorem spec_TermOver_eq (N : Nat) {w : List Int} (hw : Words w) (s : Int) : spec_TermOver N w s = some (termOver w s, ()) := by
  unfold spec_TermOver termOver
  by_cases h : HasSlot w s
  rotate_left
  · obtain ⟨c, hc⟩ := spec_l11Slot_no N hw h
    rw [df (p := IsOver w s) (fun g => h g.1)]
    simp only [hc, Option.bind_some, Bool.not_false, cond_true]
  simp only [spec_l11Slot_yes N hw h, Option.bind_some, Bool.not_true, cond_false]
  by_cases h2 : stOf (regW w s) = 1
  rotate_left
  · rw [df (p := IsOver w s) (fun g => h2 g.2.1), bne_iff_ne.2 h2, cond_true]
  rw [show (stOf (regW w s) != 1) = false by rw [h2]; rfl, cond_false]
  have h' := h
  obtain ⟨h1, g2, g3⟩ := h'
  have hp := h1.plat
  have hl := h1.len
  have hb := hw.at (3 + (wcfg w).1 + s).toNat
  have hc := hw.at 1
  have v1 := vl_lt (w.getD 1 0)
  have v2 := vl_lt (beatW w s)
  have hp' := hp
  unfold Plat at hp'
  simp (disch := omega) only [spec_PlatBeat_eq N hp, if_pos (And.intro g2 g3), Option.bind_some, bnd, spec_CellStamp_eq N hb, spec_CellVal_eq N hb, spec_CellVal_eq N hc, ct]
  have e1 : w.getD (3 + (wcfg w).1 + s).toNat 0 / 4294967296 = sp (beatW w s) := rfl
  have e2 : w.getD (3 + (wcfg w).1 + s).toNat 0 % 4294967296 = vl (beatW w s) := rfl
  have e3 : w.getD 1 0 % 4294967296 = vl (w.getD 1 0) := rfl
  simp (disch := omega) only [e1, e2, e3, w64]
  by_cases a2 : sp (beatW w s) < epOf (regW w s)
  · rw [ct a2, dt (p := IsOver w s) ⟨h, h2, .inl a2⟩]
  rw [cf a2]
  by_cases a3 : sp (beatW w s) = epOf (regW w s)
  rotate_left
  · rw [beq_eq_false_iff_ne.2 a3, cond_false, df (p := IsOver w s) (fun g => by have := g.2.2; omega)]
  rw [beq_iff_eq.2 a3, cond_true]
  congr 2
  exact decide_eq_decide.2 ⟨fun g => ⟨h, h2, .inr ⟨a3, g⟩⟩, fun g => by have := g.2.2; omega⟩
theorem impl_alive_eq (N : Nat) {b : Int} (hb : W64 b) (e c l : Int) (h1 : 0 ≤ c) (h2 : c < 4294967296) : impl_alive N b e c l = some (decide (sp b > e ∨ sp b = e ∧ c - vl b ≤ l), ()) := by
  have v2 := vl_lt b
  have e1 : b / 4294967296 = sp b := rfl
  have e2 : b % 4294967296 = vl b := rfl
  simp (disch := omega) only [impl_alive, impl_CellStamp_eq N hb, impl_CellVal_eq N hb, Option.bind_some, e1, e2, w64]
  by_cases a2 : sp b > e
  · rw [ct a2, dt (.inl a2)]
  rw [cf a2]
  by_cases a3 : sp b = e
  · rw [beq_iff_eq.2 a3, cond_true]
    congr 2
    exact decide_eq_decide.2 (by omega)
  · rw [beq_eq_false_iff_ne.2 a3, cond_false, df (by omega)]
theorem impl_TermOver_eq (N : Nat) {w : List Int} (hw : Words w) (s : Int) : impl_TermOver N w s = some (termOver w s, ()) := by
  unfold impl_TermOver termOver
  by_cases h : HasSlot w s
  rotate_left
  · rw [df (p := IsOver w s) (fun g => h g.1)]
    simp only [impl_term_no N hw h, Option.bind_some, cond_false]
  simp only [impl_term_yes N hw h, Option.bind_some]
  by_cases h2 : stOf (regW w s) = 1
  rotate_left
  · rw [df (p := IsOver w s) (fun g => h2 g.2.1), beq_eq_false_iff_ne.2 h2, cond_false]
  have hb : W64 (beatW w s) := hw.at (3 + (wcfg w).1 + s).toNat
  have v1 := vl_lt (w.getD 1 0)
  rw [show (stOf (regW w s) == 1) = true by rw [h2]; rfl, cond_true, impl_alive_eq N hb _ _ _ v1.1 v1.2]
  simp only [Option.bind_some]
  congr 2
  by_cases a : sp (beatW w s) > epOf (regW w s) ∨ sp (beatW w s) = epOf (regW w s) ∧ vl (w.getD 1 0) - vl (beatW w s) ≤ (wcfg w).2.2
  · rw [dt a, df (p := IsOver w s) (fun g => by have := g.2.2; omega)]; rfl
  · rw [df a, dt (p := IsOver w s) ⟨h, h2, by omega⟩]; rfl
def isDead (w : List Int) (s : Int) : Bool := (stOf (regW w s) == 2) || termOver w s
def deadTo (w : List Int) (n : Nat) : List Int := ((List.range n).map fun (i : Nat) => (i : Int)).filter fun s => isDead w s
theorem deadTo_succ (w : List Int) (n : Nat) : deadTo w (n + 1) = if isDead w n then deadTo w n ++ [(n : Int)] else deadTo w n := by
  simp only [deadTo, List.range_succ, List.map_append, List.filter_append, List.map_cons, List.map_nil, List.filter_cons, List.filter_nil]
  split <;> simp
theorem deadTo_len (w : List Int) (n : Nat) : (deadTo w n).length ≤ n := by
  unfold deadTo
  exact Nat.le_trans (List.length_filter_le _ _) (by simp)
def termDead (w : List Int) : List Int := if Whole w then deadTo w (wcfg w).1.toNat else []
theorem spec_TermDead_eq (N : Nat) (hN : Fuel N) {w : List Int} (hw : Words w) : spec_TermDead N w = some ((), termDead w) := by
  simp only [spec_TermDead, spec_PlatCheck_eq N hw, Option.bind_some, termDead]
  by_cases h : Whole w
  rotate_left
  · simp only [if_neg h]
    obtain ⟨k, rfl⟩ := fuel hN
    rfl
  simp only [if_pos h, show cfg (w.getD 0 0) = wcfg w from rfl]
  have hp := h.plat
  unfold Plat at hp
  have := loop_idx (wcfg w).1.toNat (fun k i a => spec_TermDead.l0 N k w true i a (wcfg w)) (fun _ _ => some ((), deadTo w (wcfg w).1.toNat)) (fun i a => a = deadTo w i)
    (fun k a g => by
      subst g
      simp (disch := omega) only [spec_TermDead.l0, cond_true, cf])
    (fun k i a hi g ih => by
      have hs : HasSlot w i := ⟨h, by omega, by omega⟩
      have hb := deadTo_len w i
      have q := deadTo_succ w i
      subst g
      simp (disch := omega) only [spec_TermDead.l0, cond_true, ct, spec_l11Slot_yes N hw hs, Option.bind_some, spec_TermOver_eq N hw]
      unfold isDead at q
      cases c : (stOf (regW w i) == 2)
      · cases d : termOver w i
        · rw [c, d] at q
          simp only [Bool.or_self, Bool.false_eq_true, if_false] at q
          simp (disch := omega) only [cond_false, w64]
          exact ih _ q.symm
        · rw [c, d] at q
          simp only [Bool.or_true, if_true] at q
          simp (disch := first | omega | (simp only [List.length_cons, List.length_nil]; omega)) only [cond_true, cond_false, ct, w64]
          exact ih _ q.symm
      · rw [c] at q
        simp only [Bool.true_or, if_true] at q
        simp (disch := first | omega | (simp only [List.length_cons, List.length_nil]; omega)) only [cond_true, cond_false, ct, w64]
        exact ih _ q.symm)
    (wcfg w).1.toNat N 0 [] (by omega) (by omega) rfl
  exact this
theorem impl_TermDead_eq (N : Nat) (hN : Fuel N) {w : List Int} (hw : Words w) : impl_TermDead N w = some ((), termDead w) := by
  simp only [impl_TermDead, impl_PlatCheck_eq N hw, Option.bind_some, termDead]
  by_cases h : Whole w
  rotate_left
  · simp only [if_neg h, Bool.not_false, cond_true]
  simp only [if_pos h, show cfg (w.getD 0 0) = wcfg w from rfl, Bool.not_true, cond_false]
  have hp := h.plat
  have hl := h.len
  unfold Plat at hp
  have := loop_idx (wcfg w).1.toNat (fun k i a => impl_TermDead.l0 N k w (wcfg w).1 i (wcfg w) a) (fun _ _ => some ((), deadTo w (wcfg w).1.toNat)) (fun i a => a = deadTo w i)
    (fun k a g => by
      subst g
      simp (disch := omega) only [impl_TermDead.l0, cf])
    (fun k i a hi g ih => by
      have hs : HasSlot w i := ⟨h, by omega, by omega⟩
      have hb := deadTo_len w i
      have q := deadTo_succ w i
      have hr := hw.at (3 + (i : Int)).toNat
      subst g
      simp (disch := omega) only [impl_TermDead.l0, ct, impl_regAt_eq, Option.bind_some, w64, bnd, impl_CellRegOf_eq N hr, impl_TermOver_eq N hw]
      unfold isDead at q
      have e : w.getD (3 + (i : Int)).toNat 0 % 4294967296 % 4 = stOf (regW w i) := rfl
      rw [e]
      cases c : (stOf (regW w i) == 2)
      · cases d : termOver w i
        · rw [c, d] at q
          simp only [Bool.or_self, Bool.false_eq_true, if_false] at q
          simp (disch := omega) only [cond_false]
          exact ih _ q.symm
        · rw [c, d] at q
          simp only [Bool.or_true, if_true] at q
          simp (disch := first | omega | (simp only [List.length_cons, List.length_nil]; omega)) only [cond_true, cond_false, ct]
          exact ih _ q.symm
      · rw [c] at q
        simp only [Bool.true_or, if_true] at q
        simp (disch := first | omega | (simp only [List.length_cons, List.length_nil]; omega)) only [cond_true, cond_false, ct]
        exact ih _ q.symm)
    (wcfg w).1.toNat N 0 [] (by omega) (by omega) rfl
  exact this
theorem plainTermDead (N : Nat) (hN : Fuel N) (a : List Int) (hw : Words a) : laws_FnExactTermDead N a = some (true, ()) := by
  unfold laws_FnExactTermDead
  by_cases h : (a.length : Int) > 1048576
  · rw [ct h]
  have ha : Short a := by unfold Short; omega
  have hs2 : (termDead a).length ≤ 4194304 := by
    unfold termDead
    split
    · rename_i h
      have := deadTo_len a (wcfg a).1.toNat
      have hp := h.plat
      unfold Plat at hp
      omega
    · simp
  simp only [cf h, toUint64S_eq N hN a ha, Option.bind_some, spec_TermDead_eq N hN hw, impl_TermDead_eq N hN hw, bne_self_eq_false, cond_false, eqUint64S_eq N hN a ha, Bool.not_true, eqIntS_eq N hN _ hs2,
    markUint64S_eq N hN a 1 ha (by omega) (by omega), markIntS_eq N hN _ 1 hs2 (by omega) (by omega), heldIntS_eq N hN _ 1 hs2 (by omega) (by omega)]
  simp (disch := omega) only [cf]
theorem wf_words {l : List Int} (h : Wf (.sl .frz (.int .u64)) l) : Words l := fun x hx => wf_u64 (h.2 x hx)
theorem lawFnExactTermDead (y0 : List Int) (w0 : Wf (.sl .frz (.int .u64)) y0) : laws_FnExactTermDead N0 y0 = some (true, ()) :=
  plainTermDead N0 hN0 y0 (wf_words w0)
end Go.Proofs.Ytpanngbbofkeoab.Pv
