/- The plain side of FnExactWireRead: what the functions compute, over numbers and lists. -/
import Derived.Test.YtdkinmgpclbedaaDoorWrF
import Derived.Test.YtdkinmgpclbedaaDoorPvRow
import Derived.Lib.ItoaNum
import Derived.Laws.Strings
import Derived.Lib.SplitLaws
import Derived.Lib.AtoiAll
import Derived.Lib.Strings
namespace Go.Proofs.YtdkinmgpclbedaaDoor.Pv
open Go Go.Pv Go.Proofs
set_option linter.unusedVariables false
set_option linter.unusedSimpArgs false
theorem w64 {n : Int} (h : -9223372036854775808 ≤ n) (h2 : n ≤ 9223372036854775807) : IntKind.i64.wrap n = n := by rw [IntKind.wrap_i64]; omega
theorem u64w {n : Int} (h : 0 ≤ n) (h2 : n < 18446744073709551616) : IntKind.u64.wrap n = n := by
  unfold IntKind.wrap
  simp [IntKind.bits, IntKind.signed]
  omega
theorem tm {a b : Int} (h : 0 ≤ a) : Int.tmod a b = a % b := Int.tmod_eq_emod_of_nonneg h
theorem td {a b : Int} (h : 0 ≤ a) : Int.tdiv a b = a / b := Int.tdiv_eq_ediv_of_nonneg h
theorem dt {p : Prop} [Decidable p] (h : p) : decide p = true := decide_eq_true h
theorem df {p : Prop} [Decidable p] (h : ¬ p) : decide p = false := decide_eq_false h
theorem ct {α : Type _} {p : Prop} [Decidable p] {a b : α} (h : p) : cond (decide p) a b = a := by rw [decide_eq_true h]; rfl
theorem cf {α : Type _} {p : Prop} [Decidable p] {a b : α} (h : ¬ p) : cond (decide p) a b = b := by rw [decide_eq_false h]; rfl
theorem cnd {α : Type _} {p : Prop} [Decidable p] {a b : α} : cond (decide p) a b = if p then a else b := by by_cases h : p <;> simp [h]
/-- The test that a place lies in a row. -/
theorem bnd {α : Type _} {i : Int} {n : Nat} {a b : α} (h : 0 ≤ i) (h2 : i < (n : Int)) : cond (cond (decide (0 ≤ i)) (decide (i < (n : Int))) false) a b = a := by rw [dt h, dt h2]; rfl
theorem getD_lt {α : Type _} {l : List α} {i : Nat} {d : α} (h : i < l.length) : l.getD i d = l[i] := by simp [h]
theorem drop_at {α : Type _} {l : List α} {i : Nat} (d : α) (h : i < l.length) : l.drop i = l.getD i d :: l.drop (i + 1) := by
  rw [List.drop_eq_getElem_cons h, getD_lt h]
theorem wi {i : Nat} (h : i < 4611686018427387904) : IntKind.i64.wrap ((i : Int) + 1) = ((i + 1 : Nat) : Int) := by rw [w64 (by omega) (by omega)]; omega
theorem fuel {n k : Nat} (h : n < k) : ∃ j, k = j + 1 := ⟨k - 1, by omega⟩
/-- A loop over the places below a length, with a state. -/
theorem loop_idx {A : Type _} {R : Type _} (len : Nat) (L : Nat → Int → A → R) (F : Nat → A → R) (I : Nat → A → Prop)
    (hend : ∀ k a, I len a → L (k + 1) (len : Int) a = F len a)
    (hstep : ∀ k i a, i < len → I i a → (∀ a', I (i + 1) a' → L k ((i : Int) + 1) a' = F (i + 1) a') → L (k + 1) (i : Int) a = F i a) :
    ∀ n k i a, i + n = len → n < k → I i a → L k (i : Int) a = F i a := by
  intro n
  induction n with
  | zero =>
    intro k i a h1 h2 h3
    obtain ⟨k, rfl⟩ := fuel h2
    obtain rfl : i = len := by omega
    exact hend k a h3
  | succ n ih =>
    intro k i a h1 h2 h3
    obtain ⟨k, rfl⟩ := fuel h2
    exact hstep k i a (by omega) h3 (fun a' h => by have := ih k (i + 1) a' (by omega) (by omega) h; rwa [Int.natCast_add] at this)
/-- Lists that are short enough for every count. -/
def Short {α : Type _} (l : List α) : Prop := l.length ≤ 4194304
abbrev Fuel (N : Nat) : Prop := 1099511627776 < N
/-- The fuel with which the laws are told. -/
def N0 : Nat := 1099511627777
theorem hN0 : Fuel N0 := by unfold Fuel N0; omega
/-- What a loop that copies has behind it. -/
theorem copy_step {α : Type _} {l m : List α} {i : Nat} {d : α} (hi : i < l.length) (hm : m.length = l.length) (h : m.take i = l.take i) : (m.set i (l.getD i d)).take (i + 1) = l.take (i + 1) := by
  rw [getD_lt hi]
  apply List.ext_getElem?
  intro j
  simp only [List.getElem?_take, List.getElem?_set]
  by_cases hj : j < i + 1
  · simp only [if_pos hj]
    by_cases e : i = j
    · subst e; simp [hm, hi]
    · simp only [if_neg e]
      have := congrArg (fun l => l[j]?) h
      simp only [List.getElem?_take, show j < i by omega, if_true] at this
      exact this
  · simp only [if_neg hj]
theorem copy_end {α : Type _} {l m : List α} (hm : m.length = l.length) (h : m.take l.length = l.take l.length) : m = l := by
  rwa [List.take_of_length_le (by omega), List.take_of_length_le (by omega)] at h
theorem eqUint64S_eq (N : Nat) (hN : Fuel N) (a : List Int) (ha : Short a) : laws_eqUint64S N a a = some (true, ()) := by
  unfold Short at ha
  have := loop_idx a.length (fun k i (_ : Unit) => laws_eqUint64S.l0 N k a a i) (fun _ _ => some (true, ())) (fun i m => True)
    (fun k m _ => by simp (disch := omega) only [laws_eqUint64S.l0, cf])
    (fun k i m hi _ ih => by simp (disch := omega) only [laws_eqUint64S.l0, ct, bnd, w64, Int.toNat_natCast, bne_self_eq_false, cond_false, ih () trivial])
    a.length N 0 () (by omega) (by omega) trivial
  simp only [laws_eqUint64S, bne_self_eq_false, cond_false]
  exact this
/-- Numbers that count up. -/
def marks (x : Int) : Nat → List Int
  | 0 => []
  | n + 1 => x :: marks (x + 1) n
theorem marks_length (x : Int) : ∀ n, (marks x n).length = n := by
  intro n
  induction n generalizing x with
  | zero => rfl
  | succ n ih => simp [marks, ih]
theorem marks_getD (x : Int) : ∀ n i, i < n → (marks x n).getD i 0 = x + i := by
  intro n
  induction n generalizing x with
  | zero => intro i h; omega
  | succ n ih =>
    intro i h
    cases i with
    | zero => simp [marks]
    | succ i =>
      have := ih (x + 1) i (by omega)
      simp only [marks, List.getD_cons_succ, this]
      omega
theorem getElem?_marks (x : Int) {n i : Nat} (h : i < n) : (marks x n)[i]? = some (x + i) := by
  have := marks_getD x n i h
  have h2 : i < (marks x n).length := by rw [marks_length]; exact h
  rw [getD_lt h2] at this
  rw [List.getElem?_eq_getElem h2, this]
/-- What a loop that fills has behind it. -/
theorem fill_step {α : Type _} {l m : List α} {i : Nat} {v : α} (hi : i < l.length) (hm : m.length = l.length) (hv : l[i]? = some v) (h : m.take i = l.take i) : (m.set i v).take (i + 1) = l.take (i + 1) := by
  have : l.getD i v = v := by rw [List.getD_eq_getElem?_getD, hv]; rfl
  have := copy_step (d := v) hi hm h
  rwa [show l.getD i v = v by rw [List.getD_eq_getElem?_getD, hv]; rfl] at this
theorem markUint64S_eq (N : Nat) (hN : Fuel N) (a : List Int) (x : Int) (ha : Short a) (h1 : 0 ≤ x) (h2 : x ≤ 1073741824) : laws_markUint64S N x a = some (x + a.length, marks x a.length) := by
  unfold Short at ha
  have hl := marks_length x a.length
  have := loop_idx a.length (fun k i (p : Int × List Int) => laws_markUint64S.l0 N k p.1 i p.2) (fun _ _ => some (x + a.length, marks x a.length))
    (fun i p => p.1 = x + i ∧ p.2.length = a.length ∧ p.2.take i = (marks x a.length).take i)
    (fun k p ⟨g1, g2, g3⟩ => by
      have : p.2 = marks x a.length := copy_end (by omega) (by rw [hl]; exact g3)
      simp (disch := omega) only [laws_markUint64S.l0, cf, g1, this])
    (fun k i p hi ⟨g1, g2, g3⟩ ih => by
      have := ih (p.1 + 1, p.2.set i p.1) ⟨by dsimp only; omega, by simp [g2], by dsimp only; exact fill_step (by omega) (by omega) (by rw [g1]; exact getElem?_marks x hi) g3⟩
      simp (disch := omega) only [laws_markUint64S.l0, ct, bnd, w64, u64w, Int.toNat_natCast, this])
    a.length N 0 (x, a) (by omega) (by omega) ⟨by simp, rfl, by simp⟩
  exact this
abbrev Cfg := Int × Int × Int
def W64 (x : Int) : Prop := 0 ≤ x ∧ x < 18446744073709551616
theorem impl_within_eq (N : Nat) (x lo hi : Int) : impl_within N x lo hi = some (decide (lo ≤ x ∧ x ≤ hi), ()) := by
  unfold impl_within
  by_cases h : lo ≤ x
  · by_cases h2 : x ≤ hi <;> simp [h, h2]
  · simp [h]
theorem spec_CellVal_eq (N : Nat) {x : Int} (h : W64 x) : spec_CellVal N x = some (x % 4294967296, ()) := by
  obtain ⟨h1, h2⟩ := h
  simp (disch := omega) only [spec_CellVal, tm, w64]
theorem impl_CellStamp_eq (N : Nat) {x : Int} (h : W64 x) : impl_CellStamp N x = some (x / 4294967296, ()) := by
  obtain ⟨h1, h2⟩ := h
  have e : Int.fdiv x (2 ^ 32) = x / 4294967296 := by rw [Int.fdiv_eq_ediv_of_nonneg _ (by decide)]; rfl
  simp (disch := omega) only [impl_CellStamp, e, w64]
theorem impl_CellVal_eq (N : Nat) {x : Int} (h : W64 x) : impl_CellVal N x = some (x % 4294967296, ()) := by
  unfold impl_CellVal
  obtain ⟨h1, h2⟩ := h
  obtain ⟨n, rfl⟩ := Int.eq_ofNat_of_zero_le h1
  have e : (BitVec.ofInt 64 (n : Int) &&& BitVec.ofInt 64 4294967295).toNat = n % 4294967296 := by
    rw [BitVec.toNat_and, BitVec.toNat_ofInt, BitVec.toNat_ofInt]
    have e1 : ((n : Int) % ((2 ^ 64 : Nat) : Int)).toNat = n := by omega
    have e2 : ((4294967295 : Int) % ((2 ^ 64 : Nat) : Int)).toNat = 2 ^ 32 - 1 := by decide
    rw [e1, e2, Nat.and_two_pow_sub_one_eq_mod]
  rw [e, u64w (by omega) (by omega), w64 (by omega) (by omega)]
  congr 2
/-- A number brought into 0 to m. -/
def low (n m : Int) : Int := if n < 0 then 0 else if n > m then m else n
theorem low_id {n m : Int} (h : 0 ≤ n) (h2 : n ≤ m) : low n m = n := by unfold low; rw [if_neg (by omega), if_neg (by omega)]
theorem low_ge (n m : Int) (h : 0 ≤ m) : 0 ≤ low n m := by unfold low; split <;> (try split) <;> omega
theorem low_le (n m : Int) (h : 0 ≤ m) : low n m ≤ m := by unfold low; split <;> (try split) <;> omega
theorem spec_l1Low_eq (N : Nat) (n m : Int) : spec_l1Low N n m = some (low n m, ()) := by
  unfold spec_l1Low low
  by_cases h : n < 0
  · simp [h]
  · by_cases h2 : n > m <;> simp [h, h2]
theorem spec_CellPack_eq (N : Nat) (v s : Int) : spec_CellPack N v s = some (low s 4294967295 * 4294967296 + low v 4294967295, ()) := by
  have := low_ge v 4294967295 (by omega)
  have := low_le v 4294967295 (by omega)
  have := low_ge s 4294967295 (by omega)
  have := low_le s 4294967295 (by omega)
  simp (disch := omega) only [spec_CellPack, spec_l1Low_eq, Option.bind_some, u64w]
def Plat (a : Cfg) : Prop := 1 ≤ a.1 ∧ a.1 ≤ 4 ∧ 1 ≤ a.2.1 ∧ a.2.1 ≤ 6 ∧ 1 ≤ a.2.2 ∧ a.2.2 ≤ 20
instance (a : Cfg) : Decidable (Plat a) := inferInstanceAs (Decidable (_ ∧ _))
theorem spec_PlatOk_eq (N : Nat) (a : Cfg) : spec_PlatOk N a = some (decide (Plat a), ()) := by
  simp only [spec_PlatOk, cnd, Plat, ge_iff_le]
  repeat' split
  all_goals (congr 2; first | exact decide_eq_decide.2 (by omega) | exact (df (by omega)).symm | exact (dt (by omega)).symm)
theorem impl_PlatOk_eq (N : Nat) (a : Cfg) : impl_PlatOk N a = some (decide (Plat a), ()) := by
  simp only [impl_PlatOk, impl_within_eq, Option.bind_some, cnd, Plat]
  repeat' split
  all_goals (congr 2; first | exact decide_eq_decide.2 (by omega) | exact (df (by omega)).symm | exact (dt (by omega)).symm)
def house (a : Cfg) : Int := 7 + 2 * a.1 + 17 * a.2.1
def size (a : Cfg) : Int := 7 + 23 * a.1 + 17 * a.2.1
theorem spec_l2House_eq (N : Nat) {a : Cfg} (h : Plat a) : spec_l2House N a = some (house a, ()) := by
  unfold Plat at h
  simp (disch := omega) only [spec_l2House, w64, house]
  congr 2; omega
theorem spec_l2Size_eq (N : Nat) {a : Cfg} (h : Plat a) : spec_l2Size N a = some (size a, ()) := by
  have h' := h
  unfold Plat at h'
  simp only [spec_l2Size, spec_l2House_eq N h, Option.bind_some]
  unfold house size
  simp (disch := omega) only [w64]
  congr 2; omega
theorem impl_regAt_eq (N : Nat) (a : Cfg) : impl_PlatCfg_regAt N a = some (3, ()) := rfl
theorem impl_beatAt_eq (N : Nat) {a : Cfg} (h : Plat a) : impl_PlatCfg_beatAt N a = some (3 + a.1, ()) := by
  unfold Plat at h
  simp (disch := omega) only [impl_PlatCfg_beatAt, impl_regAt_eq, Option.bind_some, w64]
theorem impl_headAt_eq (N : Nat) {a : Cfg} (h : Plat a) : impl_PlatCfg_headAt N a = some (3 + 2 * a.1, ()) := by
  have h' := h
  unfold Plat at h'
  simp (disch := omega) only [impl_PlatCfg_headAt, impl_beatAt_eq N h, Option.bind_some, w64]
  congr 2; omega
theorem impl_pageAt_eq (N : Nat) {a : Cfg} (h : Plat a) : impl_PlatCfg_pageAt N a = some (7 + 2 * a.1, ()) := by
  have h' := h
  unfold Plat at h'
  simp (disch := omega) only [impl_PlatCfg_pageAt, impl_headAt_eq N h, Option.bind_some, w64]
  congr 2; omega
theorem impl_tagAt_eq (N : Nat) {a : Cfg} (h : Plat a) : impl_PlatCfg_tagAt N a = some (7 + 2 * a.1 + a.2.1, ()) := by
  have h' := h
  unfold Plat at h'
  simp (disch := omega) only [impl_PlatCfg_tagAt, impl_pageAt_eq N h, Option.bind_some, w64]
theorem impl_linkAt_eq (N : Nat) {a : Cfg} (h : Plat a) : impl_PlatCfg_linkAt N a = some (7 + 2 * a.1 + 9 * a.2.1, ()) := by
  have h' := h
  unfold Plat at h'
  simp (disch := omega) only [impl_PlatCfg_linkAt, impl_tagAt_eq N h, Option.bind_some, w64]
  congr 2; omega
theorem impl_deskAt_eq (N : Nat) {a : Cfg} (h : Plat a) : impl_PlatCfg_deskAt N a = some (house a, ()) := by
  have h' := h
  unfold Plat at h'
  simp (disch := omega) only [impl_PlatCfg_deskAt, impl_linkAt_eq N h, Option.bind_some, w64, house]
  congr 2; omega
theorem impl_size_eq (N : Nat) {a : Cfg} (h : Plat a) : impl_PlatCfg_size N a = some (size a, ()) := by
  have h' := h
  unfold Plat at h'
  simp only [impl_PlatCfg_size, impl_deskAt_eq N h, Option.bind_some]
  unfold house size
  simp (disch := omega) only [w64]
  congr 2; omega
/-- The plat that a word tells. -/
def cfg (x : Int) : Cfg := (x % 4294967296 % 8, x % 4294967296 / 8 % 8, x % 4294967296 / 64)
theorem cfg_text {x : Int} (h : W64 x) : (Int.tmod (x % 4294967296) 8, Int.tmod (IntKind.i64.wrap (Int.tdiv (x % 4294967296) 8)) 8, IntKind.i64.wrap (Int.tdiv (x % 4294967296) 64)) = cfg x := by
  obtain ⟨h1, h2⟩ := h
  simp (disch := omega) only [cfg, tm, td, w64]
/-- Is the list of words a whole memory? -/
def Whole (l : List Int) : Prop := 0 < l.length ∧ l.getD 0 0 / 4294967296 = 201115 ∧ Plat (cfg (l.getD 0 0)) ∧ (l.length : Int) = size (cfg (l.getD 0 0))
instance (l : List Int) : Decidable (Whole l) := inferInstanceAs (Decidable (_ ∧ _))
abbrev Words (l : List Int) : Prop := ∀ x ∈ l, W64 x
theorem Words.at {l : List Int} (h : Words l) (i : Nat) : W64 (l.getD i 0) := by
  rw [List.getD_eq_getElem?_getD]
  cases hi : l[i]? with
  | none => exact ⟨by decide, by decide⟩
  | some x => exact h x (List.mem_of_getElem? hi)
theorem spec_l2Magic_eq (N : Nat) {x : Int} (h : W64 x) (hp : Plat (cfg x)) : spec_l2Magic N (cfg x) = some (201115 * 4294967296 + x % 4294967296, ()) := by
  obtain ⟨h1, h2⟩ := h
  have e : x % 4294967296 % 8 + 8 * (x % 4294967296 / 8 % 8) + 64 * (x % 4294967296 / 64) = x % 4294967296 := by omega
  simp only [spec_l2Magic, cfg] at hp ⊢
  unfold Plat at hp
  simp only [] at hp
  simp (disch := omega) only [w64, e, spec_CellPack_eq, low_id, Option.bind_some]
theorem spec_PlatCheck_eq (N : Nat) {l : List Int} (hw : Words l) : spec_PlatCheck N l = some (if Whole l then (cfg (l.getD 0 0), true) else ((0, 0, 0), false), ()) := by
  have hx := hw.at 0
  have hx' := hx
  obtain ⟨x1, x2⟩ := hx'
  unfold spec_PlatCheck
  by_cases h1 : l.length = 0
  · have n0 : ((l.length : Int) == 0) = true := by rw [beq_iff_eq]; omega
    rw [if_neg (fun h => by have := h.1; omega)]
    simp only [n0, cond_true]
  have n0 : ((l.length : Int) == 0) = false := by rw [beq_eq_false_iff_ne]; omega
  simp (disch := omega) only [n0, cond_false, ct, spec_CellVal_eq N hx, Option.bind_some, cfg_text hx, spec_PlatOk_eq]
  by_cases h3 : Plat (cfg (l.getD 0 0))
  rotate_left
  · rw [if_neg (fun h => h3 h.2.2.1)]
    simp only [df h3, Bool.not_false, cond_true]
  simp only [dt h3, Bool.not_true, cond_false, spec_l2Magic_eq N hx h3, Option.bind_some, spec_l2Size_eq N h3]
  by_cases h2 : l.getD 0 0 / 4294967296 = 201115
  rotate_left
  · rw [if_neg (fun h => h2 h.2.1)]
    have e : l.getD 0 0 ≠ 201115 * 4294967296 + l.getD 0 0 % 4294967296 := by omega
    rw [bne_iff_ne.2 e, cond_true]
  have e : 201115 * 4294967296 + l.getD 0 0 % 4294967296 = l.getD 0 0 := by omega
  rw [e, bne_self_eq_false, cond_false]
  by_cases e4 : (l.length : Int) = size (cfg (l.getD 0 0))
  · rw [if_pos ⟨by omega, h2, h3, e4⟩, e4, bne_self_eq_false, cond_false]
  · rw [if_neg (fun h => e4 h.2.2.2), bne_iff_ne.2 e4, cond_true]
/-- What the first word tells, if it is one of a memory's. -/
def Head (l : List Int) : Prop := 0 < l.length ∧ l.getD 0 0 / 4294967296 = 201115 ∧ Plat (cfg (l.getD 0 0))
instance (l : List Int) : Decidable (Head l) := inferInstanceAs (Decidable (_ ∧ _))
theorem impl_cfgOf_yes (N : Nat) {l : List Int} (hw : Words l) (h : Head l) : impl_cfgOf N l = some ((cfg (l.getD 0 0), true), ()) := by
  have hx := hw.at 0
  obtain ⟨h1, h2, h3⟩ := h
  have n0 : ((l.length : Int) == 0) = false := by rw [beq_eq_false_iff_ne]; omega
  simp (disch := omega) only [impl_cfgOf, n0, cond_false, ct, impl_CellVal_eq N hx, impl_CellStamp_eq N hx, h2, bne_self_eq_false, Option.bind_some, cfg_text hx, impl_PlatOk_eq, dt h3]
theorem impl_cfgOf_no (N : Nat) {l : List Int} (hw : Words l) (h : ¬ Head l) : ∃ c, impl_cfgOf N l = some ((c, false), ()) := by
  have hx := hw.at 0
  unfold impl_cfgOf
  by_cases h1 : l.length = 0
  · have n0 : ((l.length : Int) == 0) = true := by rw [beq_iff_eq]; omega
    simp only [n0, cond_true]; exact ⟨_, rfl⟩
  have n0 : ((l.length : Int) == 0) = false := by rw [beq_eq_false_iff_ne]; omega
  simp (disch := omega) only [n0, cond_false, ct, impl_CellVal_eq N hx, impl_CellStamp_eq N hx, Option.bind_some, cfg_text hx, impl_PlatOk_eq]
  by_cases h2 : l.getD 0 0 / 4294967296 = 201115
  rotate_left
  · simp only [bne_iff_ne.2 h2, cond_true]; exact ⟨_, rfl⟩
  simp only [h2, bne_self_eq_false, cond_false]
  rw [df (fun h3 => h ⟨by omega, h2, h3⟩)]
  exact ⟨_, rfl⟩
theorem impl_PlatCheck_eq (N : Nat) {l : List Int} (hw : Words l) : impl_PlatCheck N l = some (if Whole l then (cfg (l.getD 0 0), true) else ((0, 0, 0), false), ()) := by
  unfold impl_PlatCheck
  by_cases h : Head l
  · simp only [impl_cfgOf_yes N hw h, Option.bind_some, Bool.not_true, cond_false, impl_size_eq N h.2.2]
    by_cases e4 : (l.length : Int) = size (cfg (l.getD 0 0))
    · rw [if_pos ⟨h.1, h.2.1, h.2.2, e4⟩, e4, bne_self_eq_false, cond_false]
    · rw [if_neg (fun h => e4 h.2.2.2), bne_iff_ne.2 e4, cond_true]
  · obtain ⟨c, hc⟩ := impl_cfgOf_no N hw h
    rw [if_neg (fun g => h ⟨g.1, g.2.1, g.2.2.1⟩)]
    simp only [hc, Option.bind_some, Bool.not_false, cond_true]
def wcfg (w : List Int) : Cfg := cfg (w.getD 0 0)
theorem Whole.plat {w : List Int} (h : Whole w) : Plat (wcfg w) := h.2.2.1
theorem Whole.len {w : List Int} (h : Whole w) : (w.length : Int) = 7 + 23 * (wcfg w).1 + 17 * (wcfg w).2.1 := h.2.2.2
/-- A digit. -/
def hexd (d : Nat) : UInt8 := if d < 10 then UInt8.ofNat (48 + d) else UInt8.ofNat (87 + d)
/-- A number in hexadecimals. -/
def hx (n : Nat) : List UInt8 := if h : n < 16 then [hexd n] else hx (n / 16) ++ [hexd (n % 16)]
  termination_by n
  decreasing_by omega
theorem hx_small {x : Nat} (h : x < 16) : hx x = [hexd x] := by rw [hx, dif_pos h]
theorem hx_big {x : Nat} (h : ¬ x < 16) : hx x = hx (x / 16) ++ [hexd (x % 16)] := by rw [hx, dif_neg h]
theorem byteAt_hex : ∀ (j : Nat), j < 16 → byteAt (ByteArray.mk #[48, 49, 50, 51, 52, 53, 54, 55, 56, 57, 97, 98, 99, 100, 101, 102]) j = (hexd j).toNat := by
  intro j h
  have : j = 0 ∨ j = 1 ∨ j = 2 ∨ j = 3 ∨ j = 4 ∨ j = 5 ∨ j = 6 ∨ j = 7 ∨ j = 8 ∨ j = 9 ∨ j = 10 ∨ j = 11 ∨ j = 12 ∨ j = 13 ∨ j = 14 ∨ j = 15 := by omega
  rcases this with rfl | rfl | rfl | rfl | rfl | rfl | rfl | rfl | rfl | rfl | rfl | rfl | rfl | rfl | rfl | rfl <;> rfl
theorem spec_l16Hex_eq (N : Nat) (x : Nat) : spec_l16Hex N (x : Int) = some (((hexd (x % 16)).toNat : Int), ()) := by
  have e : Int.tmod (x : Int) 16 = ((x % 16 : Nat) : Int) := by rw [Int.tmod_eq_emod_of_nonneg (by omega)]; omega
  have hm : x % 16 < 16 := Nat.mod_lt _ (by omega)
  have hs : ((ByteArray.mk #[48, 49, 50, 51, 52, 53, 54, 55, 56, 57, 97, 98, 99, 100, 101, 102]).size : Int) = 16 := rfl
  unfold spec_l16Hex
  rw [e, hs, decide_eq_true (by omega), cond_true, decide_eq_true (by omega), cond_true, Int.toNat_natCast, byteAt_hex _ hm]
theorem inBytes_one (c : UInt8) : inBytes [(c.toNat : Int)] = true := by
  have := c.toNat_lt
  show (bif decide ((0 : Int) ≤ (c.toNat : Int)) then bif decide ((c.toNat : Int) < 256) then allByte [] else false else false) = true
  rw [decide_eq_true (by omega), cond_true, decide_eq_true (by omega), cond_true]
  rfl
theorem mkBytes_one (c : UInt8) : mkBytes [(c.toNat : Int)] = ⟨[c].toArray⟩ := by
  unfold mkBytes
  simp
theorem hx_len : ∀ (d x : Nat), x < 16 ^ d → (hx x).length ≤ d + 1
  | 0, x, h => by
    have : x < 1 := h
    rw [hx_small (by omega)]; simp
  | d + 1, x, h => by
    by_cases c : x < 16
    · rw [hx_small c]; simp
    · rw [hx_big c, List.length_append]
      have := hx_len d (x / 16) (by rw [Nat.pow_succ] at h; omega)
      simp only [List.length_cons, List.length_nil]
      omega
theorem ba_app2 (a b : List UInt8) : (ByteArray.mk a.toArray) ++ (ByteArray.mk b.toArray) = ⟨(a ++ b).toArray⟩ := by
  apply ByteArray.ext
  simp [ByteArray.data_append]
theorem ba_size2 (a : List UInt8) : (ByteArray.mk a.toArray).size = a.length := by simp [ByteArray.size]
theorem spec_WireWord_loop (N : Nat) : ∀ (d k x : Nat) (r : List UInt8), x < 16 ^ d → d < k → d ≤ 16 → r.length + d ≤ 1000 → x < 18446744073709551616 →
    spec_WireWord.l0 N k (x : Int) ⟨(hexd (x % 16) :: r).toArray⟩ = some (⟨(hx x ++ r).toArray⟩, ())
  | 0, k, x, r, h, hk, _, hr, hx64 => by
    obtain ⟨k, rfl⟩ : ∃ j, k = j + 1 := ⟨k - 1, by omega⟩
    have : x < 1 := h
    obtain rfl : x = 0 := by omega
    rw [spec_WireWord.l0, cf (by omega), hx_small (by omega)]
    rfl
  | d + 1, k, x, r, h, hk, h16, hr, hx64 => by
    obtain ⟨k, rfl⟩ : ∃ j, k = j + 1 := ⟨k - 1, by omega⟩
    by_cases c : x < 16
    · rw [spec_WireWord.l0, cf (by omega), hx_small c, Nat.mod_eq_of_lt c]
      rfl
    · have e : IntKind.u64.wrap (Int.tdiv (x : Int) 16) = ((x / 16 : Nat) : Int) := by
        rw [show Int.tdiv (x : Int) 16 = ((x / 16 : Nat) : Int) by rw [Int.tdiv_eq_ediv_of_nonneg (by omega)]; omega]
        exact u64w (by omega) (by omega)
      have big : ∀ n : Nat, n ≤ 2000 → decide ((n : Int) > IntKind.i64.max) = false := fun n hn => decide_eq_false (by show ¬ ((n : Int) > 9223372036854775807); omega)
      rw [spec_WireWord.l0, ct (by omega), e, spec_l16Hex_eq]
      simp only [Option.bind_some]
      rw [inBytes_one, cond_true, mkBytes_one, ba_size2, ba_size2, big _ (by simp only [List.length_cons, List.length_nil]; omega), cond_false, ba_app2, hx_big c, List.append_assoc]
      exact spec_WireWord_loop N d k (x / 16) (hexd (x % 16) :: r) (by rw [Nat.pow_succ] at h; omega) (by omega) (by omega) (by simp only [List.length_cons]; omega) (by omega)
theorem spec_WireWord_eq (N : Nat) (hN : 100 < N) (x : Nat) (h : x < 18446744073709551616) : spec_WireWord N (x : Int) = some (⟨(hx x).toArray⟩, ()) := by
  unfold spec_WireWord
  rw [spec_l16Hex_eq]
  simp only [Option.bind_some]
  rw [inBytes_one, cond_true, mkBytes_one]
  have := spec_WireWord_loop N 16 N x [] h (by omega) (by omega) (by simp) h
  rw [List.append_nil] at this
  exact this
/-- So many words that are 0. -/
def zsL (n : Nat) : List UInt8 := if n = 0 then [] else 122 :: (Lib.decDigits n ++ [32])
/-- The text of words, behind so many that are 0. -/
def wireL : Nat → List Int → List UInt8
  | z, [] => zsL z ++ [101, 110, 100, 10]
  | z, x :: r => if x = 0 then wireL (z + 1) r else zsL z ++ (hx x.toNat ++ (32 :: wireL 0 r))
theorem dec_small {x : Nat} (h : x < 10) : Lib.decDigits x = [UInt8.ofNat (48 + x)] := by rw [Lib.decDigits, dif_pos h]
theorem dec_big {x : Nat} (h : ¬ x < 10) : Lib.decDigits x = Lib.decDigits (x / 10) ++ [UInt8.ofNat (48 + x % 10)] := by rw [Lib.decDigits, dif_neg h]
theorem dec_len : ∀ (d x : Nat), x < 10 ^ d → (Lib.decDigits x).length ≤ d + 1
  | 0, x, h => by
    have : x < 1 := h
    rw [dec_small (by omega)]; simp
  | d + 1, x, h => by
    by_cases c : x < 10
    · rw [dec_small c]; simp
    · rw [dec_big c, List.length_append]
      have := dec_len d (x / 10) (by rw [Nat.pow_succ] at h; omega)
      simp only [List.length_cons, List.length_nil]
      omega
theorem digit_byte {x : Nat} (h : x < 10) : IntKind.u8.wrap (IntKind.i64.wrap (48 + (x : Int))) = ((UInt8.ofNat (48 + x)).toNat : Int) := by
  have : x = 0 ∨ x = 1 ∨ x = 2 ∨ x = 3 ∨ x = 4 ∨ x = 5 ∨ x = 6 ∨ x = 7 ∨ x = 8 ∨ x = 9 := by omega
  rcases this with rfl | rfl | rfl | rfl | rfl | rfl | rfl | rfl | rfl | rfl <;> rfl
theorem big1 {n : Nat} (hn : n ≤ 4611686018427387904) : decide ((n : Int) > IntKind.i64.max) = false := decide_eq_false (by show ¬ ((n : Int) > 9223372036854775807); omega)
theorem spec_l20Dec_loop (N : Nat) : ∀ (d k x : Nat) (r : List UInt8), x < 10 ^ (d + 1) → d < k → d ≤ 17 → r.length + d ≤ 1000 → spec_l20Dec.l0 N k (x : Int) ⟨r.toArray⟩ = some (⟨(Lib.decDigits x ++ r).toArray⟩, ())
  | d, k, x, r, h, hk, h17, hr => by
    obtain ⟨k, rfl⟩ : ∃ j, k = j + 1 := ⟨k - 1, by omega⟩
    have hb : x < 1000000000000000000 := Nat.lt_of_lt_of_le h (by
      have : d = 0 ∨ d = 1 ∨ d = 2 ∨ d = 3 ∨ d = 4 ∨ d = 5 ∨ d = 6 ∨ d = 7 ∨ d = 8 ∨ d = 9 ∨ d = 10 ∨ d = 11 ∨ d = 12 ∨ d = 13 ∨ d = 14 ∨ d = 15 ∨ d = 16 ∨ d = 17 := by omega
      rcases this with rfl | rfl | rfl | rfl | rfl | rfl | rfl | rfl | rfl | rfl | rfl | rfl | rfl | rfl | rfl | rfl | rfl | rfl <;> decide)
    by_cases c : x < 10
    · rw [spec_l20Dec.l0, cf (by omega), digit_byte c, inBytes_one, cond_true, mkBytes_one, ba_size2, ba_size2, big1 (by simp only [List.length_cons, List.length_nil]; omega), cond_false, ba_app2, dec_small c]
    · obtain ⟨d, rfl⟩ : ∃ e, d = e + 1 := ⟨d - 1, by
        have : d ≠ 0 := by rintro rfl; have : x < 10 := h; omega
        omega⟩
      have e1 : Int.tmod (x : Int) 10 = ((x % 10 : Nat) : Int) := by rw [Int.tmod_eq_emod_of_nonneg (by omega)]; omega
      have e2 : IntKind.i64.wrap (Int.tdiv (x : Int) 10) = ((x / 10 : Nat) : Int) := by
        rw [show Int.tdiv (x : Int) 10 = ((x / 10 : Nat) : Int) by rw [Int.tdiv_eq_ediv_of_nonneg (by omega)]; omega]
        exact w64 (by omega) (by omega)
      rw [spec_l20Dec.l0, ct (by omega), e1, digit_byte (Nat.mod_lt _ (by omega)), inBytes_one, cond_true, mkBytes_one, ba_size2, ba_size2, big1 (by simp only [List.length_cons, List.length_nil]; omega), cond_false, ba_app2, e2, dec_big c, List.append_assoc]
      exact spec_l20Dec_loop N d k (x / 10) _ (by rw [Nat.pow_succ] at h; omega) (by omega) (by omega) (by simp only [List.length_append, List.length_cons, List.length_nil]; omega)
theorem spec_l20Dec_eq (N : Nat) (hN : 100 < N) (x : Nat) (h : x < 1000000) : spec_l20Dec N (x : Int) = some (⟨(Lib.decDigits x).toArray⟩, ()) := by
  unfold spec_l20Dec
  rw [cf (by omega), cf (by omega)]
  have := spec_l20Dec_loop N 5 N x [] h (by omega) (by omega) (by simp)
  rw [List.append_nil] at this
  exact this
theorem zsL_len {n : Nat} (h : n < 10000000) : (zsL n).length ≤ 10 := by
  unfold zsL
  split
  · simp
  · have := dec_len 7 n h
    simp only [List.length_cons, List.length_append, List.length_nil]
    omega
theorem spec_l16Zeros_eq (N : Nat) (hN : 100 < N) (x : Nat) (h : x < 1000000) : spec_l16Zeros N (x : Int) = some (⟨(zsL x).toArray⟩, ()) := by
  unfold spec_l16Zeros zsL
  by_cases c : x = 0
  · subst c; rfl
  · have hd := dec_len 6 x h
    have b1 : (ByteArray.mk #[122]) = ⟨[122].toArray⟩ := rfl
    have b2 : (ByteArray.mk #[32]) = ⟨[32].toArray⟩ := rfl
    rw [beq_eq_false_iff_ne.2 (show (x : Int) ≠ 0 by omega), cond_false, if_neg c, spec_l20Dec_eq N hN x h]
    simp only [Option.bind_some]
    rw [b1, b2, ba_app2, ba_app2, ba_size2, ba_size2, ba_size2, ba_size2, big1 (by simp only [List.length_cons, List.length_nil]; omega), cond_false, big1 (by simp only [List.length_append, List.length_cons, List.length_nil]; omega), cond_false]
    rfl
theorem spec_WireText_loop (N : Nat) (hN : 100 < N) {l : List Int} (hw : Words l) (hl : l.length ≤ 900000) : ∀ (d i k z : Nat) (s : List UInt8), i + d = l.length → d < k → z ≤ i → s.length ≤ 100 * i →
    spec_WireText.l0 N k l ⟨s.toArray⟩ (z : Int) (i : Int) = some (⟨(s ++ wireL z (l.drop i)).toArray⟩, ())
  | 0, i, k, z, s, e, hk, hz, hs => by
    obtain ⟨k, rfl⟩ : ∃ j, k = j + 1 := ⟨k - 1, by omega⟩
    have hzl := zsL_len (n := z) (by omega)
    have b1 : (ByteArray.mk #[101, 110, 100, 10]) = ⟨[101, 110, 100, 10].toArray⟩ := rfl
    rw [spec_WireText.l0, cf (by omega), spec_l16Zeros_eq N hN z (by omega)]
    simp only [Option.bind_some]
    rw [b1, ba_app2, ba_app2, ba_size2, ba_size2, ba_size2, ba_size2, big1 (by omega), cond_false, big1 (by simp only [List.length_append, List.length_cons, List.length_nil]; omega), cond_false, List.drop_eq_nil_of_le (by omega), wireL, List.append_assoc]
  | d + 1, i, k, z, s, e, hk, hz, hs => by
    obtain ⟨k, rfl⟩ : ∃ j, k = j + 1 := ⟨k - 1, by omega⟩
    have hi : i < l.length := by omega
    have hwi := hw.at i
    have hzl := zsL_len (n := z) (by omega)
    have b2 : (ByteArray.mk #[32]) = ⟨[32].toArray⟩ := rfl
    have ed : l.drop i = l.getD i 0 :: l.drop (i + 1) := by
      rw [List.drop_eq_getElem_cons hi]
      congr 1
      simp [List.getD, hi]
    rw [spec_WireText.l0, ct (by omega), Int.toNat_natCast]
    simp (disch := omega) only [bnd]
    rw [w64 (n := (z : Int) + 1) (by omega) (by omega), w64 (n := (i : Int) + 1) (by omega) (by omega), show (i : Int) + 1 = ((i + 1 : Nat) : Int) by omega, show (z : Int) + 1 = ((z + 1 : Nat) : Int) by omega, ed, wireL]
    generalize l.getD i 0 = x at hwi
    by_cases c : x = 0
    · rw [beq_iff_eq.2 c, cond_true, if_pos c]
      exact spec_WireText_loop N hN hw hl d (i + 1) k (z + 1) s (by omega) (by omega) (by omega) (by omega)
    · obtain ⟨n, rfl⟩ : ∃ n : Nat, x = n := ⟨x.toNat, by have := hwi.1; omega⟩
      have hn : n < 18446744073709551616 := by have := hwi.2; omega
      have hh := hx_len 16 n hn
      rw [beq_eq_false_iff_ne.2 c, cond_false, if_neg c, spec_l16Zeros_eq N hN z (by omega), spec_WireWord_eq N hN n hn, Int.toNat_natCast]
      simp only [Option.bind_some]
      rw [b2]
      simp only [ba_app2, ba_size2]
      rw [big1 (by omega), cond_false, big1 (by simp only [List.length_append]; omega), cond_false, big1 (by simp only [List.length_append, List.length_cons, List.length_nil]; omega), cond_false]
      have ih := spec_WireText_loop N hN hw hl d (i + 1) k 0 (s ++ zsL z ++ hx n ++ [32]) (by omega) (by omega) (by omega) (by simp only [List.length_append, List.length_cons, List.length_nil]; omega)
      refine Eq.trans ih ?_
      simp only [List.append_assoc, List.cons_append, List.nil_append]
def wireT (l : List Int) : List UInt8 := if Whole l then wireL 0 l else []
theorem whole_len {l : List Int} (h : Whole l) : l.length ≤ 300 ∧ l ≠ [] := by
  have h1 := h.len
  have h2 := h.plat
  unfold Plat at h2
  refine ⟨by omega, ?_⟩
  rintro rfl
  have := h.1
  simp at this
theorem spec_WireText_eq (N : Nat) (hN : 1000000 < N) {l : List Int} (hw : Words l) : spec_WireText N l = some (⟨(wireT l).toArray⟩, ()) := by
  unfold spec_WireText wireT
  rw [spec_PlatCheck_eq N hw]
  simp only [Option.bind_some]
  by_cases h : Whole l
  · have hl := (whole_len h).1
    rw [if_pos h, if_pos h, Bool.not_true, cond_false]
    have := spec_WireText_loop N (by omega) hw (by omega) l.length 0 N 0 [] (by omega) (by omega) (by omega) (by simp)
    rw [List.nil_append, List.drop_zero] at this
    exact this
  · rw [if_neg h, if_neg h]; rfl
theorem wireL_split (m : Nat) (r : List Int) (h : r = [] ∨ r.getD 0 0 ≠ 0) : wireL m r = zsL m ++ wireL 0 r := by
  cases r with
  | nil => rw [wireL, wireL]; rfl
  | cons x r =>
    have hx : x ≠ 0 := by
      rcases h with h | h
      · cases h
      · exact h
    rw [wireL, wireL, if_neg hx, if_neg hx]
    rfl
theorem drop_cons0 {l : List Int} {i : Nat} (hi : i < l.length) : l.drop i = l.getD i 0 :: l.drop (i + 1) := by
  rw [List.drop_eq_getElem_cons hi]
  congr 1
  simp [List.getD, hi]
theorem hx_pos (x : Nat) : 1 ≤ (hx x).length := by
  by_cases c : x < 16
  · rw [hx_small c]; simp
  · rw [hx_big c]; simp
theorem hx_lt : ∀ (x : Nat), x < 16 ^ (hx x).length := by
  intro x
  induction x using Nat.strongRecOn with
  | _ x ih =>
    by_cases c : x < 16
    · rw [hx_small c]; simpa using c
    · rw [hx_big c, List.length_append, List.length_cons, List.length_nil, Nat.zero_add, Nat.pow_succ]
      have := ih (x / 16) (by omega)
      omega
theorem hx_get : ∀ (x k : Nat) (h : k < (hx x).length), (hx x)[k] = hexd (x / 16 ^ ((hx x).length - 1 - k) % 16) := by
  intro x
  induction x using Nat.strongRecOn with
  | _ x ih =>
    intro k h
    by_cases c : x < 16
    · have e := hx_small c
      have hl : (hx x).length = 1 := by rw [e]; rfl
      obtain rfl : k = 0 := by omega
      simp only [e, List.length_cons, List.length_nil, List.getElem_cons_zero]
      simp [Nat.mod_eq_of_lt c]
    · have e := hx_big c
      have hl : (hx x).length = (hx (x / 16)).length + 1 := by rw [e]; simp
      by_cases hk : k < (hx (x / 16)).length
      · have := ih (x / 16) (by omega) k hk
        simp only [e, List.getElem_append_left hk, List.length_append, List.length_cons, List.length_nil]
        rw [this, Nat.div_div_eq_div_mul, ← Nat.pow_succ']
        congr 3
        congr 1
        omega
      · have hk2 : k = (hx (x / 16)).length := by omega
        subst hk2
        simp only [e, List.length_append, List.length_cons, List.length_nil]
        rw [List.getElem_append_right (Nat.le_refl _)]
        simp
/-- What a byte counts as a digit. -/
def cval (c : Nat) : Nat := if 48 ≤ c ∧ c ≤ 57 then c - 48 else (c ||| 32) - 87
theorem hexd_val : ∀ q, q < 16 → cval (hexd q).toNat = q ∧ ((48 ≤ (hexd q).toNat ∧ (hexd q).toNat ≤ 57) ∨ (97 ≤ ((hexd q).toNat ||| 32) ∧ ((hexd q).toNat ||| 32) ≤ 122 ∧ ((hexd q).toNat ||| 32) - 87 < 16)) := by
  intro q h
  have : q = 0 ∨ q = 1 ∨ q = 2 ∨ q = 3 ∨ q = 4 ∨ q = 5 ∨ q = 6 ∨ q = 7 ∨ q = 8 ∨ q = 9 ∨ q = 10 ∨ q = 11 ∨ q = 12 ∨ q = 13 ∨ q = 14 ∨ q = 15 := by omega
  rcases this with rfl | rfl | rfl | rfl | rfl | rfl | rfl | rfl | rfl | rfl | rfl | rfl | rfl | rfl | rfl | rfl <;> decide
theorem hexd_ne : ∀ q, q < 16 → hexd q ≠ 32 ∧ hexd q ≠ 122 := by
  intro q h
  have : q = 0 ∨ q = 1 ∨ q = 2 ∨ q = 3 ∨ q = 4 ∨ q = 5 ∨ q = 6 ∨ q = 7 ∨ q = 8 ∨ q = 9 ∨ q = 10 ∨ q = 11 ∨ q = 12 ∨ q = 13 ∨ q = 14 ∨ q = 15 := by omega
  rcases this with rfl | rfl | rfl | rfl | rfl | rfl | rfl | rfl | rfl | rfl | rfl | rfl | rfl | rfl | rfl | rfl <;> decide
theorem hexd_inj {p q : Nat} (hp : p < 16) (hq : q < 16) (h : hexd p = hexd q) : p = q := by
  rw [← (hexd_val p hp).1, ← (hexd_val q hq).1, h]
theorem hx_mem {x : Nat} {c : UInt8} (h : c ∈ hx x) : c ≠ 32 ∧ c ≠ 122 := by
  obtain ⟨k, hk, rfl⟩ := List.getElem_of_mem h
  rw [hx_get x k hk]
  exact hexd_ne _ (Nat.mod_lt _ (by omega))
theorem hx_len16 : ∀ (d x : Nat), x < 16 ^ (d + 1) → (hx x).length ≤ d + 1
  | 0, x, h => by
    have : x < 16 := h
    rw [hx_small this]; simp
  | d + 1, x, h => by
    by_cases c : x < 16
    · rw [hx_small c]; simp
    · rw [hx_big c, List.length_append]
      have := hx_len16 d (x / 16) (by rw [Nat.pow_succ] at h; omega)
      simp only [List.length_cons, List.length_nil]
      omega
/-- What has been read so far of a word that is written as it should be. -/
def Rd16 (bs : List UInt8) (k acc : Nat) : Prop := ∀ x, x < 18446744073709551616 → bs = hx x → acc = x / 16 ^ (bs.length - k)
theorem Rd16.start (bs : List UInt8) : Rd16 bs 0 0 := by
  rintro x _ rfl
  rw [Nat.sub_zero, Nat.div_eq_of_lt (hx_lt x)]
theorem Rd16.digit {bs : List UInt8} {k acc : Nat} {c : UInt8} (h : Rd16 bs k acc) (hc : bs[k]? = some c) {x : Nat} (hx64 : x < 18446744073709551616) (e : bs = hx x) : cval c.toNat = x / 16 ^ (bs.length - 1 - k) % 16 ∧ acc < 1152921504606846976 ∧ ((48 ≤ c.toNat ∧ c.toNat ≤ 57) ∨ (97 ≤ (c.toNat ||| 32) ∧ (c.toNat ||| 32) ≤ 122 ∧ (c.toNat ||| 32) - 87 < 16)) := by
  have ha := h x hx64 e
  subst e
  have hk : k < (hx x).length := (List.getElem?_eq_some_iff.1 hc).1
  have hg := hx_get x k hk
  rw [List.getElem?_eq_getElem hk] at hc
  injection hc with hc
  rw [hg] at hc
  subst hc
  have h1 := hexd_val (x / 16 ^ ((hx x).length - 1 - k) % 16) (Nat.mod_lt _ (by omega))
  refine ⟨h1.1, ?_, h1.2⟩
  rw [ha]
  have : x / 16 ^ ((hx x).length - k) ≤ x / 16 := by
    obtain ⟨d, hd⟩ : ∃ d, (hx x).length - k = d + 1 := ⟨(hx x).length - k - 1, by omega⟩
    rw [hd, Nat.pow_succ', ← Nat.div_div_eq_div_mul]
    exact Nat.div_le_self _ _
  omega
theorem Rd16.next {bs : List UInt8} {k acc : Nat} {c : UInt8} (h : Rd16 bs k acc) (hc : bs[k]? = some c) : Rd16 bs (k + 1) (acc * 16 + cval c.toNat) := by
  intro x hx64 e
  have h1 := Rd16.digit h hc hx64 e
  have ha := h x hx64 e
  have hk : k < bs.length := (List.getElem?_eq_some_iff.1 hc).1
  rw [h1.1, ha]
  obtain ⟨d, hd⟩ : ∃ d, bs.length - (k + 1) = d := ⟨_, rfl⟩
  rw [show bs.length - k = d + 1 by omega, show bs.length - 1 - k = d by omega, hd, Nat.pow_succ, ← Nat.div_div_eq_div_mul]
  omega
theorem Rd16.all {bs : List UInt8} {acc : Nat} (h : Rd16 bs bs.length acc) {x : Nat} (hx64 : x < 18446744073709551616) (e : bs = hx x) : acc = x := by
  have := h x hx64 e
  rw [Nat.sub_self] at this
  simpa using this
/-- A text of bytes. -/
def mkB (l : List UInt8) : ByteArray := ⟨l.toArray⟩
theorem mkB_list (l : List UInt8) : (mkB l).data.toList = l := by simp [mkB]
theorem mkB_tl (l : List UInt8) : (mkB l).toList = l := by rw [ByteArray.toList_eq, mkB_list]
theorem mkB_size (l : List UInt8) : (mkB l).size = l.length := by simp [mkB, ByteArray.size]
theorem mkB_of (t : ByteArray) : mkB t.data.toList = t := by simp [mkB]
theorem mkB_extract (l : List UInt8) (a b : Nat) : (mkB l).extract a b = mkB ((l.drop a).take (b - a)) := by
  rw [← mkB_of ((mkB l).extract a b), Lib.extract_data, mkB_list]
theorem mkB_at {l : List UInt8} {i : Nat} (h : i < l.length) : byteAt (mkB l) i = ((l.getD i 0).toNat : Int) := by
  have h2 : i < (mkB l).size := by rw [mkB_size]; exact h
  unfold byteAt
  rw [dif_pos h2]
  simp [mkB, ByteArray.getElem_eq_getElem_data, h]
theorem mkB_getD (P : List (List UInt8)) (i : Nat) : (P.map mkB).getD i ByteArray.empty = mkB (P.getD i []) := by
  rw [List.getD_eq_getElem?_getD, List.getD_eq_getElem?_getD, List.getElem?_map]
  cases P[i]? <;> rfl
/-- The pieces between spaces. -/
def cutA : List UInt8 → List UInt8 → List (List UInt8)
  | cur, [] => [cur]
  | cur, c :: r => if c = 32 then cur :: cutA [] r else cutA (cur ++ [c]) r
theorem cutA_len : ∀ (l cur : List UInt8), (cutA cur l).length ≤ l.length + 1
  | [], cur => by simp [cutA]
  | c :: r, cur => by
    rw [cutA]
    split
    · have := cutA_len r []
      simp only [List.length_cons]; omega
    · have := cutA_len r (cur ++ [c])
      simp only [List.length_cons]; omega
theorem cutA_piece : ∀ (l cur p : List UInt8), p ∈ cutA cur l → p.length ≤ cur.length + l.length
  | [], cur, p, h => by
    simp only [cutA, List.mem_singleton] at h
    subst h; simp
  | c :: r, cur, p, h => by
    rw [cutA] at h
    split at h
    · rcases List.mem_cons.1 h with rfl | h
      · omega
      · have := cutA_piece r [] p h
        simp only [List.length_cons, List.length_nil] at *; omega
    · have := cutA_piece r (cur ++ [c]) p h
      simp only [List.length_cons, List.length_append, List.length_nil] at *; omega
theorem cutA_tok : ∀ (tok cur r : List UInt8), (∀ c ∈ tok, c ≠ 32) → cutA cur (tok ++ 32 :: r) = (cur ++ tok) :: cutA [] r
  | [], cur, r, h => by simp [cutA]
  | c :: tok, cur, r, h => by
    rw [List.cons_append, cutA, if_neg (h c (by simp)), cutA_tok tok _ r (fun d hd => h d (by simp [hd])), List.append_assoc]
    rfl
theorem cutA_last : ∀ (tok cur : List UInt8), (∀ c ∈ tok, c ≠ 32) → cutA cur tok = [cur ++ tok]
  | [], cur, h => by simp [cutA]
  | c :: tok, cur, h => by
    rw [cutA, if_neg (h c (by simp)), cutA_last tok _ (fun d hd => h d (by simp [hd])), List.append_assoc]
    rfl
theorem split_cutA : ∀ (n : Nat) (s : List UInt8), s.length ≤ n → Lib.split s [32] = cutA [] s := by
  intro n
  induction n with
  | zero =>
    intro s h
    obtain rfl : s = [] := List.eq_nil_of_length_eq_zero (by omega)
    rfl
  | succ n ih =>
    intro s h
    unfold Lib.split
    rcases Lib.index_spec s [32] with ⟨hm, hno⟩ | ⟨i, hi, hil, ho, hno⟩
    · rw [Lib.count_miss hm]
      rw [cutA_last s [] ?_]
      · rfl
      · intro c hc e
        subst e
        obtain ⟨j, hj, e⟩ := List.getElem_of_mem hc
        have := hno j (by omega)
        have hd : s.drop j = 32 :: s.drop (j + 1) := by rw [List.drop_eq_getElem_cons hj, e]
        simp [Lib.occAt, hd, List.isPrefixOf] at this
    · have hr := Lib.index_room s [32] (by omega)
      have hd : s.drop i = 32 :: s.drop (i + 1) := by
        have hlt : i < s.length := by simp at hr; omega
        rw [List.drop_eq_getElem_cons hlt]
        congr 1
        rw [Lib.occAt, List.drop_eq_getElem_cons hlt] at ho
        simp [List.isPrefixOf] at ho
        exact ho.symm
      rw [Lib.count_hit (by simp) hi, Nat.add_comm 1]
      show (if _ then _ else _) = _
      rw [if_neg (by rw [hi]; simp), hi]
      simp only [Int.toNat_natCast, Nat.add_zero, List.length_cons, List.length_nil, Nat.zero_add]
      have e : s = s.take i ++ 32 :: s.drop (i + 1) := by rw [← hd, List.take_append_drop]
      have ih2 := ih (s.drop (i + 1)) (by rw [List.length_drop]; simp at hr; omega)
      unfold Lib.split at ih2
      rw [ih2]
      conv => rhs; rw [e]
      rw [cutA_tok]
      · rfl
      · intro c hc e2
        subst e2
        obtain ⟨j, hj, e3⟩ := List.getElem_of_mem hc
        have hji : j < i := by simp at hj; omega
        have hjs : j < s.length := by omega
        have := hno j hji
        rw [List.getElem_take] at e3
        have hd2 : s.drop j = 32 :: s.drop (j + 1) := by rw [List.drop_eq_getElem_cons hjs, e3]
        simp [Lib.occAt, hd2, List.isPrefixOf] at this
theorem dec_lt : ∀ (x : Nat), x < 10 ^ (Lib.decDigits x).length := by
  intro x
  induction x using Nat.strongRecOn with
  | _ x ih =>
    by_cases c : x < 10
    · rw [dec_small c]; simpa using c
    · rw [dec_big c, List.length_append, List.length_cons, List.length_nil, Nat.zero_add, Nat.pow_succ]
      have := ih (x / 10) (by omega)
      omega
theorem dec_pos (x : Nat) : 1 ≤ (Lib.decDigits x).length := by
  by_cases c : x < 10
  · rw [dec_small c]; simp
  · rw [dec_big c]; simp
theorem dec_ge : ∀ (x : Nat), 1 ≤ x → 10 ^ ((Lib.decDigits x).length - 1) ≤ x := by
  intro x
  induction x using Nat.strongRecOn with
  | _ x ih =>
    intro h
    by_cases c : x < 10
    · rw [dec_small c]; simpa using h
    · have := ih (x / 10) (by omega) (by omega)
      have hp := dec_pos (x / 10)
      rw [dec_big c, List.length_append, List.length_cons, List.length_nil]
      obtain ⟨d, hd⟩ : ∃ d, (Lib.decDigits (x / 10)).length = d + 1 := ⟨(Lib.decDigits (x / 10)).length - 1, by omega⟩
      rw [hd] at this ⊢
      rw [show d + 1 + (0 + 1) - 1 = d + 1 by omega, Nat.pow_succ]
      rw [show d + 1 - 1 = d by omega] at this
      omega
theorem dec_get : ∀ (x k : Nat) (h : k < (Lib.decDigits x).length), (Lib.decDigits x)[k] = UInt8.ofNat (48 + x / 10 ^ ((Lib.decDigits x).length - 1 - k) % 10) := by
  intro x
  induction x using Nat.strongRecOn with
  | _ x ih =>
    intro k h
    by_cases c : x < 10
    · have e := dec_small c
      have hl : (Lib.decDigits x).length = 1 := by rw [e]; rfl
      obtain rfl : k = 0 := by omega
      simp only [e, List.length_cons, List.length_nil, List.getElem_cons_zero]
      simp [Nat.mod_eq_of_lt c]
    · have e := dec_big c
      have hl : (Lib.decDigits x).length = (Lib.decDigits (x / 10)).length + 1 := by rw [e]; simp
      by_cases hk : k < (Lib.decDigits (x / 10)).length
      · have := ih (x / 10) (by omega) k hk
        simp only [e, List.getElem_append_left hk, List.length_append, List.length_cons, List.length_nil]
        rw [this, Nat.div_div_eq_div_mul, ← Nat.pow_succ']
        congr 4
        congr 1
        omega
      · have hk2 : k = (Lib.decDigits (x / 10)).length := by omega
        subst hk2
        simp only [e, List.length_append, List.length_cons, List.length_nil]
        rw [List.getElem_append_right (Nat.le_refl _)]
        simp
theorem digit_val {q : Nat} (h : q < 10) : (UInt8.ofNat (48 + q)).toNat = 48 + q := by
  rw [UInt8.toNat_ofNat']
  omega
theorem dec_mem {x : Nat} {c : UInt8} (h : c ∈ Lib.decDigits x) : c ≠ 32 := by
  obtain ⟨k, hk, rfl⟩ := List.getElem_of_mem h
  rw [dec_get x k hk]
  intro e
  have := digit_val (q := x / 10 ^ ((Lib.decDigits x).length - 1 - k) % 10) (Nat.mod_lt _ (by omega))
  rw [e] at this
  have h2 : (32 : UInt8).toNat = 32 := rfl
  omega
theorem dec_digit {bs : List UInt8} {k x : Nat} (hk : k < bs.length) (hx : x < 10000) (e : bs = Lib.decDigits x) :
    (bs.getD k 0).toNat = 48 + x / 10 ^ (bs.length - 1 - k) % 10 ∧ x / 10 ^ (bs.length - k) < 10000 ∧ x / 10 ^ (bs.length - k) * 10 + x / 10 ^ (bs.length - 1 - k) % 10 = x / 10 ^ (bs.length - (k + 1)) ∧ x / 10 ^ (bs.length - 1 - k) % 10 < 10 := by
  subst e
  have hg := dec_get x k hk
  refine ⟨?_, ?_, ?_, Nat.mod_lt _ (by omega)⟩
  · rw [List.getD_eq_getElem?_getD, List.getElem?_eq_getElem hk, Option.getD_some, hg]
    exact digit_val (Nat.mod_lt _ (by omega))
  · have := Nat.div_le_self x (10 ^ ((Lib.decDigits x).length - k))
    omega
  · obtain ⟨d, hd⟩ : ∃ d, (Lib.decDigits x).length - (k + 1) = d := ⟨_, rfl⟩
    rw [show (Lib.decDigits x).length - k = d + 1 by omega, show (Lib.decDigits x).length - 1 - k = d by omega, hd, Nat.pow_succ, ← Nat.div_div_eq_div_mul]
    omega
theorem dec_start {bs : List UInt8} {x : Nat} (e : bs = Lib.decDigits x) : x / 10 ^ (bs.length - 0) = 0 := by
  subst e
  rw [Nat.sub_zero, Nat.div_eq_of_lt (dec_lt x)]
theorem dec_head {x : Nat} (h1 : 1 ≤ x) (hx : x < 10000) : 49 ≤ ((Lib.decDigits x).getD 0 0).toNat ∧ ((Lib.decDigits x).getD 0 0).toNat ≤ 57 ∧ 1 ≤ (Lib.decDigits x).length ∧ (Lib.decDigits x).length ≤ 5 := by
  have hp := dec_pos x
  have hge := dec_ge x h1
  have hlt := dec_lt x
  have hl := dec_len 4 x (by omega)
  have h := (dec_digit hp hx (rfl : Lib.decDigits x = _)).1
  rw [Nat.sub_zero] at h
  have h2 : x / 10 ^ ((Lib.decDigits x).length - 1) < 10 := by
    rw [Nat.div_lt_iff_lt_mul (Nat.pow_pos (by omega)), ← Nat.pow_succ']
    rw [show ((Lib.decDigits x).length - 1).succ = (Lib.decDigits x).length by omega]
    exact hlt
  have h3 : 1 ≤ x / 10 ^ ((Lib.decDigits x).length - 1) := (Nat.one_le_div_iff (Nat.pow_pos (by omega))).2 hge
  rw [Nat.mod_eq_of_lt h2] at h
  omega
theorem uint10 {bs : List UInt8} {x : Nat} (hx : x < 10000) (e : bs = Lib.decDigits x) : ∀ (d k : Nat), k + d = bs.length → Lib.parseUint10 (x / 10 ^ (bs.length - k)) (bs.drop k) = .ok x
  | 0, k, hk => by
    rw [List.drop_eq_nil_of_le (by omega), show bs.length - k = 0 by omega, Nat.pow_zero, Nat.div_one]
    rfl
  | d + 1, k, hk => by
    have hlt : k < bs.length := by omega
    have g := dec_digit hlt hx e
    have ed : bs.drop k = bs.getD k 0 :: bs.drop (k + 1) := drop_at 0 hlt
    rw [ed, Lib.parseUint10, if_pos (by omega), if_neg (by omega), if_neg (by omega), show (bs.getD k 0).toNat - 48 = x / 10 ^ (bs.length - 1 - k) % 10 by omega, g.2.2.1]
    exact uint10 hx e d (k + 1) (by omega)
theorem atoi_dec {x : Nat} (h1 : 1 ≤ x) (hx : x < 10000) : Lib.atoiAll (Lib.decDigits x) = .ok (x : Int) := by
  have hh := dec_head h1 hx
  have hu := uint10 hx (rfl : Lib.decDigits x = _) (Lib.decDigits x).length 0 (by omega)
  rw [dec_start rfl, List.drop_zero] at hu
  generalize Lib.decDigits x = l at hh hu
  cases l with
  | nil => simp at hh
  | cons c r =>
    simp only [List.getD_cons_zero] at hh
    have hp : Lib.parseMag (c :: r) = .ok x := by unfold Lib.parseMag; rw [if_neg (by simp)]; exact hu
    unfold Lib.atoiAll
    dsimp only
    rw [if_neg (by omega), hp]
    dsimp only
    rw [if_neg (by omega), if_neg (by omega), if_neg (by omega)]
/-- The pieces that so many words are written as. -/
def zt (z : Nat) : List (List UInt8) := if z = 0 then [] else [122 :: Lib.decDigits z]
def toks : Nat → List Int → List (List UInt8)
  | z, [] => zt z
  | z, x :: r => if x = 0 then toks (z + 1) r else zt z ++ (hx x.toNat :: toks 0 r)
theorem zt_cut (z : Nat) (r : List UInt8) : cutA [] (zsL z ++ r) = zt z ++ cutA [] r := by
  unfold zsL zt
  split
  · rfl
  · have e : 122 :: (Lib.decDigits z ++ [32]) ++ r = (122 :: Lib.decDigits z) ++ 32 :: r := by simp
    rw [e, cutA_tok]
    · rfl
    · intro c hc
      rcases List.mem_cons.1 hc with rfl | hc
      · decide
      · exact dec_mem hc
theorem toks_cut : ∀ (l : List Int) (z : Nat), cutA [] (wireL z l) = toks z l ++ [[101, 110, 100, 10]]
  | [], z => by
    rw [wireL, zt_cut]
    rfl
  | x :: l, z => by
    rw [wireL, toks]
    split
    · exact toks_cut l (z + 1)
    · rw [zt_cut, cutA_tok _ _ _ (fun c hc => (hx_mem hc).1), toks_cut l 0]
      simp
theorem toks_run : ∀ (l : List Int) (z : Nat), ∃ n r, l = List.replicate n 0 ++ r ∧ toks z l = zt (z + n) ++ toks 0 r
  | [], z => ⟨0, [], rfl, by simp [toks, zt]⟩
  | x :: l, z => by
    by_cases h : x = 0
    · obtain ⟨n, r, e1, e2⟩ := toks_run l (z + 1)
      refine ⟨n + 1, r, ?_, ?_⟩
      · rw [h, e1, List.replicate_succ]; rfl
      · rw [toks, if_pos h, e2, Nat.add_right_comm]
        rfl
    · refine ⟨0, x :: l, rfl, ?_⟩
      rw [toks, if_neg h, toks, if_neg h]
      simp [zt]
/-- These pieces stand for these words. -/
def Good (r : List Int) (ps : List (List UInt8)) : Prop := ps = toks 0 r ++ [[101, 110, 100, 10]]
theorem Good.last {r : List Int} {p : List UInt8} (h : Good r [p]) : r = [] := by
  unfold Good at h
  have hl := congrArg List.length h
  rw [List.length_append] at hl
  cases r with
  | nil => rfl
  | cons x r =>
    exfalso
    rw [toks] at hl
    split at hl
    · obtain ⟨n, r', _, e⟩ := toks_run r (0 + 1)
      rw [e] at hl
      have : (zt (0 + 1 + n)).length = 1 := by unfold zt; rw [if_neg (by omega)]; rfl
      rw [List.length_append] at hl
      simp only [List.length_cons, List.length_nil] at hl
      omega
    · simp only [List.length_append, List.length_cons, List.length_nil] at hl
      omega
theorem Good.none {r : List Int} (h : Good r []) : False := by
  have hl := congrArg List.length h
  simp at hl
theorem Good.step {r : List Int} (hw : Words r) {p q : List UInt8} {ps : List (List UInt8)} (h : Good r (p :: q :: ps)) :
    (∃ n r', 1 ≤ n ∧ n ≤ r.length ∧ p = 122 :: Lib.decDigits n ∧ r = List.replicate n 0 ++ r' ∧ Good r' (q :: ps)) ∨ (∃ (x : Nat) (r' : List Int), x < 18446744073709551616 ∧ p = hx x ∧ r = (x : Int) :: r' ∧ Good r' (q :: ps)) := by
  unfold Good at h
  cases r with
  | nil =>
    have hl := congrArg List.length h
    simp [toks, zt] at hl
  | cons x r =>
    rw [toks] at h
    split at h
    · rename_i hx0
      obtain ⟨n, r', e1, e⟩ := toks_run r (0 + 1)
      have hz : zt (0 + 1 + n) = [122 :: Lib.decDigits (n + 1)] := by unfold zt; rw [if_neg (by omega), show 0 + 1 + n = n + 1 by omega]
      rw [e, hz] at h
      simp only [List.cons_append, List.nil_append, List.cons.injEq] at h
      refine .inl ⟨n + 1, r', by omega, ?_, h.1, ?_, h.2⟩
      · rw [e1]; simp
      · rw [hx0, e1, List.replicate_succ]; rfl
    · have h0 : zt 0 = [] := rfl
      rw [h0] at h
      simp only [List.cons_append, List.nil_append, List.cons.injEq] at h
      have hx := hw x (by simp)
      refine .inr ⟨x.toNat, r, by have := hx.1; have := hx.2; omega, h.1, ?_, h.2⟩
      rw [Int.toNat_of_nonneg hx.1]
theorem Good.full {r : List Int} {ps : List (List UInt8)} (h : Good r ps) : ∀ p ∈ ps, p ≠ [] := by
  have key : ∀ (r : List Int) (z : Nat), ∀ p ∈ toks z r, p ≠ [] := by
    have hz : ∀ z, ∀ p ∈ zt z, p ≠ [] := by
      intro z p hp
      unfold zt at hp
      split at hp
      · cases hp
      · rw [List.mem_singleton.1 hp]; simp
    intro r
    induction r with
    | nil => exact hz
    | cons x r ih =>
      intro z p hp
      rw [toks] at hp
      split at hp
      · exact ih _ p hp
      · rcases List.mem_append.1 hp with hp | hp
        · exact hz z p hp
        · rcases List.mem_cons.1 hp with rfl | hp
          · intro e
            have := hx_pos x.toNat
            rw [e] at this
            simp at this
          · exact ih 0 p hp
  unfold Good at h
  subst h
  intro p hp
  rcases List.mem_append.1 hp with hp | hp
  · exact key r 0 p hp
  · rw [List.mem_singleton.1 hp]; simp
/-- A text that is written as it should be, and its words. -/
def Canon (ts : List UInt8) (m : List Int) : Prop := ts.length ≤ 10000 ∧ Words m ∧ Whole m ∧ wireT m = ts
/-- What is read and what is left of it, if the text is written as it should be. -/
def Cn (ts : List UInt8) (ps : List (List UInt8)) (o : List Int) : Prop := ∀ m, Canon ts m → ∃ r, m = o ++ r ∧ Good r ps
theorem Canon.len {ts : List UInt8} {m : List Int} (h : Canon ts m) : m.length ≤ 300 := (whole_len h.2.2.1).1
theorem Cn.start (ts : List UInt8) : Cn ts (cutA [] ts) [] := by
  rintro m ⟨_, h1, h2, h3⟩
  refine ⟨m, rfl, ?_⟩
  unfold Good
  rw [← toks_cut, ← h3, wireT, if_pos h2]
theorem Cn.filter {ts : List UInt8} {ps : List (List UInt8)} {o : List Int} (h : Cn ts ps o) : Cn ts (ps.filter fun p => !(p == [])) o := by
  intro m hm
  obtain ⟨r, e, g⟩ := h m hm
  refine ⟨r, e, ?_⟩
  rw [List.filter_eq_self.2 (fun p hp => by have := Good.full g p hp; simpa using this)]
  exact g
theorem Cn.step {ts : List UInt8} {p q : List UInt8} {ps : List (List UInt8)} {o m : List Int} (h : Cn ts (p :: q :: ps) o) (hm : Canon ts m) :
    (∃ n r, 1 ≤ n ∧ n ≤ 300 ∧ p = 122 :: Lib.decDigits n ∧ m = o ++ List.replicate n 0 ++ r ∧ Good r (q :: ps)) ∨ (∃ (x : Nat) (r : List Int), x < 18446744073709551616 ∧ p = hx x ∧ m = o ++ [(x : Int)] ++ r ∧ Good r (q :: ps)) := by
  obtain ⟨r, e, g⟩ := h m hm
  have hl := Canon.len hm
  have hw : Words r := fun x hx => hm.2.1 x (by rw [e]; exact List.mem_append_right _ hx)
  rcases Good.step hw g with ⟨n, r', h1, h2, h3, h4, h5⟩ | ⟨x, r', h1, h2, h3, h4⟩
  · refine .inl ⟨n, r', h1, ?_, h3, by rw [e, h4, List.append_assoc], h5⟩
    rw [e, List.length_append] at hl
    omega
  · exact .inr ⟨x, r', h1, h2, by rw [e, h3, List.append_assoc]; rfl, h4⟩
theorem Cn.last {ts : List UInt8} {p : List UInt8} {o m : List Int} (h : Cn ts [p] o) (hm : Canon ts m) : m = o := by
  obtain ⟨r, e, g⟩ := h m hm
  rw [e, Good.last g, List.append_nil]
theorem drop_take_next {ts : List UInt8} {f i : Nat} (hf : f ≤ i) (hi : i < ts.length) : (ts.drop f).take (i + 1 - f) = (ts.drop f).take (i - f) ++ [ts.getD i 0] := by
  rw [show i + 1 - f = (i - f) + 1 by omega, List.take_add_one, List.getElem?_drop, show f + (i - f) = i by omega, List.getElem?_eq_getElem hi, getD_lt hi]
  rfl
theorem u8_beq (c : UInt8) : (((c.toNat : Int)) == 32) = decide (c = 32) := by
  by_cases h : c = 32
  · subst h; rfl
  · rw [decide_eq_false h, beq_eq_false_iff_ne]
    intro e
    apply h
    apply UInt8.toNat_inj.1
    show c.toNat = 32
    omega
theorem l20Cut_loop (N : Nat) (ts : List UInt8) (hs : ts.length ≤ 10000) : ∀ (d i k f : Nat) (out : List ByteArray), i + d = ts.length → d + 1 < k → f ≤ i → out.length ≤ i →
    spec_l20Cut.l0 N k (mkB ts) 32 (f : Int) (i : Int) out = some ((), out ++ (cutA ((ts.drop f).take (i - f)) (ts.drop i)).map mkB)
  | 0, i, k, f, out, e, hk, hf, ho => by
    obtain ⟨k, rfl⟩ : ∃ j, k = j + 2 := ⟨k - 2, by omega⟩
    rw [spec_l20Cut.l0, mkB_size, ct (by omega), beq_iff_eq.2 (show (i : Int) = (ts.length : Int) by omega), cond_true]
    rw [ct (by omega), ct (by omega), ct (by omega), ct (by omega), List.length_cons, List.length_nil, ct (by omega), wi (by omega)]
    rw [spec_l20Cut.l0, mkB_size, cf (by omega), List.drop_eq_nil_of_le (i := i) (by omega), cutA, mkB_extract, Int.toNat_natCast, Int.toNat_natCast]
    rfl
  | d + 1, i, k, f, out, e, hk, hf, ho => by
    obtain ⟨k, rfl⟩ : ∃ j, k = j + 1 := ⟨k - 1, by omega⟩
    have hi : i < ts.length := by omega
    rw [spec_l20Cut.l0, mkB_size, ct (by omega), beq_eq_false_iff_ne.2 (show (i : Int) ≠ (ts.length : Int) by omega), cond_false]
    rw [bnd (by omega) (by omega), Int.toNat_natCast, mkB_at hi, u8_beq, wi (by omega), drop_at 0 hi, cutA]
    by_cases h : ts.getD i 0 = 32
    · rw [ct h, if_pos h]
      rw [ct (by omega), ct (by omega), ct (by omega), ct (by omega), List.length_cons, List.length_nil, ct (by omega)]
      rw [l20Cut_loop N ts hs d (i + 1) k (i + 1) _ (by omega) (by omega) (by omega) (by simp; omega), Nat.sub_self, List.take_zero, mkB_extract, Int.toNat_natCast]
      simp
    · rw [cf h, if_neg h, l20Cut_loop N ts hs d (i + 1) k f out (by omega) (by omega) (by omega) (by omega), drop_take_next hf hi]
theorem l20Cut_eq (N : Nat) (hN : 1000000 < N) (ts : List UInt8) (hs : ts.length ≤ 10000) : spec_l20Cut N (mkB ts) 32 = some ((), (cutA [] ts).map mkB) := by
  have := l20Cut_loop N ts hs ts.length 0 N 0 [] (by omega) (by omega) (by omega) (by simp)
  rw [List.nil_append, List.drop_zero, Nat.sub_self, List.take_zero] at this
  exact this
theorem l20Words_loop (N : Nat) (P : List (List UInt8)) (hP : P.length ≤ 20000) : ∀ (d i k : Nat) (out : List ByteArray), i + d = P.length → d < k → out.length ≤ i →
    spec_l20Words.l0 N k (i : Int) (P.map mkB) out = some ((), out ++ ((P.drop i).filter fun p => !(p == [])).map mkB)
  | 0, i, k, out, e, hk, ho => by
    obtain ⟨k, rfl⟩ : ∃ j, k = j + 1 := ⟨k - 1, by omega⟩
    rw [spec_l20Words.l0, List.length_map, cf (by omega), List.drop_eq_nil_of_le (by omega)]
    simp
  | d + 1, i, k, out, e, hk, ho => by
    obtain ⟨k, rfl⟩ : ∃ j, k = j + 1 := ⟨k - 1, by omega⟩
    have hi : i < P.length := by omega
    have he : ByteArray.empty.toList = [] := mkB_tl []
    rw [spec_l20Words.l0, List.length_map, ct (by omega), bnd (by omega) (by omega), Int.toNat_natCast, mkB_getD, mkB_tl, he, wi (by omega), drop_at [] hi, List.filter_cons]
    by_cases h : P.getD i [] = []
    · rw [h]
      simp only [beq_self_eq_true, Bool.not_true, cond_false, Bool.false_eq_true, if_false]
      exact l20Words_loop N P hP d (i + 1) k out (by omega) (by omega) (by omega)
    · have hb : (P.getD i [] == []) = false := beq_eq_false_iff_ne.2 h
      rw [hb, Bool.not_false, cond_true, if_pos rfl, bnd (by omega) (by omega), List.length_cons, List.length_nil, ct (by omega)]
      rw [l20Words_loop N P hP d (i + 1) k _ (by omega) (by omega) (by simp; omega)]
      simp
theorem l20Words_eq (N : Nat) (hN : 1000000 < N) (ts : List UInt8) (hs : ts.length ≤ 10000) : spec_l20Words N (mkB ts) = some ((), ((cutA [] ts).filter fun p => !(p == [])).map mkB) := by
  have hl := cutA_len ts []
  unfold spec_l20Words
  rw [l20Cut_eq N hN ts hs]
  simp only [Option.bind_some]
  have := l20Words_loop N (cutA [] ts) (by omega) (cutA [] ts).length 0 N [] (by omega) (by omega) (by simp)
  rw [List.nil_append, List.drop_zero] at this
  exact this
theorem find_loop (N : Nat) (c : UInt8) : ∀ (d j k : Nat), j + d = 16 → d < k → ∃ r : Int, spec_l20Find.l0 N k (ByteArray.mk #[48, 49, 50, 51, 52, 53, 54, 55, 56, 57, 97, 98, 99, 100, 101, 102]) (c.toNat : Int) (j : Int) = some (r, ()) ∧ (r = -1 ∨ (0 ≤ r ∧ r < 16)) ∧ ∀ q, j ≤ q → q < 16 → c = hexd q → r = (q : Int)
  | 0, j, k, e, hk => by
    obtain ⟨k, rfl⟩ : ∃ j, k = j + 1 := ⟨k - 1, by omega⟩
    have hs : ((ByteArray.mk #[48, 49, 50, 51, 52, 53, 54, 55, 56, 57, 97, 98, 99, 100, 101, 102]).size : Int) = 16 := rfl
    rw [spec_l20Find.l0, hs, cf (by omega)]
    exact ⟨-1, rfl, .inl rfl, fun q h1 h2 => by omega⟩
  | d + 1, j, k, e, hk => by
    obtain ⟨k, rfl⟩ : ∃ j, k = j + 1 := ⟨k - 1, by omega⟩
    have hs : ((ByteArray.mk #[48, 49, 50, 51, 52, 53, 54, 55, 56, 57, 97, 98, 99, 100, 101, 102]).size : Int) = 16 := rfl
    have hj : j < 16 := by omega
    rw [spec_l20Find.l0, hs, ct (by omega), dt (show (0 : Int) ≤ (j : Int) by omega), cond_true, ct (by omega), Int.toNat_natCast, byteAt_hex _ hj, wi (by omega)]
    by_cases h : c = hexd j
    · subst h
      rw [beq_self_eq_true, cond_true]
      exact ⟨j, rfl, .inr (by omega), fun q h1 h2 h3 => by have := hexd_inj hj h2 h3; omega⟩
    · have hb : (((hexd j).toNat : Int) == (c.toNat : Int)) = false := beq_eq_false_iff_ne.2 (fun e => h (UInt8.toNat_inj.1 (by omega)))
      rw [hb, cond_false]
      obtain ⟨r, h1, h2, h3⟩ := find_loop N c d (j + 1) k (by omega) (by omega)
      refine ⟨r, h1, h2, fun q q1 q2 q3 => h3 q ?_ q2 q3⟩
      have : q ≠ j := fun e => h (by rw [← e]; exact q3)
      omega
theorem u64n (n : Int) : 0 ≤ IntKind.u64.wrap n ∧ IntKind.u64.wrap n < 18446744073709551616 := by
  rw [show IntKind.u64.wrap n = n % 18446744073709551616 by simp [IntKind.wrap, IntKind.bits, IntKind.signed]]
  omega
theorem l16Word_loop (N : Nat) (hN : 100 < N) (ts : List UInt8) (hs : ts.length ≤ 10000) : ∀ (d i k v : Nat), i + d = ts.length → d < k → v < 18446744073709551616 → Rd16 ts i v →
    ∃ v' : Nat, v' < 18446744073709551616 ∧ spec_l16Word.l0 N k (mkB ts) (v : Int) (i : Int) = some ((v' : Int), ()) ∧ ∀ x, x < 18446744073709551616 → ts = hx x → v' = x
  | 0, i, k, v, e, hk, hv, hr => by
    obtain ⟨k, rfl⟩ : ∃ j, k = j + 1 := ⟨k - 1, by omega⟩
    rw [spec_l16Word.l0, mkB_size, cf (by omega)]
    obtain rfl : i = ts.length := by omega
    exact ⟨v, hv, rfl, fun x h1 h2 => Rd16.all hr h1 h2⟩
  | d + 1, i, k, v, e, hk, hv, hr => by
    obtain ⟨k, rfl⟩ : ∃ j, k = j + 1 := ⟨k - 1, by omega⟩
    have hi : i < ts.length := by omega
    rw [spec_l16Word.l0, mkB_size, ct (by omega)]
    by_cases h16 : i < 16
    · rw [ct (by omega), bnd (by omega) (by omega), Int.toNat_natCast, mkB_at hi, wi (by omega)]
      obtain ⟨r, h1, h2, h3⟩ := find_loop N (ts.getD i 0) 16 0 N (by omega) (by omega)
      unfold spec_l20Find
      rw [show (0 : Int) = ((0 : Nat) : Int) from rfl] at *
      rw [h1]
      simp only [Option.bind_some]
      have go : ∀ nv : Int, (nv = IntKind.u64.wrap (IntKind.u64.wrap ((v : Int) * 16) + (if r < 0 then 0 else IntKind.u64.wrap r))) → ∃ v' : Nat, v' < 18446744073709551616 ∧ spec_l16Word.l0 N k (mkB ts) nv ((i + 1 : Nat) : Int) = some ((v' : Int), ()) ∧ ∀ x, x < 18446744073709551616 → ts = hx x → v' = x := by
        intro nv hnv
        have hn := u64n (IntKind.u64.wrap ((v : Int) * 16) + (if r < 0 then 0 else IntKind.u64.wrap r))
        rw [← hnv] at hn
        obtain ⟨n, rfl⟩ : ∃ n : Nat, nv = n := ⟨nv.toNat, by omega⟩
        refine l16Word_loop N hN ts hs d (i + 1) k n (by omega) (by omega) (by omega) ?_
        intro x hx e
        have hc : ts[i]? = some (ts.getD i 0) := by rw [List.getElem?_eq_getElem hi, getD_lt hi]
        have g := Rd16.digit hr hc hx e
        have g2 := Rd16.next hr hc x hx e
        have hq : ts.getD i 0 = hexd (x / 16 ^ (ts.length - 1 - i) % 16) := by
          subst e
          rw [getD_lt hi]
          exact hx_get x i hi
        have hm : x / 16 ^ (ts.length - 1 - i) % 16 < 16 := Nat.mod_lt _ (by omega)
        have hr2 := h3 _ (Nat.zero_le _) hm hq
        rw [← g2, g.1]
        rw [if_neg (by omega), hr2, u64w (n := (v : Int) * 16) (by omega) (by omega), u64w (n := ((x / 16 ^ (ts.length - 1 - i) % 16 : Nat) : Int)) (by omega) (by omega), u64w (by omega) (by omega)] at hnv
        omega
      by_cases hr0 : r < 0
      · rw [ct (by omega)]
        exact go _ (by rw [if_pos hr0]; rfl)
      · rw [cf (by omega)]
        exact go _ (by rw [if_neg hr0])
    · rw [cf (by omega)]
      refine ⟨v, hv, rfl, fun x h1 h2 => ?_⟩
      have := hx_len16 15 x h1
      rw [← h2] at this
      omega
theorem l16Word_eq (N : Nat) (hN : 1000000 < N) (ts : List UInt8) (hs : ts.length ≤ 10000) : ∃ v' : Nat, v' < 18446744073709551616 ∧ spec_l16Word N (mkB ts) = some ((v' : Int), ()) ∧ ∀ x, x < 18446744073709551616 → ts = hx x → v' = x :=
  l16Word_loop N (by omega) ts hs ts.length 0 N 0 (by omega) (by omega) (by omega) (Rd16.start ts)
theorem num_loop (N : Nat) (ts : List UInt8) (hs : ts.length ≤ 10000) (neg : Bool) : ∀ (d i k : Nat) (acc : Int), i + d = ts.length → d < k →
    ∃ (n : Int) (ok : Bool), spec_l20Num.l0 N k (mkB ts) neg acc (i : Int) = some ((n, ok), ()) ∧ ∀ x, neg = false → x < 10000 → ts = Lib.decDigits x → acc = ((x / 10 ^ (ts.length - i) : Nat) : Int) → n = (x : Int) ∧ ok = true
  | 0, i, k, acc, e, hk => by
    obtain ⟨k, rfl⟩ : ∃ j, k = j + 1 := ⟨k - 1, by omega⟩
    rw [spec_l20Num.l0, mkB_size, cf (by omega)]
    cases neg with
    | true => exact ⟨_, _, rfl, fun x h => by cases h⟩
    | false =>
      refine ⟨_, _, rfl, fun x _ h1 h2 h3 => ⟨?_, rfl⟩⟩
      rw [show ts.length - i = 0 by omega, Nat.pow_zero, Nat.div_one] at h3
      exact h3
  | d + 1, i, k, acc, e, hk => by
    obtain ⟨k, rfl⟩ : ∃ j, k = j + 1 := ⟨k - 1, by omega⟩
    have hi : i < ts.length := by omega
    rw [spec_l20Num.l0, mkB_size, ct (by omega), bnd (by omega) (by omega), bnd (by omega) (by omega), bnd (by omega) (by omega), Int.toNat_natCast, mkB_at hi, wi (by omega)]
    by_cases h1 : (ts.getD i 0).toNat < 48
    · rw [ct (by omega)]
      exact ⟨_, _, rfl, fun x _ hx e2 _ => by have := dec_digit hi hx e2; omega⟩
    by_cases h2 : (ts.getD i 0).toNat > 57
    · rw [cf (by omega), ct (by omega)]
      exact ⟨_, _, rfl, fun x _ hx e2 _ => by have := dec_digit hi hx e2; omega⟩
    rw [cf (by omega), cf (by omega)]
    obtain ⟨n, ok, g1, g2⟩ := num_loop N ts hs neg d (i + 1) k (IntKind.i64.wrap (IntKind.i64.wrap (acc * 10) + IntKind.i64.wrap (IntKind.u8.wrap (((ts.getD i 0).toNat : Int) - 48)))) (by omega) (by omega)
    refine ⟨n, ok, g1, fun x hn hx e2 ha => g2 x hn hx e2 ?_⟩
    have g := dec_digit hi hx e2
    have h8 : IntKind.u8.wrap (((ts.getD i 0).toNat : Int) - 48) = (((ts.getD i 0).toNat - 48 : Nat) : Int) := by
      rw [IntKind.wrap_u8]
      omega
    rw [h8, ha, w64 (n := ((x / 10 ^ (ts.length - i) : Nat) : Int) * 10) (by omega) (by omega), w64 (n := (((ts.getD i 0).toNat - 48 : Nat) : Int)) (by omega) (by omega), w64 (by omega) (by omega), ← g.2.2.1]
    omega
theorem l20Num_eq (N : Nat) (hN : 1000000 < N) (ts : List UInt8) (hs : ts.length ≤ 10000) :
    ∃ (n : Int) (ok : Bool), spec_l20Num N (mkB ts) = some ((n, ok), ()) ∧ ∀ x, 1 ≤ x → x < 10000 → ts = Lib.decDigits x → n = (x : Int) ∧ ok = true := by
  have hd : ∀ x, 1 ≤ x → x < 10000 → ts = Lib.decDigits x → 49 ≤ (ts.getD 0 0).toNat ∧ (ts.getD 0 0).toNat ≤ 57 ∧ 1 ≤ ts.length ∧ ts.length ≤ 5 := fun x h1 h2 e => by rw [e]; exact dec_head h1 h2
  unfold spec_l20Num
  rw [mkB_size]
  by_cases h0 : ts.length = 0
  · rw [cf (by omega), beq_iff_eq.2 (show (ts.length : Int) = 0 by omega), cond_true]
    exact ⟨_, _, rfl, fun x h1 h2 e => by have := hd x h1 h2 e; omega⟩
  have hb : byteAt (mkB ts) 0 = ((ts.getD 0 0).toNat : Int) := mkB_at (by omega)
  have he : (mkB ts).extract 1 ts.length = mkB (ts.drop 1) := by
    rw [mkB_extract, List.take_of_length_le (by simp)]
  rw [ct (by omega), ct (by omega), hb, he, mkB_size, List.length_drop]
  by_cases h45 : (ts.getD 0 0).toNat = 45
  · have q45 : (((ts.getD 0 0).toNat : Int) == 45) = true := beq_iff_eq.2 (by omega)
    rw [q45, cond_true, ct (by omega)]
    have bad : ∀ (n : Int) (ok : Bool), ∀ x, 1 ≤ x → x < 10000 → ts = Lib.decDigits x → n = (x : Int) ∧ ok = true := fun n ok x h1 h2 e => by have := hd x h1 h2 e; omega
    by_cases h1 : ts.length = 1
    · rw [beq_iff_eq.2 (show ((ts.length - 1 : Nat) : Int) = 0 by omega), cond_true]
      exact ⟨_, _, rfl, bad _ _⟩
    rw [beq_eq_false_iff_ne.2 (show ((ts.length - 1 : Nat) : Int) ≠ 0 by omega), cond_false]
    by_cases h17 : ((ts.length - 1 : Nat) : Int) > 17
    · rw [ct h17]
      exact ⟨_, _, rfl, bad _ _⟩
    rw [cf h17, ct (by omega)]
    obtain ⟨n, ok, g, _⟩ := num_loop N (ts.drop 1) (by rw [List.length_drop]; omega) true (ts.drop 1).length 0 N 0 (by omega) (by rw [List.length_drop]; omega)
    rcases hc : (byteAt (mkB (ts.drop 1)) 0 == 48) with _ | _
    · rw [cond_false]
      exact ⟨n, ok, g, bad _ _⟩
    · rw [cond_true, cond_true]
      by_cases h2 : ((ts.length - 1 : Nat) : Int) > 1
      · rw [ct h2]
        exact ⟨_, _, rfl, bad _ _⟩
      · rw [cf h2]
        exact ⟨_, _, rfl, bad _ _⟩
  · have q45 : (((ts.getD 0 0).toNat : Int) == 45) = false := beq_eq_false_iff_ne.2 (by omega)
    rw [q45, cond_false, beq_eq_false_iff_ne.2 (show (ts.length : Int) ≠ 0 by omega), cond_false]
    by_cases h17 : (ts.length : Int) > 17
    · rw [ct h17]
      exact ⟨_, _, rfl, fun x h1 h2 e => by have := hd x h1 h2 e; omega⟩
    rw [cf h17, ct (by omega)]
    obtain ⟨n, ok, g, g2⟩ := num_loop N ts hs false ts.length 0 N 0 (by omega) (by omega)
    have fin : ∀ x, 1 ≤ x → x < 10000 → ts = Lib.decDigits x → n = (x : Int) ∧ ok = true := fun x h1 h2 e => g2 x rfl h2 e (by rw [dec_start e]; rfl)
    rcases hc : (((ts.getD 0 0).toNat : Int) == 48) with _ | _
    · rw [cond_false]
      exact ⟨n, ok, g, fin⟩
    · rw [cond_true, cond_false]
      by_cases h2 : (ts.length : Int) > 1
      · rw [ct h2]
        refine ⟨_, _, rfl, fun x h1 h3 e => ?_⟩
        have := hd x h1 h3 e
        have := beq_iff_eq.1 hc
        omega
      · rw [cf h2]
        exact ⟨n, ok, g, fin⟩
/-- What is answered when so much has been read. -/
noncomputable def fin (ts : List UInt8) (o : List Int) : (Unit × Bool) × List Int := if Whole o ∧ wireT o = ts then (((), true), o) else (((), false), [])
theorem read_end (N : Nat) (hN : 1000000 < N) (ts : List UInt8) {o : List Int} (hw : Words o) :
    ((spec_PlatCheck N o).bind fun u4 => (bif (!u4.1.2) then some (((), false), ([] : List Int)) else (spec_WireText N o).bind fun u5 => (bif (!(u5.1.toList == (mkB ts).toList)) then some (((), false), ([] : List Int)) else some (((), true), o)))) = some (fin ts o) := by
  rw [spec_PlatCheck_eq N hw]
  simp only [Option.bind_some]
  unfold fin
  by_cases h : Whole o
  · rw [if_pos h, Bool.not_true, cond_false, spec_WireText_eq N hN hw]
    simp only [Option.bind_some]
    have e1 : (ByteArray.mk (wireT o).toArray).toList = wireT o := mkB_tl _
    rw [e1, mkB_tl]
    by_cases h2 : wireT o = ts
    · rw [beq_iff_eq.2 h2, Bool.not_true, cond_false, if_pos ⟨h, h2⟩]
    · rw [beq_eq_false_iff_ne.2 h2, Bool.not_false, cond_true, if_neg (fun g => h2 g.2)]
  · rw [if_neg h, if_neg (fun g => h g.1)]
    rfl
theorem words_app {o : List Int} (hw : Words o) {v : Int} (h : W64 v) : Words (o ++ [v]) := by
  intro x hx
  rcases List.mem_append.1 hx with hx | hx
  · exact hw x hx
  · rw [List.mem_singleton.1 hx]; exact h
theorem read_loop (N : Nat) (hN : 1000000 < N) (ts : List UInt8) (P : List (List UInt8)) (hP : ∀ p ∈ P, p ≠ []) (hl : P.length ≤ 20000) (hlen : ∀ p ∈ P, p.length ≤ 10000) : ∀ D : Nat,
    (∀ (i k : Nat) (o : List Int), i ≤ P.length → 2 * (P.length - i) + (1002 - o.length) ≤ D → D < k → Words o → o.length ≤ 1001 → Cn ts (P.drop i) o →
      ∃ o', Words o' ∧ spec_WireRead.l0 N k (mkB ts) (i : Int) (P.map mkB) o = some (fin ts o') ∧ ∀ m, Canon ts m → o' = m) ∧
    (∀ (i k : Nat) (o : List Int) (v7 : Int) (v8 : Bool), i < P.length → 2 * (P.length - i) - 1 + (1002 - o.length) ≤ D → D < k → Words o → o.length ≤ 1001 →
      (∀ m, Canon ts m → v8 = true ∧ ∃ n : Nat, v7 = (n : Int) ∧ ∃ r, m = o ++ List.replicate n 0 ++ r ∧ Good r (P.drop (i + 1))) →
      ∃ o', Words o' ∧ spec_WireRead.l1 N k (mkB ts) (i : Int) v7 v8 (P.map mkB) o = some (fin ts o') ∧ ∀ m, Canon ts m → o' = m) := by
  intro D
  induction D with
  | zero =>
    refine ⟨fun i k o h0 h1 h2 h3 h4 => by omega, fun i k o v7 v8 h0 h1 h2 h3 h4 => by omega⟩
  | succ D ih =>
    obtain ⟨ih0, ih1⟩ := ih
    constructor
    · intro i k o hi hD hk hw ho hc
      obtain ⟨k, rfl⟩ : ∃ j, k = j + 1 := ⟨k - 1, by omega⟩
      rw [spec_WireRead.l0, List.length_map, wi (by omega)]
      by_cases h1 : ((i + 1 : Nat) : Int) < (P.length : Int)
      · rw [ct h1]
        by_cases h2 : (o.length : Int) ≤ 1000
        · have hi1 : i < P.length := by omega
          have hi2 : i + 1 < P.length := by omega
          have hp : P.getD i [] ∈ P := by rw [getD_lt hi1]; exact List.getElem_mem hi1
          have hp1 := hP _ hp
          have hp2 := hlen _ hp
          have hp3 : 1 ≤ (P.getD i []).length := by
            rcases hq : P.getD i [] with _ | ⟨c, r⟩
            · exact absurd hq hp1
            · simp
          have ed : P.drop i = P.getD i [] :: P.getD (i + 1) [] :: P.drop (i + 1 + 1) := by rw [drop_at [] hi1, drop_at [] hi2]
          have ed2 : P.drop (i + 1) = P.getD (i + 1) [] :: P.drop (i + 1 + 1) := drop_at [] hi2
          rw [ed] at hc
          rw [ct h2, bnd (by omega) (by omega), Int.toNat_natCast, mkB_getD, mkB_size, ct (show (1 : Int) ≤ ((P.getD i []).length : Int) by omega), mkB_extract]
          have et : ((P.getD i []).drop 1).take ((P.getD i []).length - 1) = (P.getD i []).drop 1 := List.take_of_length_le (by simp)
          rw [et]
          obtain ⟨n, ok, g1, g2⟩ := l20Num_eq N hN ((P.getD i []).drop 1) (by rw [List.length_drop]; omega)
          rw [g1]
          simp only [Option.bind_some]
          simp (disch := omega) only [bnd]
          rw [ct (show (0 : Int) < ((P.getD i []).length : Int) by omega), mkB_at (by omega)]
          generalize P.getD i [] = p at *
          by_cases hz : (p.getD 0 0).toNat = 122
          · have hb : (((p.getD 0 0).toNat : Int) != 122) = false := by rw [bne_eq_false_iff_eq]; omega
            rw [hb, cond_false]
            refine ih1 i k o n ok hi1 (by omega) (by omega) hw ho ?_
            intro m hm
            rcases Cn.step hc hm with ⟨x, r, q1, q2, q3, q4, q5⟩ | ⟨x, r, q1, q2, q3, q4⟩
            · have := g2 x q1 (by omega) (by rw [q3]; rfl)
              exact ⟨this.2, x, this.1, r, q4, by rw [ed2]; exact q5⟩
            · exfalso
              have hm2 : p.getD 0 0 ∈ p := by rw [getD_lt (by omega)]; exact List.getElem_mem _
              rw [q2] at hm2
              have := (hx_mem hm2).2
              apply this
              rw [← q2]
              exact UInt8.toNat_inj.1 hz
          · have hb : (((p.getD 0 0).toNat : Int) != 122) = true := by rw [bne_iff_ne]; omega
            rw [hb, cond_true]
            obtain ⟨v, hv, e1, e2⟩ := l16Word_eq N hN p (by omega)
            rw [e1]
            simp only [Option.bind_some]
            rw [List.length_cons, List.length_nil, ct (by omega)]
            refine ih0 (i + 1) k (o ++ [(v : Int)]) (by omega) (by simp; omega) (by omega) (words_app hw ⟨by omega, by omega⟩) (by simp; omega) ?_
            intro m hm
            rcases Cn.step hc hm with ⟨x, r, q1, q2, q3, q4, q5⟩ | ⟨x, r, q1, q2, q3, q4⟩
            · exfalso
              apply hz
              rw [q3]
              rfl
            · have := e2 x q1 q2
              exact ⟨r, by rw [this]; exact q3, by rw [ed2]; exact q4⟩
        · rw [cf h2]
          refine ⟨o, hw, ?_, ?_⟩
          · exact read_end N hN ts hw
          · intro m hm
            obtain ⟨r, e, _⟩ := hc m hm
            have := Canon.len hm
            rw [e, List.length_append] at this
            omega
      · rw [cf h1]
        refine ⟨o, hw, ?_, ?_⟩
        · exact read_end N hN ts hw
        · intro m hm
          by_cases hi1 : i < P.length
          · have ed : P.drop i = [P.getD i []] := by rw [drop_at [] hi1, List.drop_eq_nil_of_le (by omega)]
            rw [ed] at hc
            exact (Cn.last hc hm).symm
          · rw [List.drop_eq_nil_of_le (by omega)] at hc
            obtain ⟨r, _, g⟩ := hc m hm
            exact (Good.none g).elim
    · intro i k o v7 v8 hi hD hk hw ho hc
      obtain ⟨k, rfl⟩ : ∃ j, k = j + 1 := ⟨k - 1, by omega⟩
      rw [spec_WireRead.l1]
      have out : ∀ (hn : ∀ m, Canon ts m → v7 = 0), ∃ o', Words o' ∧ spec_WireRead.l0 N k (mkB ts) (IntKind.i64.wrap ((i : Int) + 1)) (P.map mkB) o = some (fin ts o') ∧ ∀ m, Canon ts m → o' = m := by
        intro hn
        rw [wi (by omega)]
        refine ih0 (i + 1) k o (by omega) (by omega) (by omega) hw ho ?_
        intro m hm
        obtain ⟨_, n, e, r, e2, g⟩ := hc m hm
        have := hn m hm
        obtain rfl : n = 0 := by omega
        exact ⟨r, by rw [e2]; simp, g⟩
      cases v8 with
      | false =>
        rw [cond_false]
        exact out (fun m hm => by have := (hc m hm).1; cases this)
      | true =>
        rw [cond_true]
        by_cases h7 : v7 > 0
        · rw [ct h7]
          by_cases h2 : (o.length : Int) ≤ 1000
          · rw [ct h2, List.length_cons, List.length_nil, ct (by omega)]
            refine ih1 i k (o ++ [0]) _ true hi (by simp; omega) (by omega) (words_app hw ⟨by omega, by omega⟩) (by simp; omega) ?_
            intro m hm
            obtain ⟨_, n, e, r, e2, g⟩ := hc m hm
            have := Canon.len hm
            rw [e2, List.length_append, List.length_append, List.length_replicate] at this
            refine ⟨rfl, n - 1, by rw [w64 (by omega) (by omega)]; omega, r, ?_, g⟩
            rw [e2]
            obtain ⟨j, rfl⟩ : ∃ j, n = j + 1 := ⟨n - 1, by omega⟩
            rw [List.replicate_succ, Nat.add_sub_cancel]
            simp
          · rw [cf h2]
            refine out (fun m hm => ?_)
            obtain ⟨_, n, e, r, e2, g⟩ := hc m hm
            have := Canon.len hm
            rw [e2, List.length_append, List.length_append] at this
            omega
        · rw [cf h7]
          refine out (fun m hm => ?_)
          obtain ⟨_, n, e, r, e2, g⟩ := hc m hm
          omega
/-- What a reader answers. -/
def Reads (ts : List UInt8) (b : Bool) (o : List Int) : Prop := (b = true ∧ Canon ts o) ∨ (b = false ∧ o = [] ∧ ∀ m, ¬ Canon ts m)
theorem read_all (N : Nat) (hN : 1000000 < N) (ts : List UInt8) (hs : ts.length ≤ 10000) : ∃ o', Words o' ∧ spec_WireRead N (mkB ts) = some (fin ts o') ∧ ∀ m, Canon ts m → o' = m := by
  unfold spec_WireRead
  rw [mkB_size, cf (by omega), l20Words_eq N hN ts hs]
  simp only [Option.bind_some]
  have hf : ∀ p ∈ (cutA [] ts).filter (fun p => !(p == [])), p ∈ cutA [] ts ∧ p ≠ [] := by
    intro p hp
    have := List.mem_filter.1 hp
    exact ⟨this.1, by simpa using this.2⟩
  have h1 := cutA_len ts []
  have h2 := List.length_filter_le (fun p => !(p == [])) (cutA [] ts)
  have := (read_loop N hN ts ((cutA [] ts).filter fun p => !(p == [])) (fun p hp => (hf p hp).2) (by omega)
    (fun p hp => by have := cutA_piece ts [] p (hf p hp).1; simp only [List.length_nil] at this; omega) (2 * 10001 + 1002)).1 0 N [] (by omega) (by simp only [List.length_nil]; omega) (by omega) (by intro x hx; cases hx) (by simp)
    (by rw [List.drop_zero]; exact Cn.filter (Cn.start ts))
  exact this
theorem canon_unique {ts : List UInt8} {m m' : List Int} (h : Canon ts m) (h' : Canon ts m') : m = m' := by
  obtain ⟨o, _, _, g⟩ := read_all N0 (by unfold N0; decide) ts h.1
  rw [← g m h, ← g m' h']
theorem Reads.unique {ts : List UInt8} {b b' : Bool} {o o' : List Int} (h : Reads ts b o) (h' : Reads ts b' o') : b = b' ∧ o = o' := by
  rcases h with ⟨rfl, h⟩ | ⟨rfl, rfl, h⟩ <;> rcases h' with ⟨rfl, h'⟩ | ⟨rfl, rfl, h'⟩
  · exact ⟨rfl, canon_unique h h'⟩
  · exact absurd h (h' _)
  · exact absurd h' (h _)
  · exact ⟨rfl, rfl⟩
theorem Reads.of {ts : List UInt8} {o : List Int} (hs : ts.length ≤ 10000) (hw : Words o) (h : ∀ m, Canon ts m → m = o) : (Whole o ∧ wireT o = ts → Reads ts true o) ∧ (¬ (Whole o ∧ wireT o = ts) → Reads ts false []) := by
  refine ⟨fun g => .inl ⟨rfl, hs, hw, g.1, g.2⟩, fun g => .inr ⟨rfl, rfl, fun m hm => ?_⟩⟩
  have := h m hm
  subst this
  exact g hm.2.2
theorem spec_WireRead_eq (N : Nat) (hN : 1000000 < N) (t : ByteArray) : ∃ (b : Bool) (o : List Int), spec_WireRead N t = some (((), b), o) ∧ Reads t.data.toList b o := by
  obtain ⟨ts, rfl⟩ : ∃ ts, t = mkB ts := ⟨t.data.toList, (mkB_of t).symm⟩
  rw [mkB_list]
  by_cases hs : ts.length ≤ 10000
  · obtain ⟨o, hw, e, g⟩ := read_all N hN ts hs
    rw [e]
    have hr := Reads.of hs hw (fun m hm => (g m hm).symm)
    unfold fin
    by_cases h : Whole o ∧ wireT o = ts
    · rw [if_pos h]
      exact ⟨_, _, rfl, hr.1 h⟩
    · rw [if_neg h]
      exact ⟨_, _, rfl, hr.2 h⟩
  · unfold spec_WireRead
    rw [mkB_size, ct (by omega)]
    exact ⟨_, _, rfl, .inr ⟨rfl, rfl, fun m hm => hs hm.1⟩⟩
theorem Cn.split {t : ByteArray} : Cn t.data.toList ((Lib.splitB ⟨#[32]⟩ 0 (Lib.countB t ⟨#[32]⟩) t).map (·.data.toList)) [] := by
  have e : (Lib.splitB ⟨#[32]⟩ 0 (Lib.countB t ⟨#[32]⟩) t).map (·.data.toList) = Lib.split t.data.toList [32] := by rw [Lib.splitB_data]; rfl
  rw [e, split_cutA _ _ (Nat.le_refl _)]
  exact Cn.start _
theorem pre122 {n : Nat} : Lib.hasPrefix (122 :: Lib.decDigits n) [122] = true ∧ Lib.trimPrefix (122 :: Lib.decDigits n) [122] = Lib.decDigits n := by
  have h : Lib.hasPrefix (122 :: Lib.decDigits n) [122] = true := by simp [Lib.hasPrefix, List.isPrefixOf]
  refine ⟨h, ?_⟩
  unfold Lib.trimPrefix
  rw [if_pos h]
  rfl
theorem pre_hx (x : Nat) : Lib.hasPrefix (hx x) [122] = false := by
  have hp := hx_pos x
  have hm := fun c (h : c ∈ hx x) => (hx_mem h).2
  generalize hx x = l at hp hm
  cases l with
  | nil => simp at hp
  | cons c r =>
    have := hm c (by simp)
    simp [Lib.hasPrefix, List.isPrefixOf, Ne.symm this]
theorem Cn.zero_ok {ts p q : List UInt8} {ps : List (List UInt8)} {o : List Int} {v : Int} (h : Cn ts (p :: q :: ps) o) (hp : Lib.hasPrefix p [122] = true) (ha : Lib.atoiAll (Lib.trimPrefix p [122]) = .ok v) : Cn ts (q :: ps) (o ++ List.replicate v.toNat 0) := by
  intro m hm
  rcases Cn.step h hm with ⟨n, r, h1, h2, rfl, h4, h5⟩ | ⟨x, r, h1, rfl, h3, h4⟩
  · rw [pre122.2, atoi_dec h1 (by omega)] at ha
    injection ha with ha
    subst ha
    exact ⟨r, by rw [Int.toNat_natCast]; exact h4, h5⟩
  · rw [pre_hx] at hp; cases hp
theorem Cn.zero_bad {ts p q : List UInt8} {ps : List (List UInt8)} {o : List Int} (h : Cn ts (p :: q :: ps) o) (hp : Lib.hasPrefix p [122] = true)
    (ha : (∀ v, Lib.atoiAll (Lib.trimPrefix p [122]) ≠ .ok v) ∨ (∃ v, Lib.atoiAll (Lib.trimPrefix p [122]) = .ok v ∧ ¬ (1 ≤ v ∧ v ≤ 1000)) ∨ 1000 < o.length) : ∀ m, ¬ Canon ts m := by
  intro m hm
  rcases Cn.step h hm with ⟨n, r, h1, h2, rfl, h4, h5⟩ | ⟨x, r, h1, rfl, h3, h4⟩
  · rw [pre122.2, atoi_dec h1 (by omega)] at ha
    rcases ha with ha | ⟨v, ha, hb⟩ | ha
    · exact ha _ rfl
    · injection ha with ha
      omega
    · have := Canon.len hm
      rw [h4, List.length_append, List.length_append] at this
      omega
  · rw [pre_hx] at hp; cases hp
theorem Cn.word_ok {ts p q : List UInt8} {ps : List (List UInt8)} {o : List Int} {n : Nat} (h : Cn ts (p :: q :: ps) o) (hp : Lib.hasPrefix p [122] = false) (ha : ∀ x, x < 18446744073709551616 → p = hx x → n = x) : Cn ts (q :: ps) (o ++ [(n : Int)]) := by
  intro m hm
  rcases Cn.step h hm with ⟨n, r, h1, h2, rfl, h4, h5⟩ | ⟨x, r, h1, h2, h3, h4⟩
  · rw [pre122.1] at hp; cases hp
  · have := ha x h1 h2
    subst this
    exact ⟨r, h3, h4⟩
theorem Cn.word_bad {ts p q : List UInt8} {ps : List (List UInt8)} {o : List Int} (h : Cn ts (p :: q :: ps) o) (hp : Lib.hasPrefix p [122] = false) (ha : ∀ x, x < 18446744073709551616 → p ≠ hx x) : ∀ m, ¬ Canon ts m := by
  intro m hm
  rcases Cn.step h hm with ⟨n, r, h1, h2, rfl, h4, h5⟩ | ⟨x, r, h1, h2, h3, h4⟩
  · rw [pre122.1] at hp; cases hp
  · exact ha x h1 h2
theorem words_zeros {o : List Int} (hw : Words o) (n : Nat) : Words (o ++ List.replicate n 0) := by
  intro x hx
  rcases List.mem_append.1 hx with hx | hx
  · exact hw x hx
  · rw [(List.mem_replicate.1 hx).2]
    exact ⟨by omega, by omega⟩
theorem canon_words {ts : List UInt8} {o : List Int} {b : Bool} (h : Reads ts b o) : Words o ∧ o.length ≤ 300 := by
  rcases h with ⟨_, h⟩ | ⟨_, rfl, _⟩
  · exact ⟨h.2.1, Canon.len h⟩
  · exact ⟨(fun x hx => by cases hx), by simp⟩
theorem heldU_eq (N : Nat) (hN : Fuel N) (n : Nat) (x : Int) (ha : n ≤ 4194304) (h1 : 0 ≤ x) (h2 : x ≤ 1073741824) : laws_heldUint64S N (marks x n) x = some (x + n, ()) := by
  have hl := marks_length x n
  have := loop_idx n (fun k i (p : Int) => laws_heldUint64S.l0 N k (marks x n) p i) (fun _ _ => some (x + n, ())) (fun i p => p = x + i)
    (fun k p g1 => by simp (disch := omega) only [laws_heldUint64S.l0, hl, cf, g1])
    (fun k i p hi g1 ih => by
      have := ih (p + 1) (by omega)
      simp (disch := omega) only [laws_heldUint64S.l0, hl, ct, bnd, w64, u64w, Int.toNat_natCast, marks_getD, g1.symm, bne_self_eq_false, cond_false, this])
    n N 0 x (by omega) (by omega) (by simp)
  exact this
theorem lawWireReadSpec (y0 : ByteArray) : ∃ (b : Bool) (o : List Int), spec_WireRead N0 y0 = some (((), b), o) ∧ Reads y0.data.toList b o ∧ Words o ∧ o.length ≤ 300 ∧
    laws_eqUint64S N0 o o = some (true, ()) ∧ laws_markUint64S N0 1 o = some (1 + (o.length : Int), marks 1 o.length) ∧ laws_heldUint64S N0 (marks 1 o.length) 1 = some (1 + (o.length : Int), ()) := by
  have k1 := @Cn.split
  have k2 := @Cn.zero_ok
  have k3 := @Cn.zero_bad
  have k4 := @Cn.word_ok
  have k5 := @Cn.word_bad
  have k6 := @words_zeros
  have k7 := @words_app
  have k8 := @Reads.of
  have k9 := @Reads.unique
  have k10 := @Rd16.next
  have k11 := @Rd16.digit
  have k12 := @impl_PlatCheck_eq
  have k13 := @Cn.last
  have k14 := @wireL_split
  have k15 := @drop_cons0
  have k16 := @hx_len
  have k17 := @zsL_len
  have k18 := @whole_len
  obtain ⟨b, o, e, h⟩ := spec_WireRead_eq N0 (by unfold N0; decide) y0
  have hw := canon_words h
  have hs : Short o := by unfold Short; omega
  exact ⟨b, o, e, h, hw.1, hw.2, eqUint64S_eq N0 hN0 o hs, markUint64S_eq N0 hN0 o 1 hs (by omega) (by omega), heldU_eq N0 hN0 o.length 1 (by omega) (by omega) (by omega)⟩
end Go.Proofs.YtdkinmgpclbedaaDoor.Pv
