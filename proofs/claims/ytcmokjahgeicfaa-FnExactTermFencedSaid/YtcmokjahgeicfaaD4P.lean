/- The plain law of FnExactTermFenced: what the functions compute, over numbers and lists. -/
import Derived.Test.YtcmokjahgeicfaaD4F
import Derived.Test.YtcmokjahgeicfaaPvRow
namespace Go.Proofs.Ytcmokjahgeicfaa.Pv
open Go Go.Pv Go.Proofs
set_option linter.unusedVariables false
set_option linter.unusedSimpArgs false
theorem w64 {n : Int} (h : -9223372036854775808 ≤ n) (h2 : n ≤ 9223372036854775807) : IntKind.i64.wrap n = n := by rw [IntKind.wrap_i64]; omega
theorem u64w {n : Int} (h : 0 ≤ n) (h2 : n < 18446744073709551616) : IntKind.u64.wrap n = n := by
  unfold IntKind.wrap
  simp [IntKind.bits, IntKind.signed]
  omega
theorem tm {a b : Int} (h : 0 ≤ a) : Int.tmod a b = a % b := Int.tmod_eq_emod_of_nonneg h
theorem td {a b : Int} (h : 0 ≤ a) : Int.tdiv a b = a / b := Int.tdiv_eq_ediv_of_nonneg h
theorem dt {p : Prop} [Decidable p] (h : p) : decide p = true := decide_eq_true h
theorem df {p : Prop} [Decidable p] (h : ¬ p) : decide p = false := decide_eq_false h
theorem ct {α : Type _} {p : Prop} [Decidable p] {a b : α} (h : p) : cond (decide p) a b = a := by rw [decide_eq_true h]; rfl
theorem cf {α : Type _} {p : Prop} [Decidable p] {a b : α} (h : ¬ p) : cond (decide p) a b = b := by rw [decide_eq_false h]; rfl
theorem cnd {α : Type _} {p : Prop} [Decidable p] {a b : α} : cond (decide p) a b = if p then a else b := by by_cases h : p <;> simp [h]
/-- The test that a place lies in a row. -/
theorem bnd {α : Type _} {i : Int} {n : Nat} {a b : α} (h : 0 ≤ i) (h2 : i < (n : Int)) : cond (cond (decide (0 ≤ i)) (decide (i < (n : Int))) false) a b = a := by rw [dt h, dt h2]; rfl
theorem getD_lt {α : Type _} {l : List α} {i : Nat} {d : α} (h : i < l.length) : l.getD i d = l[i] := by simp [h]
theorem drop_at {α : Type _} {l : List α} {i : Nat} (d : α) (h : i < l.length) : l.drop i = l.getD i d :: l.drop (i + 1) := by
  rw [List.drop_eq_getElem_cons h, getD_lt h]
theorem fuel {n k : Nat} (h : n < k) : ∃ j, k = j + 1 := ⟨k - 1, by omega⟩
/-- A loop over the places below a length, with a state. -/
theorem loop_idx {A : Type _} {R : Type _} (len : Nat) (L : Nat → Int → A → R) (F : Nat → A → R) (I : Nat → A → Prop)
    (hend : ∀ k a, I len a → L (k + 1) (len : Int) a = F len a)
    (hstep : ∀ k i a, i < len → I i a → (∀ a', I (i + 1) a' → L k ((i : Int) + 1) a' = F (i + 1) a') → L (k + 1) (i : Int) a = F i a) :
    ∀ n k i a, i + n = len → n < k → I i a → L k (i : Int) a = F i a := by
  intro n
  induction n with
  | zero =>
    intro k i a h1 h2 h3
    obtain ⟨k, rfl⟩ := fuel h2
    obtain rfl : i = len := by omega
    exact hend k a h3
  | succ n ih =>
    intro k i a h1 h2 h3
    obtain ⟨k, rfl⟩ := fuel h2
    exact hstep k i a (by omega) h3 (fun a' h => by have := ih k (i + 1) a' (by omega) (by omega) h; rwa [Int.natCast_add] at this)
/-- A loop over a list by its places, with a state; what it gives, told by recursion over the list. -/
theorem loop_list {X : Type _} {A : Type _} {R : Type _} (d : X) (l : List X) (L : Nat → Int → A → R) (F : List X → A → R) (I : Nat → A → Prop)
    (hend : ∀ k a, I l.length a → L (k + 1) (l.length : Int) a = F [] a)
    (hstep : ∀ k i a x r, i < l.length → l.getD i d = x → I i a → (∀ a', I (i + 1) a' → L k ((i : Int) + 1) a' = F r a') → L (k + 1) (i : Int) a = F (x :: r) a)
    (K : Nat) (hK : l.length < K) (a : A) (ha : I 0 a) : L K 0 a = F l a := by
  have := loop_idx l.length L (fun i a => F (l.drop i) a) I
    (fun k a h => by rw [hend k a h, List.drop_eq_nil_of_le (Nat.le_refl _)])
    (fun k i a h1 h2 h3 => by
      rw [drop_at d h1]
      exact hstep k i a _ _ h1 rfl h2 h3) l.length K 0 a (by omega) hK ha
  simpa using this
/-- Lists that are short enough for every count. -/
def Short {α : Type _} (l : List α) : Prop := l.length ≤ 4194304
abbrev Fuel (N : Nat) : Prop := 1099511627776 < N
/-- The fuel with which the laws are told. -/
def N0 : Nat := 1099511627777
theorem hN0 : Fuel N0 := by unfold Fuel N0; omega
theorem wf_u64 {x : Int} (h : (Lit.int .u64 x).wf = true) : 0 ≤ x ∧ x < 18446744073709551616 := by
  simp [Lit.wf, IntKind.min, IntKind.max, IntKind.signed, IntKind.bits] at h
  omega
theorem wf_len {e : Ty} {l : List e.D} (h : Wf (.sl .frz e) l) : (l.length : Int) ≤ 9223372036854775807 := by
  have := h.1
  unfold maxLen at this
  omega
/-- What a loop that copies has behind it. -/
theorem copy_step {α : Type _} {l m : List α} {i : Nat} {d : α} (hi : i < l.length) (hm : m.length = l.length) (h : m.take i = l.take i) : (m.set i (l.getD i d)).take (i + 1) = l.take (i + 1) := by
  rw [getD_lt hi]
  apply List.ext_getElem?
  intro j
  simp only [List.getElem?_take, List.getElem?_set]
  by_cases hj : j < i + 1
  · simp only [if_pos hj]
    by_cases e : i = j
    · subst e; simp [hm, hi]
    · simp only [if_neg e]
      have := congrArg (fun l => l[j]?) h
      simp only [List.getElem?_take, show j < i by omega, if_true] at this
      exact this
  · simp only [if_neg hj]
theorem copy_end {α : Type _} {l m : List α} (hm : m.length = l.length) (h : m.take l.length = l.take l.length) : m = l := by
  rwa [List.take_of_length_le (by omega), List.take_of_length_le (by omega)] at h
theorem toUint64S_eq (N : Nat) (hN : Fuel N) (a : List Int) (ha : Short a) : laws_toUint64S N a = some ((), a) := by
  unfold Short at ha
  have := loop_idx a.length (fun k i m => laws_toUint64S.l0 N k a i m) (fun _ _ => some ((), a)) (fun i m => m.length = a.length ∧ m.take i = a.take i)
    (fun k m ⟨h1, h2⟩ => by simp (disch := omega) only [laws_toUint64S.l0, cf, copy_end h1 h2])
    (fun k i m hi ⟨h1, h2⟩ ih => by
      have := ih (m.set i (a.getD i 0)) ⟨by simp [h1], copy_step hi h1 h2⟩
      simp (disch := omega) only [laws_toUint64S.l0, ct, bnd, w64, Int.toNat_natCast, this])
    a.length N 0 (List.replicate a.length 0) (by omega) (by omega) ⟨by simp, by simp⟩
  simp (disch := omega) only [laws_toUint64S, ct, Int.toNat_natCast]
  exact this
theorem eqUint64S_eq (N : Nat) (hN : Fuel N) (a : List Int) (ha : Short a) : laws_eqUint64S N a a = some (true, ()) := by
  unfold Short at ha
  have := loop_idx a.length (fun k i (_ : Unit) => laws_eqUint64S.l0 N k a a i) (fun _ _ => some (true, ())) (fun i m => True)
    (fun k m _ => by simp (disch := omega) only [laws_eqUint64S.l0, cf])
    (fun k i m hi _ ih => by simp (disch := omega) only [laws_eqUint64S.l0, ct, bnd, w64, Int.toNat_natCast, bne_self_eq_false, cond_false, ih () trivial])
    a.length N 0 () (by omega) (by omega) trivial
  simp only [laws_eqUint64S, bne_self_eq_false, cond_false]
  exact this
abbrev Cfg := Int × Int × Int
def W64 (x : Int) : Prop := 0 ≤ x ∧ x < 18446744073709551616
theorem impl_within_eq (N : Nat) (x lo hi : Int) : impl_within N x lo hi = some (decide (lo ≤ x ∧ x ≤ hi), ()) := by
  unfold impl_within
  by_cases h : lo ≤ x
  · by_cases h2 : x ≤ hi <;> simp [h, h2]
  · simp [h]
theorem spec_CellVal_eq (N : Nat) {x : Int} (h : W64 x) : spec_CellVal N x = some (x % 4294967296, ()) := by
  obtain ⟨h1, h2⟩ := h
  simp (disch := omega) only [spec_CellVal, tm, w64]
theorem impl_CellStamp_eq (N : Nat) {x : Int} (h : W64 x) : impl_CellStamp N x = some (x / 4294967296, ()) := by
  obtain ⟨h1, h2⟩ := h
  have e : Int.fdiv x (2 ^ 32) = x / 4294967296 := by rw [Int.fdiv_eq_ediv_of_nonneg _ (by decide)]; rfl
  simp (disch := omega) only [impl_CellStamp, e, w64]
theorem impl_CellVal_eq (N : Nat) {x : Int} (h : W64 x) : impl_CellVal N x = some (x % 4294967296, ()) := by
  unfold impl_CellVal
  obtain ⟨h1, h2⟩ := h
  obtain ⟨n, rfl⟩ := Int.eq_ofNat_of_zero_le h1
  have e : (BitVec.ofInt 64 (n : Int) &&& BitVec.ofInt 64 4294967295).toNat = n % 4294967296 := by
    rw [BitVec.toNat_and, BitVec.toNat_ofInt, BitVec.toNat_ofInt]
    have e1 : ((n : Int) % ((2 ^ 64 : Nat) : Int)).toNat = n := by omega
    have e2 : ((4294967295 : Int) % ((2 ^ 64 : Nat) : Int)).toNat = 2 ^ 32 - 1 := by decide
    rw [e1, e2, Nat.and_two_pow_sub_one_eq_mod]
  rw [e, u64w (by omega) (by omega), w64 (by omega) (by omega)]
  congr 2
theorem spec_CellRegOf_eq (N : Nat) {x : Int} (h : W64 x) : spec_CellRegOf N x = some ((x % 4294967296 % 4, x % 4294967296 / 4), ()) := by
  have h' := h
  obtain ⟨h1, h2⟩ := h'
  simp (disch := omega) only [spec_CellRegOf, spec_CellVal_eq N h, Option.bind_some, tm, td, w64]
theorem impl_CellRegOf_eq (N : Nat) {x : Int} (h : W64 x) : impl_CellRegOf N x = some ((x % 4294967296 % 4, x % 4294967296 / 4), ()) := by
  have h' := h
  obtain ⟨h1, h2⟩ := h'
  simp (disch := omega) only [impl_CellRegOf, impl_CellVal_eq N h, Option.bind_some, tm, td, w64]
/-- A number brought into 0 to m. -/
def low (n m : Int) : Int := if n < 0 then 0 else if n > m then m else n
theorem low_id {n m : Int} (h : 0 ≤ n) (h2 : n ≤ m) : low n m = n := by unfold low; rw [if_neg (by omega), if_neg (by omega)]
theorem low_ge (n m : Int) (h : 0 ≤ m) : 0 ≤ low n m := by unfold low; split <;> (try split) <;> omega
theorem low_le (n m : Int) (h : 0 ≤ m) : low n m ≤ m := by unfold low; split <;> (try split) <;> omega
theorem spec_l1Low_eq (N : Nat) (n m : Int) : spec_l1Low N n m = some (low n m, ()) := by
  unfold spec_l1Low low
  by_cases h : n < 0
  · simp [h]
  · by_cases h2 : n > m <;> simp [h, h2]
theorem spec_CellPack_eq (N : Nat) (v s : Int) : spec_CellPack N v s = some (low s 4294967295 * 4294967296 + low v 4294967295, ()) := by
  have := low_ge v 4294967295 (by omega)
  have := low_le v 4294967295 (by omega)
  have := low_ge s 4294967295 (by omega)
  have := low_le s 4294967295 (by omega)
  simp (disch := omega) only [spec_CellPack, spec_l1Low_eq, Option.bind_some, u64w]
def Plat (a : Cfg) : Prop := 1 ≤ a.1 ∧ a.1 ≤ 4 ∧ 1 ≤ a.2.1 ∧ a.2.1 ≤ 6 ∧ 1 ≤ a.2.2 ∧ a.2.2 ≤ 20
instance (a : Cfg) : Decidable (Plat a) := inferInstanceAs (Decidable (_ ∧ _))
theorem spec_PlatOk_eq (N : Nat) (a : Cfg) : spec_PlatOk N a = some (decide (Plat a), ()) := by
  simp only [spec_PlatOk, cnd, Plat, ge_iff_le]
  repeat' split
  all_goals (congr 2; first | exact decide_eq_decide.2 (by omega) | exact (df (by omega)).symm | exact (dt (by omega)).symm)
theorem impl_PlatOk_eq (N : Nat) (a : Cfg) : impl_PlatOk N a = some (decide (Plat a), ()) := by
  simp only [impl_PlatOk, impl_within_eq, Option.bind_some, cnd, Plat]
  repeat' split
  all_goals (congr 2; first | exact decide_eq_decide.2 (by omega) | exact (df (by omega)).symm | exact (dt (by omega)).symm)
def house (a : Cfg) : Int := 7 + 2 * a.1 + 17 * a.2.1
def size (a : Cfg) : Int := 7 + 23 * a.1 + 17 * a.2.1
theorem spec_l2House_eq (N : Nat) {a : Cfg} (h : Plat a) : spec_l2House N a = some (house a, ()) := by
  unfold Plat at h
  simp (disch := omega) only [spec_l2House, w64, house]
  congr 2; omega
theorem spec_l2Size_eq (N : Nat) {a : Cfg} (h : Plat a) : spec_l2Size N a = some (size a, ()) := by
  have h' := h
  unfold Plat at h'
  simp only [spec_l2Size, spec_l2House_eq N h, Option.bind_some]
  unfold house size
  simp (disch := omega) only [w64]
  congr 2; omega
theorem impl_regAt_eq (N : Nat) (a : Cfg) : impl_PlatCfg_regAt N a = some (3, ()) := rfl
theorem impl_beatAt_eq (N : Nat) {a : Cfg} (h : Plat a) : impl_PlatCfg_beatAt N a = some (3 + a.1, ()) := by
  unfold Plat at h
  simp (disch := omega) only [impl_PlatCfg_beatAt, impl_regAt_eq, Option.bind_some, w64]
theorem impl_headAt_eq (N : Nat) {a : Cfg} (h : Plat a) : impl_PlatCfg_headAt N a = some (3 + 2 * a.1, ()) := by
  have h' := h
  unfold Plat at h'
  simp (disch := omega) only [impl_PlatCfg_headAt, impl_beatAt_eq N h, Option.bind_some, w64]
  congr 2; omega
theorem impl_pageAt_eq (N : Nat) {a : Cfg} (h : Plat a) : impl_PlatCfg_pageAt N a = some (7 + 2 * a.1, ()) := by
  have h' := h
  unfold Plat at h'
  simp (disch := omega) only [impl_PlatCfg_pageAt, impl_headAt_eq N h, Option.bind_some, w64]
  congr 2; omega
theorem impl_tagAt_eq (N : Nat) {a : Cfg} (h : Plat a) : impl_PlatCfg_tagAt N a = some (7 + 2 * a.1 + a.2.1, ()) := by
  have h' := h
  unfold Plat at h'
  simp (disch := omega) only [impl_PlatCfg_tagAt, impl_pageAt_eq N h, Option.bind_some, w64]
theorem impl_linkAt_eq (N : Nat) {a : Cfg} (h : Plat a) : impl_PlatCfg_linkAt N a = some (7 + 2 * a.1 + 9 * a.2.1, ()) := by
  have h' := h
  unfold Plat at h'
  simp (disch := omega) only [impl_PlatCfg_linkAt, impl_tagAt_eq N h, Option.bind_some, w64]
  congr 2; omega
theorem impl_deskAt_eq (N : Nat) {a : Cfg} (h : Plat a) : impl_PlatCfg_deskAt N a = some (house a, ()) := by
  have h' := h
  unfold Plat at h'
  simp (disch := omega) only [impl_PlatCfg_deskAt, impl_linkAt_eq N h, Option.bind_some, w64, house]
  congr 2; omega
theorem impl_size_eq (N : Nat) {a : Cfg} (h : Plat a) : impl_PlatCfg_size N a = some (size a, ()) := by
  have h' := h
  unfold Plat at h'
  simp only [impl_PlatCfg_size, impl_deskAt_eq N h, Option.bind_some]
  unfold house size
  simp (disch := omega) only [w64]
  congr 2; omega
theorem spec_l2At_eq (N : Nat) {a : Cfg} (h : Plat a) (fr n m st : Int) (h1 : 0 ≤ fr) (h2 : fr ≤ 1000) (h3 : m ≤ 1000) (h4 : 0 ≤ st) (h5 : st ≤ 100) :
    spec_l2At N a fr n m st = some (if 0 ≤ n ∧ n < m then fr + n * st else 0, ()) := by
  simp only [spec_l2At, spec_PlatOk_eq, dt h, Option.bind_some, Bool.not_true, cond_false, cnd]
  by_cases g1 : n < 0
  · rw [if_pos g1, if_neg (by omega)]
  · by_cases g2 : n ≥ m
    · rw [if_neg g1, if_pos g2, if_neg (by omega)]
    · rw [if_neg g1, if_neg g2, if_pos (by omega)]
      have g3 : 0 ≤ n * st := Int.mul_nonneg (by omega) h4
      have g4 : n * st ≤ 1000 * 100 := Int.mul_le_mul (by omega) h5 h4 (by omega)
      simp (disch := omega) only [w64]
/-- The plat that a word tells. -/
def cfg (x : Int) : Cfg := (x % 4294967296 % 8, x % 4294967296 / 8 % 8, x % 4294967296 / 64)
theorem cfg_text {x : Int} (h : W64 x) : (Int.tmod (x % 4294967296) 8, Int.tmod (IntKind.i64.wrap (Int.tdiv (x % 4294967296) 8)) 8, IntKind.i64.wrap (Int.tdiv (x % 4294967296) 64)) = cfg x := by
  obtain ⟨h1, h2⟩ := h
  simp (disch := omega) only [cfg, tm, td, w64]
/-- Is the list of words a whole memory? -/
def Whole (l : List Int) : Prop := 0 < l.length ∧ l.getD 0 0 / 4294967296 = 201115 ∧ Plat (cfg (l.getD 0 0)) ∧ (l.length : Int) = size (cfg (l.getD 0 0))
instance (l : List Int) : Decidable (Whole l) := inferInstanceAs (Decidable (_ ∧ _))
abbrev Words (l : List Int) : Prop := ∀ x ∈ l, W64 x
theorem Words.at {l : List Int} (h : Words l) (i : Nat) : W64 (l.getD i 0) := by
  rw [List.getD_eq_getElem?_getD]
  cases hi : l[i]? with
  | none => exact ⟨by decide, by decide⟩
  | some x => exact h x (List.mem_of_getElem? hi)
theorem spec_l2Magic_eq (N : Nat) {x : Int} (h : W64 x) (hp : Plat (cfg x)) : spec_l2Magic N (cfg x) = some (201115 * 4294967296 + x % 4294967296, ()) := by
  obtain ⟨h1, h2⟩ := h
  have e : x % 4294967296 % 8 + 8 * (x % 4294967296 / 8 % 8) + 64 * (x % 4294967296 / 64) = x % 4294967296 := by omega
  simp only [spec_l2Magic, cfg] at hp ⊢
  unfold Plat at hp
  simp only [] at hp
  simp (disch := omega) only [w64, e, spec_CellPack_eq, low_id, Option.bind_some]
theorem spec_PlatCheck_eq (N : Nat) {l : List Int} (hw : Words l) : spec_PlatCheck N l = some (if Whole l then (cfg (l.getD 0 0), true) else ((0, 0, 0), false), ()) := by
  have hx := hw.at 0
  have hx' := hx
  obtain ⟨x1, x2⟩ := hx'
  unfold spec_PlatCheck
  by_cases h1 : l.length = 0
  · have n0 : ((l.length : Int) == 0) = true := by rw [beq_iff_eq]; omega
    rw [if_neg (fun h => by have := h.1; omega)]
    simp only [n0, cond_true]
  have n0 : ((l.length : Int) == 0) = false := by rw [beq_eq_false_iff_ne]; omega
  simp (disch := omega) only [n0, cond_false, ct, spec_CellVal_eq N hx, Option.bind_some, cfg_text hx, spec_PlatOk_eq]
  by_cases h3 : Plat (cfg (l.getD 0 0))
  rotate_left
  · rw [if_neg (fun h => h3 h.2.2.1)]
    simp only [df h3, Bool.not_false, cond_true]
  simp only [dt h3, Bool.not_true, cond_false, spec_l2Magic_eq N hx h3, Option.bind_some, spec_l2Size_eq N h3]
  by_cases h2 : l.getD 0 0 / 4294967296 = 201115
  rotate_left
  · rw [if_neg (fun h => h2 h.2.1)]
    have e : l.getD 0 0 ≠ 201115 * 4294967296 + l.getD 0 0 % 4294967296 := by omega
    rw [bne_iff_ne.2 e, cond_true]
  have e : 201115 * 4294967296 + l.getD 0 0 % 4294967296 = l.getD 0 0 := by omega
  rw [e, bne_self_eq_false, cond_false]
  by_cases e4 : (l.length : Int) = size (cfg (l.getD 0 0))
  · rw [if_pos ⟨by omega, h2, h3, e4⟩, e4, bne_self_eq_false, cond_false]
  · rw [if_neg (fun h => e4 h.2.2.2), bne_iff_ne.2 e4, cond_true]
/-- What the first word tells, if it is one of a memory's. -/
def Head (l : List Int) : Prop := 0 < l.length ∧ l.getD 0 0 / 4294967296 = 201115 ∧ Plat (cfg (l.getD 0 0))
instance (l : List Int) : Decidable (Head l) := inferInstanceAs (Decidable (_ ∧ _))
theorem impl_cfgOf_yes (N : Nat) {l : List Int} (hw : Words l) (h : Head l) : impl_cfgOf N l = some ((cfg (l.getD 0 0), true), ()) := by
  have hx := hw.at 0
  obtain ⟨h1, h2, h3⟩ := h
  have n0 : ((l.length : Int) == 0) = false := by rw [beq_eq_false_iff_ne]; omega
  simp (disch := omega) only [impl_cfgOf, n0, cond_false, ct, impl_CellVal_eq N hx, impl_CellStamp_eq N hx, h2, bne_self_eq_false, Option.bind_some, cfg_text hx, impl_PlatOk_eq, dt h3]
theorem impl_cfgOf_no (N : Nat) {l : List Int} (hw : Words l) (h : ¬ Head l) : ∃ c, impl_cfgOf N l = some ((c, false), ()) := by
  have hx := hw.at 0
  unfold impl_cfgOf
  by_cases h1 : l.length = 0
  · have n0 : ((l.length : Int) == 0) = true := by rw [beq_iff_eq]; omega
    simp only [n0, cond_true]; exact ⟨_, rfl⟩
  have n0 : ((l.length : Int) == 0) = false := by rw [beq_eq_false_iff_ne]; omega
  simp (disch := omega) only [n0, cond_false, ct, impl_CellVal_eq N hx, impl_CellStamp_eq N hx, Option.bind_some, cfg_text hx, impl_PlatOk_eq]
  by_cases h2 : l.getD 0 0 / 4294967296 = 201115
  rotate_left
  · simp only [bne_iff_ne.2 h2, cond_true]; exact ⟨_, rfl⟩
  simp only [h2, bne_self_eq_false, cond_false]
  rw [df (fun h3 => h ⟨by omega, h2, h3⟩)]
  exact ⟨_, rfl⟩
theorem impl_PlatCheck_eq (N : Nat) {l : List Int} (hw : Words l) : impl_PlatCheck N l = some (if Whole l then (cfg (l.getD 0 0), true) else ((0, 0, 0), false), ()) := by
  unfold impl_PlatCheck
  by_cases h : Head l
  · simp only [impl_cfgOf_yes N hw h, Option.bind_some, Bool.not_true, cond_false, impl_size_eq N h.2.2]
    by_cases e4 : (l.length : Int) = size (cfg (l.getD 0 0))
    · rw [if_pos ⟨h.1, h.2.1, h.2.2, e4⟩, e4, bne_self_eq_false, cond_false]
    · rw [if_neg (fun h => e4 h.2.2.2), bne_iff_ne.2 e4, cond_true]
  · obtain ⟨c, hc⟩ := impl_cfgOf_no N hw h
    rw [if_neg (fun g => h ⟨g.1, g.2.1, g.2.2.1⟩)]
    simp only [hc, Option.bind_some, Bool.not_false, cond_true]
theorem toBookOp_eq (N : Nat) (a) : laws_toBookOp N a = some (a, ()) := rfl
theorem eqBookOp_eq (N : Nat) (a) : laws_eqBookOp N a a = some (true, ()) := by simp only [laws_eqBookOp, bne_self_eq_false, cond_false]
/-- A count against which lists are held: the rest, or -1. -/
def rest (left n : Int) : Int := if left - n < 0 then -1 else left - n
abbrev Gst := Bool × Int × Int × Bool × (Int × Int × Int × Int) × Int × Int × Int × Int × Int × Int × Int × Bool × Int × Int × Int × Int × Int × List Int × List Int × Int × Int × Int
abbrev gst0 : Gst := (false, 0, 0, false, (0, 0, 0, 0), 0, 0, 0, 0, 0, 0, 0, false, 0, 0, 0, 0, 0, [], [], 0, 0, 0)
abbrev Wld := List Int × List Gst
def gSnap (g : Gst) : List Int := g.2.2.2.2.2.2.2.2.2.2.2.2.2.2.2.2.2.2.1
def gPlan (g : Gst) : List Int := g.2.2.2.2.2.2.2.2.2.2.2.2.2.2.2.2.2.2.2.1
/-- How much a guest and a world hold. -/
def szG (g : Gst) : Int := (gSnap g).length + (gPlan g).length
def szGs : List Gst → Int
  | [] => 0
  | g :: r => szG g + szGs r
theorem szGs_ge : ∀ l : List Gst, 0 ≤ szGs l
  | [] => Int.le_refl _
  | g :: r => by have := szGs_ge r; simp only [szGs, szG]; omega
/-- Every list is as short as a list of Go can be. -/
def GLens (g : Gst) : Prop := ((gSnap g).length : Int) ≤ 9223372036854775807 ∧ ((gPlan g).length : Int) ≤ 9223372036854775807
def WLens (w : Wld) : Prop := (w.1.length : Int) ≤ 9223372036854775807 ∧ (w.2.length : Int) ≤ 9223372036854775807 ∧ ∀ g ∈ w.2, GLens g
def szW (w : Wld) : Int := w.1.length + (w.2.length + szGs w.2)
theorem szUint64S_eq (N : Nat) (a : List Int) (left : Int) (h : 0 ≤ left) (h2 : left ≤ 1048576) (h3 : (a.length : Int) ≤ 9223372036854775807) : laws_szUint64S N a left = some (rest left a.length, ()) := by
  simp (disch := omega) only [laws_szUint64S, w64, cnd, rest]
  split <;> rfl
theorem szGuest_eq (N : Nat) (g : Gst) (left : Int) (h : 0 ≤ left) (h2 : left ≤ 1048576) (h3 : GLens g) : laws_szGuest N g left = some (rest left (szG g), ()) := by
  have h4 := h3.1
  have h5 := h3.2
  unfold gSnap at h4
  unfold gPlan at h5
  unfold laws_szGuest szG gSnap gPlan
  rw [szUint64S_eq N _ left h h2 h4]
  simp only [Option.bind_some, rest]
  by_cases c : left - (g.2.2.2.2.2.2.2.2.2.2.2.2.2.2.2.2.2.2.1.length : Int) < 0
  · rw [if_pos c, if_pos (by omega)]; rfl
  · rw [if_neg c, cf c, szUint64S_eq N _ _ (by omega) (by omega) h5]
    simp only [Option.bind_some, rest]
    by_cases c2 : left - (g.2.2.2.2.2.2.2.2.2.2.2.2.2.2.2.2.2.2.1.length : Int) - (g.2.2.2.2.2.2.2.2.2.2.2.2.2.2.2.2.2.2.2.1.length : Int) < 0
    · rw [if_pos c2, if_pos (by omega)]; rfl
    · rw [if_neg c2, if_neg (by omega), cf c2]
      congr 2; omega
theorem szGuestS_eq (N : Nat) (hN : Fuel N) (l : List Gst) (left : Int) (h : 0 ≤ left) (h2 : left ≤ 1048576) (h3 : (l.length : Int) ≤ 9223372036854775807) (h4 : ∀ g ∈ l, GLens g) : laws_szGuestS N l left = some (rest left (l.length + szGs l), ()) := by
  have hs := szGs_ge l
  simp (disch := omega) only [laws_szGuestS, w64]
  by_cases c : left - (l.length : Int) < 0
  · rw [ct c, rest, if_pos (by omega)]
  rw [cf c]
  have := loop_list gst0 l (fun k i a => laws_szGuestS.l0 N k l a i) (fun r a => some (rest a (szGs r), ())) (fun i a => 0 ≤ a ∧ a ≤ 1048576)
    (fun k a ⟨h1, h2⟩ => by
      have e : rest a (szGs []) = a := by unfold rest szGs; split <;> omega
      simp (disch := omega) only [laws_szGuestS.l0, cf, e])
    (fun k i a x r hi hx ⟨ha, hb⟩ ih => by
      have hm : x ∈ l := by rw [← hx, getD_lt hi]; exact List.getElem_mem hi
      have hg := szGs_ge r
      simp (disch := omega) only [laws_szGuestS.l0, ct, bnd, Int.toNat_natCast, hx, w64, szGuest_eq N x a ha hb (h4 x hm), Option.bind_some, szGs]
      by_cases c : a - szG x < 0
      · rw [rest, if_pos c, rest, if_pos (by omega)]; rfl
      · have hz : 0 ≤ szG x := by unfold szG; omega
        rw [rest, if_neg c, cf c, ih _ ⟨by omega, by omega⟩, rest, rest]
        congr 2
        by_cases c2 : a - szG x - szGs r < 0
        · rw [if_pos c2, if_pos (by omega)]
        · rw [if_neg c2, if_neg (by omega)]; omega)
    N (by omega) (left - l.length) ⟨by omega, by omega⟩
  rw [this, rest, rest]
  congr 2
  by_cases c2 : left - (l.length : Int) - szGs l < 0
  · rw [if_pos c2, if_pos (by omega)]
  · rw [if_neg c2, if_neg (by omega)]; omega
theorem szWorld_eq (N : Nat) (hN : Fuel N) (w : Wld) (left : Int) (h : 0 ≤ left) (h2 : left ≤ 1048576) (h3 : WLens w) : laws_szWorld N w left = some (rest left (szW w), ()) := by
  obtain ⟨g1, g2, g3⟩ := h3
  have hs := szGs_ge w.2
  unfold laws_szWorld szW
  rw [szUint64S_eq N _ left h h2 g1]
  simp only [Option.bind_some, rest]
  by_cases c : left - (w.1.length : Int) < 0
  · rw [if_pos c, if_pos (by omega)]; rfl
  · rw [if_neg c, cf c, szGuestS_eq N hN _ _ (by omega) (by omega) g2 g3]
    simp only [Option.bind_some, rest]
    by_cases c2 : left - (w.1.length : Int) - (w.2.length + szGs w.2) < 0
    · rw [if_pos c2, if_pos (by omega)]; rfl
    · rw [if_neg c2, if_neg (by omega), cf c2]
      congr 2; omega
/-- All lists of a guest, of a world, are short. -/
def GShort (g : Gst) : Prop := Short (gSnap g) ∧ Short (gPlan g)
def WShort (w : Wld) : Prop := Short w.1 ∧ Short w.2 ∧ ∀ g ∈ w.2, GShort g
theorem szGs_mem : ∀ (l : List Gst) (g : Gst), g ∈ l → szG g ≤ szGs l
  | [], g, h => by simp at h
  | x :: r, g, h => by
    have := szGs_ge r
    rcases List.mem_cons.1 h with rfl | h
    · simp only [szGs]; omega
    · have := szGs_mem r g h
      have : 0 ≤ szG x := by unfold szG; omega
      simp only [szGs]; omega
theorem WShort.of {w : Wld} (h : szW w ≤ 1048576) : WShort w := by
  have h1 := szGs_ge w.2
  unfold szW at h
  refine ⟨by unfold Short; omega, by unfold Short; omega, fun g hg => ?_⟩
  have := szGs_mem w.2 g hg
  unfold szG at this
  exact ⟨by unfold Short; omega, by unfold Short; omega⟩
theorem toGuest_eq (N : Nat) (hN : Fuel N) (g : Gst) (h : GShort g) : laws_toGuest N g = some ((g.1, g.2.1, g.2.2.1, g.2.2.2.1, g.2.2.2.2.1, g.2.2.2.2.2.1, g.2.2.2.2.2.2.1, g.2.2.2.2.2.2.2.1, g.2.2.2.2.2.2.2.2.1, g.2.2.2.2.2.2.2.2.2.1, g.2.2.2.2.2.2.2.2.2.2.1, g.2.2.2.2.2.2.2.2.2.2.2.1, g.2.2.2.2.2.2.2.2.2.2.2.2.1, g.2.2.2.2.2.2.2.2.2.2.2.2.2.1, g.2.2.2.2.2.2.2.2.2.2.2.2.2.2.1, g.2.2.2.2.2.2.2.2.2.2.2.2.2.2.2.1, g.2.2.2.2.2.2.2.2.2.2.2.2.2.2.2.2.1, g.2.2.2.2.2.2.2.2.2.2.2.2.2.2.2.2.2.1, (), (), g.2.2.2.2.2.2.2.2.2.2.2.2.2.2.2.2.2.2.2.2), (gSnap g, gPlan g)) := by
  have h1 := h.1
  have h2 := h.2
  unfold gSnap at h1
  unfold gPlan at h2
  simp only [laws_toGuest, toBookOp_eq, Option.bind_some, toUint64S_eq N hN _ h1, toUint64S_eq N hN _ h2]
  rfl
theorem toGuestS_eq (N : Nat) (hN : Fuel N) (a : List Gst) (ha : Short a) (hg : ∀ g ∈ a, GShort g) : laws_toGuestS N a = some ((), a) := by
  unfold Short at ha
  have := loop_idx a.length (fun k i m => laws_toGuestS.l0 N k a i m) (fun _ _ => some ((), a)) (fun i m => m.length = a.length ∧ m.take i = a.take i)
    (fun k m ⟨h1, h2⟩ => by simp (disch := omega) only [laws_toGuestS.l0, cf, copy_end h1 h2])
    (fun k i m hi ⟨h1, h2⟩ ih => by
      have := ih (m.set i (a.getD i gst0)) ⟨by simp [h1], copy_step hi h1 h2⟩
      have hm : GShort (a.getD i gst0) := hg _ (by rw [getD_lt hi]; exact List.getElem_mem hi)
      simp (disch := omega) only [laws_toGuestS.l0, ct, bnd, w64, Int.toNat_natCast, toGuest_eq N hN _ hm, Option.bind_some]
      exact this)
    a.length N 0 (List.replicate a.length gst0) (by omega) (by omega) ⟨by simp, by simp⟩
  simp (disch := omega) only [laws_toGuestS, ct, Int.toNat_natCast]
  exact this
theorem toWorld_eq (N : Nat) (hN : Fuel N) (w : Wld) (h : WShort w) : laws_toWorld N w = some (((), ()), w) := by
  simp only [laws_toWorld, toUint64S_eq N hN _ h.1, toGuestS_eq N hN _ h.2.1 h.2.2, Option.bind_some]
theorem eqGuest_eq (N : Nat) (hN : Fuel N) (g : Gst) (h : GShort g) : laws_eqGuest N g g = some (true, ()) := by
  have h1 := h.1
  have h2 := h.2
  unfold gSnap at h1
  unfold gPlan at h2
  simp only [laws_eqGuest, eqBookOp_eq, bne_self_eq_false, cond_false, beq_self_eq_true, Bool.not_true, Option.bind_some, eqUint64S_eq N hN _ h1, eqUint64S_eq N hN _ h2]
theorem eqGuestS_eq (N : Nat) (hN : Fuel N) (a : List Gst) (ha : Short a) (hg : ∀ g ∈ a, GShort g) : laws_eqGuestS N a a = some (true, ()) := by
  unfold Short at ha
  have := loop_idx a.length (fun k i (_ : Unit) => laws_eqGuestS.l0 N k a a i) (fun _ _ => some (true, ())) (fun i m => True)
    (fun k m _ => by simp (disch := omega) only [laws_eqGuestS.l0, cf])
    (fun k i m hi _ ih => by
      have hm : GShort (a.getD i gst0) := hg _ (by rw [getD_lt hi]; exact List.getElem_mem hi)
      simp (disch := omega) only [laws_eqGuestS.l0, ct, bnd, w64, Int.toNat_natCast, eqGuest_eq N hN _ hm, Option.bind_some, Bool.not_true, cond_false, ih () trivial])
    a.length N 0 () (by omega) (by omega) trivial
  simp only [laws_eqGuestS, bne_self_eq_false, cond_false]
  exact this
theorem eqWorld_eq (N : Nat) (hN : Fuel N) (w : Wld) (h : WShort w) : laws_eqWorld N w w = some (true, ()) := by
  simp only [laws_eqWorld, eqUint64S_eq N hN _ h.1, eqGuestS_eq N hN _ h.2.1 h.2.2, Option.bind_some, Bool.not_true, cond_false]
abbrev tyOp : Ty := .agg (.pair (.int .i64) (.pair (.int .i64) (.pair (.int .i64) (.int .i64))))
abbrev tyGst : Ty := .agg (.pair .bool (.pair (.int .i64) (.pair (.int .i64) (.pair .bool (.pair tyOp (.pair (.int .i64) (.pair (.int .i64) (.pair (.int .i64) (.pair (.int .i64) (.pair (.int .i64) (.pair (.int .i64) (.pair (.int .i64) (.pair .bool (.pair (.int .i64) (.pair (.int .u64) (.pair (.int .u64) (.pair (.int .u64) (.pair (.int .u64) (.pair (.sl .frz (.int .u64)) (.pair (.sl .frz (.int .u64)) (.pair (.int .i64) (.pair (.int .i64) (.int .i64)))))))))))))))))))))))
abbrev tyWld : Ty := .agg (.pair (.sl .frz (.int .u64)) (.sl .frz tyGst))
theorem wf_glens {g : Gst} (h : Wf tyGst g) : GLens g := by
  obtain ⟨_, _, _, _, _, _, _, _, _, _, _, _, _, _, _, _, _, _, h1, h2, _⟩ := h
  exact ⟨wf_len h1, wf_len h2⟩
theorem wf_wlens {w : Wld} (h : Wf tyWld w) : WLens w := ⟨wf_len h.1, wf_len h.2, fun g hg => wf_glens (h.2.2 g hg)⟩
def wcfg (w : List Int) : Cfg := cfg (w.getD 0 0)
theorem Whole.plat {w : List Int} (h : Whole w) : Plat (wcfg w) := h.2.2.1
theorem Whole.len {w : List Int} (h : Whole w) : (w.length : Int) = 7 + 23 * (wcfg w).1 + 17 * (wcfg w).2.1 := h.2.2.2
def HasSlot (w : List Int) (s : Int) : Prop := Whole w ∧ 0 ≤ s ∧ s < (wcfg w).1
instance (w : List Int) (s : Int) : Decidable (HasSlot w s) := inferInstanceAs (Decidable (_ ∧ _))
/-- The register's word of a slot, and its beat. -/
def regW (w : List Int) (s : Int) : Int := w.getD (3 + s).toNat 0
def stOf (x : Int) : Int := x % 4294967296 % 4
def epOf (x : Int) : Int := x % 4294967296 / 4
theorem spec_PlatReg_eq (N : Nat) {a : Cfg} (h : Plat a) (n : Int) : spec_PlatReg N a n = some (if 0 ≤ n ∧ n < a.1 then 3 + n else 0, ()) := by
  have h' := h
  unfold Plat at h'
  simp only [spec_PlatReg, spec_l2At_eq N h 3 n a.1 1 (by omega) (by omega) (by omega) (by omega) (by omega), Option.bind_some, Int.mul_one]
theorem spec_l11Slot_yes (N : Nat) {w : List Int} (hw : Words w) {s : Int} (h : HasSlot w s) : spec_l11Slot N w s = some ((wcfg w, stOf (regW w s), epOf (regW w s), true), ()) := by
  obtain ⟨h1, h2, h3⟩ := h
  have hp := h1.plat
  have hl := h1.len
  have hr := hw.at (3 + s).toNat
  have hp' := hp
  unfold Plat at hp'
  simp (disch := omega) only [spec_l11Slot, spec_PlatCheck_eq N hw, if_pos h1, Option.bind_some, Bool.not_true, cond_false, cf, show cfg (w.getD 0 0) = wcfg w from rfl, spec_PlatReg_eq N hp, if_pos (And.intro h2 h3), bnd, spec_CellRegOf_eq N hr]
  rfl
theorem impl_isSlot_eq (N : Nat) {a : Cfg} (h : Plat a) (s : Int) : impl_PlatCfg_isSlot N a s = some (decide (0 ≤ s ∧ s < a.1), ()) := by
  unfold Plat at h
  simp (disch := omega) only [impl_PlatCfg_isSlot, impl_within_eq, w64, Option.bind_some]
  congr 2
  exact decide_eq_decide.2 (by omega)
theorem wf_words {l : List Int} (h : Wf (.sl .frz (.int .u64)) l) : Words l := fun x hx => wf_u64 (h.2 x hx)
def I64 (x : Int) : Prop := -9223372036854775808 ≤ x ∧ x ≤ 9223372036854775807
abbrev Ints (l : List Int) : Prop := ∀ x ∈ l, I64 x
theorem Ints.at {l : List Int} (h : Ints l) (i : Nat) : I64 (l.getD i 0) := by
  rw [List.getD_eq_getElem?_getD]
  cases hi : l[i]? with
  | none => exact ⟨by decide, by decide⟩
  | some x => exact h x (List.mem_of_getElem? hi)
theorem cndb {α : Type _} {x y : Int} {a b : α} : cond (x == y) a b = if x = y then a else b := by
  by_cases h : x = y
  · rw [if_pos h, beq_iff_eq.2 h]; rfl
  · rw [if_neg h, beq_eq_false_iff_ne.2 h]; rfl
theorem cndn {α : Type _} {x y : Int} {a b : α} : cond (x != y) a b = if x = y then b else a := by
  by_cases h : x = y
  · rw [if_pos h, bne_eq_false_iff_eq.2 h]; rfl
  · rw [if_neg h, bne_iff_ne.2 h]; rfl
noncomputable def tf (p : Prop) : Bool := @decide p (Classical.propDecidable p)
theorem tf_t {p : Prop} (h : p) : tf p = true := @decide_eq_true p (Classical.propDecidable p) h
theorem tf_f {p : Prop} (h : ¬ p) : tf p = false := @decide_eq_false p (Classical.propDecidable p) h
theorem tf_eq {p : Prop} {b : Bool} (h : b = true ↔ p) : b = tf p := by
  by_cases c : p
  · rw [tf_t c, h.2 c]
  · rw [tf_f c]
    cases b
    · rfl
    · exact (c (h.1 rfl)).elim
theorem tf_congr {p q : Prop} (h : p ↔ q) : tf p = tf q := by rw [propext h]
def FieldsP (c : Cfg) (g : Gst) : Prop :=
  match g with
  | (_, slot, epoch, _, _, pc, k, n, seq, next, who, whoE, _, time, _, _, _, _, snap, plan, _) =>
    0 ≤ slot ∧ slot < c.1 ∧ 0 ≤ epoch ∧ epoch ≤ 4095 ∧ 0 ≤ next ∧ next ≤ 4095 ∧ 0 ≤ pc ∧ pc ≤ 26 ∧ 0 ≤ seq ∧ seq ≤ 1000001 ∧ 0 ≤ who ∧ who ≤ 7 ∧ 0 ≤ whoE ∧ whoE ≤ 4095 ∧
    0 ≤ n ∧ n ≤ 20 ∧ 0 ≤ k ∧ k ≤ house c ∧ (snap.length : Int) ≤ house c ∧ (plan.length : Int) ≤ 20 ∧ 0 ≤ time ∧ time ≤ 1048575
def PlaceP (c : Cfg) (g : Gst) : Prop :=
  match g with
  | (_, _, _, _, (_, _, oa, _), pc, k, n, _, _, who, _, own, _, _, _, _, _, snap, plan, _) =>
    (own = true → 23 ≤ pc ∧ pc ≤ 25) ∧ (pc = 11 → (snap.length : Int) = k ∧ k < house c) ∧ (pc = 12 → (snap.length : Int) = house c ∧ 0 ≤ oa ∧ oa < c.1) ∧ (16 ≤ pc ∧ pc ≤ 21 → who < c.1) ∧
    (pc = 13 ∨ pc = 14 → k ≤ plan.length) ∧ (22 ≤ pc ∧ pc ≤ 24 → 1 ≤ k ∧ k ≤ n ∧ who < c.1 ∧ (own = true → n = plan.length))
def GuestP (c : Cfg) (g : Gst) : Prop :=
  Plat c ∧ (g.2.2.2.1 = true ↔ g.2.2.2.2.2.1 ≠ 0) ∧ (g.2.2.2.1 = true → g.2.2.2.2.1.2.1 = g.2.1) ∧ FieldsP c g ∧ PlaceP c g
noncomputable def guestOk (c : Cfg) (g : Gst) : Bool := tf (GuestP c g)
theorem seqF {p : Prop} [Decidable p] {r : Option (Bool × Unit)} (h : ¬ p → r = some (false, ())) : cond (decide p) (some (false, ())) r = some (false, ()) := by
  by_cases c : p
  · rw [ct c]
  · rw [cf c]; exact h c
theorem seqT {p : Prop} [Decidable p] {r : Option (Bool × Unit)} (h : p → r = some (false, ())) : cond (decide p) r (some (false, ())) = some (false, ()) := by
  by_cases c : p
  · rw [ct c]; exact h c
  · rw [cf c]
theorem seqN {p : Prop} [Decidable p] {r : Option (Bool × Unit)} (h : p → r = some (false, ())) : cond (!decide p) (some (false, ())) r = some (false, ()) := by
  by_cases c : p
  · rw [dt c]; exact h c
  · rw [df c]; rfl
theorem bq {x y : Int} : (x == y) = decide (x = y) := by by_cases h : x = y <;> simp [h]
theorem nbq {x y : Int} : (x != y) = decide (¬ x = y) := by by_cases h : x = y <;> simp [h]
theorem leafF {p : Prop} [Decidable p] (h : ¬ p) : (some (decide p, ()) : Option (Bool × Unit)) = some (false, ()) := by rw [df h]
theorem spec_l6Fields_eq (N : Nat) {c : Cfg} (h : Plat c) (g : Gst) : spec_l6Fields N c g = some (tf (FieldsP c g), ()) := by
  obtain ⟨up, slot, epoch, busy, ⟨o1, o2, o3, o4⟩, pc, k, n, seq, next, who, whoE, own, time, was, door, beat, entry, snap, plan, x1, x2, x3⟩ := g
  simp only [spec_l6Fields, spec_l2House_eq N h, Option.bind_some, FieldsP]
  generalize house c = hh
  by_cases g : 0 ≤ slot ∧ slot < c.1 ∧ 0 ≤ epoch ∧ epoch ≤ 4095 ∧ 0 ≤ next ∧ next ≤ 4095 ∧ 0 ≤ pc ∧ pc ≤ 26 ∧ 0 ≤ seq ∧ seq ≤ 1000001 ∧ 0 ≤ who ∧ who ≤ 7 ∧ 0 ≤ whoE ∧ whoE ≤ 4095 ∧
    0 ≤ n ∧ n ≤ 20 ∧ 0 ≤ k ∧ k ≤ hh ∧ (snap.length : Int) ≤ hh ∧ (plan.length : Int) ≤ 20 ∧ 0 ≤ time ∧ time ≤ 1048575
  · rw [tf_t g]
    obtain ⟨g1, g2, g3, g4, g5, g6, g7, g8, g9, g10, g11, g12, g13, g14, g15, g16, g17, g18, g19, g20, g21, g22⟩ := g
    simp (disch := omega) only [ct, cf]
    rw [dt (by omega)]
  · rw [tf_f g]
    repeat (first | refine seqF fun _ => ?_ | refine seqT fun _ => ?_)
    exact leafF fun _ => g (by omega)
theorem spec_l6Place_eq (N : Nat) {c : Cfg} (h : Plat c) (g : Gst) (hf : FieldsP c g) : spec_l6Place N c g = some (tf (PlaceP c g), ()) := by
  obtain ⟨up, slot, epoch, busy, ⟨o1, o2, o3, o4⟩, pc, k, n, seq, next, who, whoE, own, time, was, door, beat, entry, snap, plan, x1, x2, x3⟩ := g
  simp only [spec_l6Place, spec_l2House_eq N h, Option.bind_some, PlaceP, bq, nbq]
  simp only [FieldsP] at hf
  generalize house c = hh at hf ⊢
  obtain ⟨g1, g2, g3, g4, g5, g6, g7, g8, g9, g10, g11, g12, g13, g14, g15, g16, g17, g18, g19, g20, g21, g22⟩ := hf
  have hc : pc = 11 ∨ pc = 12 ∨ pc = 13 ∨ pc = 14 ∨ (16 ≤ pc ∧ pc ≤ 21) ∨ pc = 22 ∨ pc = 23 ∨ pc = 24 ∨ pc = 25 ∨ pc < 11 ∨ pc = 15 ∨ pc = 26 := by omega
  cases own
  all_goals
    simp only [cond_true, cond_false, Bool.not_true, Bool.not_false]
    rcases hc with hc | hc | hc | hc | hc | hc | hc | hc | hc | hc | hc | hc
    all_goals
      simp (disch := omega) only [ct, cf]
      try simp only [cnd]
      repeat' split
      all_goals
        refine congrArg (fun b => some (b, ())) (tf_eq ?_)
        simp only [decide_eq_true_eq, Bool.false_eq_true, reduceCtorEq, false_implies, true_and, and_true, true_implies, false_iff, true_iff]
        omega
theorem spec_GuestOk_eq (N : Nat) (c : Cfg) (g : Gst) : spec_GuestOk N c g = some (guestOk c g, ()) := by
  unfold spec_GuestOk guestOk
  rw [spec_PlatOk_eq]
  simp only [Option.bind_some]
  by_cases h : Plat c
  rotate_left
  · rw [df h, tf_f (fun q => h q.1)]; rfl
  rw [dt h, Bool.not_true, cond_false, spec_l6Fields_eq N h]
  simp only [Option.bind_some]
  have hpl : FieldsP c g → spec_l6Place N c g = some (tf (PlaceP c g), ()) := spec_l6Place_eq N h g
  by_cases hf : FieldsP c g
  · simp only [tf_t hf, cond_true, hpl hf, Option.bind_some, bq, nbq]
    rw [GuestP]
    generalize g.2.2.2.2.2.1 = pc
    generalize g.2.2.2.2.1.2.1 = os
    generalize g.2.1 = sl
    generalize hbb : g.2.2.2.1 = bb
    cases bb
    all_goals
      simp only [Bool.true_beq, Bool.false_beq, cond_true, cond_false]
      by_cases c1 : pc = 0 <;> by_cases c2 : os = sl <;> by_cases c3 : PlaceP c g <;> simp [c1, c2, c3, h, hf, tf_t, tf_f] <;> first | exact (tf_t (by simp [*])).symm | exact (tf_f (by simp [*])).symm | (rw [tf_t]; simp [*]) | (rw [tf_f]; simp [*])
  · rw [tf_f hf, tf_f (fun q => hf q.2.2.2.1)]
    simp only [cond_false]
    generalize (g.2.2.2.1 == (g.2.2.2.2.2.1 == 0)) = b1
    generalize (g.2.2.2.2.1.2.1 != g.2.1) = b2
    generalize g.2.2.2.1 = b3
    cases b1 <;> cases b2 <;> cases b3 <;> rfl
theorem impl_GuestOk_eq (N : Nat) (c : Cfg) (g : Gst) : impl_GuestOk N c g = some (guestOk c g, ()) := by
  unfold impl_GuestOk guestOk
  rw [impl_PlatOk_eq]
  simp only [Option.bind_some]
  by_cases h : Plat c
  rotate_left
  · rw [df h, tf_f (fun q => h q.1)]; rfl
  rw [dt h, Bool.not_true, cond_false]
  obtain ⟨up, slot, epoch, busy, ⟨o1, o2, o3, o4⟩, pc, k, n, seq, next, who, whoE, own, time, was, door, beat, entry, snap, plan, x1, x2, x3⟩ := g
  simp only [impl_deskAt_eq N h, impl_isSlot_eq N h, impl_within_eq, Option.bind_some, GuestP, FieldsP, PlaceP, h, true_and, bq, nbq]
  generalize house c = hh
  by_cases g : (busy = true ↔ pc ≠ 0) ∧ (busy = true → o2 = slot) ∧ 0 ≤ slot ∧ slot < c.1 ∧ 0 ≤ epoch ∧ epoch ≤ 4095 ∧ 0 ≤ next ∧ next ≤ 4095 ∧ 0 ≤ pc ∧ pc ≤ 26 ∧ 0 ≤ seq ∧ seq ≤ 1000001 ∧ 0 ≤ who ∧ who ≤ 7 ∧ 0 ≤ whoE ∧ whoE ≤ 4095 ∧
    0 ≤ n ∧ n ≤ 20 ∧ 0 ≤ k ∧ k ≤ hh ∧ (snap.length : Int) ≤ hh ∧ (plan.length : Int) ≤ 20 ∧ 0 ≤ time ∧ time ≤ 1048575
  · obtain ⟨gb, gs, g1, g2, g3, g4, g5, g6, g7, g8, g9, g10, g11, g12, g13, g14, g15, g16, g17, g18, g19, g20, g21, g22⟩ := g
    have hc : pc = 11 ∨ pc = 12 ∨ pc = 13 ∨ pc = 14 ∨ (16 ≤ pc ∧ pc ≤ 21) ∨ pc = 22 ∨ pc = 23 ∨ pc = 24 ∨ pc = 25 ∨ pc < 11 ∨ pc = 15 ∨ pc = 26 := by omega
    have e0 : (!(busy == decide (¬ pc = 0))) = false := by cases busy <;> simp at gb ⊢ <;> exact gb
    rw [e0, cond_false]
    cases busy
    all_goals
      simp only [cond_true, cond_false, Bool.false_eq_true, false_implies, true_implies, forall_const, false_iff, true_iff, ne_eq, Classical.not_not, true_and, Bool.true_eq_false] at gs gb ⊢
      rcases hc with hc | hc | hc | hc | hc | hc | hc | hc | hc | hc | hc | hc
      all_goals
        simp (disch := omega) only [ct, cf, dt, df, Bool.not_true, Bool.not_false, cond_true, cond_false]
        cases own
        all_goals
          try simp only [Bool.not_true, Bool.not_false, cond_true, cond_false, Bool.cond_not, cnd]
          repeat' split
          all_goals
            refine congrArg (fun b => some (b, ())) (tf_eq ?_)
            simp only [decide_eq_true_eq, Bool.false_eq_true, reduceCtorEq, false_implies, true_and, and_true, true_implies, false_iff, true_iff]
            omega
  · rw [tf_f (by intro q; apply g; simp only [and_assoc] at q ⊢; exact ⟨q.1, q.2.1, by omega⟩)]
    cases busy
    · simp only [Bool.false_beq, Bool.not_not, cond_false, cond_true]
      repeat (first | refine seqF fun _ => ?_ | refine seqT fun _ => ?_ | refine seqN fun _ => ?_)
      exact absurd (by simp; omega) g
    · simp only [Bool.true_beq, Bool.not_not, cond_false, cond_true]
      repeat (first | refine seqF fun _ => ?_ | refine seqT fun _ => ?_ | refine seqN fun _ => ?_)
      exact absurd (by simp; omega) g
def gt (l : List Gst) (i : Nat) : Gst := l.getD i gst0
theorem fold_gt (l : List Gst) (i : Nat) : l.getD i (false, 0, 0, false, (0, 0, 0, 0), 0, 0, 0, 0, 0, 0, 0, false, 0, 0, 0, 0, 0, ([] : List Int), ([] : List Int), 0, 0, 0) = gt l i := (rfl)
def WorldP (w : Wld) : Prop := Whole w.1 ∧ w.2.length ≤ 6 ∧ ∀ i, i < w.2.length → GuestP (wcfg w.1) (gt w.2 i)
noncomputable def worldOk (w : Wld) : Bool := tf (WorldP w)
theorem spec_WorldOk_loop (N : Nat) (c : Cfg) (w : Wld) (h6 : w.2.length ≤ 6) : ∀ d i k, i + d = w.2.length → d < k →
    spec_WorldOk.l0 N k (i : Int) w c = some (tf (∀ j, i ≤ j → j < w.2.length → GuestP c (gt w.2 j)), ())
  | 0, i, k, e, hk => by
    obtain ⟨k, rfl⟩ : ∃ j, k = j + 1 := ⟨k - 1, by omega⟩
    rw [spec_WorldOk.l0, cf (by omega), tf_t (fun j h1 h2 => by omega)]
  | d + 1, i, k, e, hk => by
    obtain ⟨k, rfl⟩ : ∃ j, k = j + 1 := ⟨k - 1, by omega⟩
    rw [spec_WorldOk.l0]
    simp (disch := omega) only [ct, bnd, Int.toNat_natCast, fold_gt, spec_GuestOk_eq, Option.bind_some, w64]
    rw [show (i : Int) + 1 = ((i + 1 : Nat) : Int) by omega, spec_WorldOk_loop N c w h6 d (i + 1) k (by omega) (by omega), guestOk]
    by_cases g : GuestP c (gt w.2 i)
    · rw [tf_t g, Bool.not_true, cond_false]
      refine congrArg (fun b => some (b, ())) (tf_congr ⟨fun h j h1 h2 => ?_, fun h j h1 h2 => h j (by omega) h2⟩)
      by_cases e2 : j = i
      · subst e2; exact g
      · exact h j (by omega) h2
    · rw [tf_f g, Bool.not_false, cond_true, tf_f (fun h => g (h i (by omega) (by omega)))]
theorem spec_WorldOk_eq (N : Nat) (hN : Fuel N) (w : Wld) (hw : Words w.1) : spec_WorldOk N w = some (worldOk w, ()) := by
  unfold spec_WorldOk worldOk
  rw [spec_PlatCheck_eq N hw]
  simp only [Option.bind_some]
  by_cases h : Whole w.1
  rotate_left
  · rw [if_neg h, tf_f (fun g => h g.1)]; rfl
  rw [if_pos h]
  simp only [Bool.not_true, cond_false]
  by_cases h6 : (w.2.length : Int) > 6
  · rw [ct h6, tf_f (fun g => by have := g.2.1; omega)]
  rw [cf h6]
  have := spec_WorldOk_loop N (cfg (w.1.getD 0 0)) w (by omega) w.2.length 0 N (by omega) (by unfold Fuel at hN; omega)
  rw [show ((0 : Nat) : Int) = 0 from rfl] at this
  rw [this]
  exact congrArg (fun b => some (b, ())) (tf_congr ⟨fun g => ⟨h, by omega, fun i hi => g i (by omega) hi⟩, fun g j h1 h2 => g.2.2 j h2⟩)
theorem impl_IndexGuest_loop (N : Nat) (c : Cfg) (l : List Gst) (h6 : l.length ≤ 6) : ∀ d i k, i + d = l.length → d < k →
    ∃ r : Int, slices_IndexFunc_loop_example_hostel_impl_Guest_loop_example_hostel_impl_Guest.l0 N k l c (l.length : Int) (i : Int) = some (r, ()) ∧ (r < 0 ↔ ∀ j, i ≤ j → j < l.length → GuestP c (gt l j))
  | 0, i, k, e, hk => by
    obtain ⟨k, rfl⟩ : ∃ j, k = j + 1 := ⟨k - 1, by omega⟩
    refine ⟨-1, ?_, ⟨fun _ j h1 h2 => by omega, fun _ => by omega⟩⟩
    rw [slices_IndexFunc_loop_example_hostel_impl_Guest_loop_example_hostel_impl_Guest.l0, cf (by omega)]
  | d + 1, i, k, e, hk => by
    obtain ⟨k, rfl⟩ : ∃ j, k = j + 1 := ⟨k - 1, by omega⟩
    rw [slices_IndexFunc_loop_example_hostel_impl_Guest_loop_example_hostel_impl_Guest.l0]
    simp (disch := omega) only [ct, bnd, Int.toNat_natCast, fold_gt, impl_WorldOk_1, impl_GuestOk_eq, Option.bind_some, w64, guestOk]
    by_cases g : GuestP c (gt l i)
    · obtain ⟨r, h1, h2⟩ := impl_IndexGuest_loop N c l h6 d (i + 1) k (by omega) (by omega)
      refine ⟨r, ?_, h2.trans ⟨fun h j h1 h2 => ?_, fun h j h1 h2 => h j (by omega) h2⟩⟩
      · rw [tf_t g, Bool.not_true, cond_false, show (i : Int) + 1 = ((i + 1 : Nat) : Int) by omega, h1]
      · by_cases e2 : j = i
        · subst e2; exact g
        · exact h j (by omega) h2
    · refine ⟨(i : Int), ?_, ⟨fun h => by omega, fun h => (g (h i (by omega) (by omega))).elim⟩⟩
      rw [tf_f g, Bool.not_false, cond_true]
theorem impl_WorldOk_eq (N : Nat) (hN : Fuel N) (w : Wld) (hw : Words w.1) : impl_WorldOk N w = some (worldOk w, ()) := by
  unfold impl_WorldOk worldOk
  rw [impl_PlatCheck_eq N hw]
  simp only [Option.bind_some]
  by_cases h : Whole w.1
  rotate_left
  · rw [if_neg h, tf_f (fun g => h g.1)]; rfl
  rw [if_pos h]
  simp only [cond_true]
  by_cases h6 : (w.2.length : Int) ≤ 6
  rotate_left
  · rw [cf h6, tf_f (fun g => by have := g.2.1; omega)]
  rw [ct h6]
  obtain ⟨r, h1, h2⟩ := impl_IndexGuest_loop N (cfg (w.1.getD 0 0)) w.2 (by omega) w.2.length 0 N (by omega) (by unfold Fuel at hN; omega)
  rw [show ((0 : Nat) : Int) = 0 from rfl] at h1
  simp only [slices_ContainsFunc_loop_example_hostel_impl_Guest_loop_example_hostel_impl_Guest, slices_IndexFunc_loop_example_hostel_impl_Guest_loop_example_hostel_impl_Guest, h1, Option.bind_some]
  refine congrArg (fun b => some (b, ())) (tf_eq ?_)
  rw [Bool.not_eq_true', decide_eq_false_iff_not]
  refine ⟨fun g => ⟨h, by omega, fun i hi => (h2.1 (by omega)) i (by omega) hi⟩, fun g => ?_⟩
  have := h2.2 (fun j _ hj => g.2.2 j hj)
  omega
noncomputable def termFenced (w : Wld) (i : Int) : Bool :=
  tf (WorldP w ∧ 0 ≤ i ∧ i < w.2.length ∧ (gt w.2 i.toNat).2.2.1 ≠ 0 ∧ (stOf (regW w.1 (gt w.2 i.toNat).2.1) = 0 ∨ epOf (regW w.1 (gt w.2 i.toNat).2.1) ≠ (gt w.2 i.toNat).2.2.1))
theorem GuestP.slot {c : Cfg} {g : Gst} (h : GuestP c g) : 0 ≤ g.2.1 ∧ g.2.1 < c.1 := ⟨h.2.2.2.1.1, h.2.2.2.1.2.1⟩
theorem spec_TermFenced_eq (N : Nat) (hN : Fuel N) (w : Wld) (hw : Words w.1) (i : Int) : spec_TermFenced N w i = some (termFenced w i, ()) := by
  unfold spec_TermFenced termFenced
  rw [spec_WorldOk_eq N hN w hw, worldOk]
  simp only [Option.bind_some]
  by_cases h : WorldP w
  rotate_left
  · rw [tf_f h, tf_f (fun g => h g.1)]; rfl
  rw [tf_t h, Bool.not_true, cond_false]
  by_cases c : i < 0
  · rw [ct c, tf_f (fun g => by omega)]
  rw [cf c]
  by_cases c2 : i ≥ (w.2.length : Int)
  · rw [ct c2, tf_f (fun g => by omega)]
  have hg := GuestP.slot (h.2.2 i.toNat (by omega))
  have hs : HasSlot w.1 (gt w.2 i.toNat).2.1 := ⟨h.1, hg.1, hg.2⟩
  simp (disch := omega) only [cf c2, bnd, fold_gt, cndb, spec_l11Slot_yes N hw hs, Option.bind_some]
  by_cases c3 : (gt w.2 i.toNat).2.2.1 = 0
  · rw [if_pos c3, tf_f (fun g => g.2.2.2.1 c3)]
  rw [if_neg c3]
  by_cases c4 : stOf (regW w.1 (gt w.2 i.toNat).2.1) = 0
  · rw [if_pos c4, tf_t ⟨h, by omega, by omega, c3, Or.inl c4⟩]
  rw [if_neg c4]
  refine congrArg (fun b => some (b, ())) (tf_eq ?_)
  rw [bne_iff_ne]
  exact ⟨fun g => ⟨h, by omega, by omega, c3, Or.inr g⟩, fun g => g.2.2.2.2.resolve_left c4⟩
theorem impl_TermFenced_eq (N : Nat) (hN : Fuel N) (w : Wld) (hw : Words w.1) (hs6 : Short w.2) (i : Int) : impl_TermFenced N w i = some (termFenced w i, ()) := by
  unfold impl_TermFenced termFenced
  rw [impl_WorldOk_eq N hN w hw, worldOk]
  unfold Short at hs6
  simp (disch := omega) only [Option.bind_some, loop_example_hostel_impl_World_isGuest, impl_within_eq, w64, loop_example_hostel_impl_World_cfg, impl_PlatCheck_eq N hw, impl_regAt_eq]
  by_cases h : WorldP w
  rotate_left
  · rw [tf_f h, tf_f (fun g => h g.1)]; rfl
  rw [tf_t h, Bool.not_true, cond_false]
  by_cases c : 0 ≤ i ∧ i ≤ (w.2.length : Int) - 1
  rotate_left
  · rw [df c, tf_f (fun g => by omega)]; rfl
  have hg := GuestP.slot (h.2.2 i.toNat (by omega))
  have hp := h.1.plat
  have hl := h.1.len
  have hp' := hp
  unfold Plat at hp'
  have hr := hw.at (3 + (gt w.2 i.toNat).2.1).toNat
  have hz : (w.1.length : Int) = size (wcfg w.1) := hl
  simp (disch := omega) only [dt c, Bool.not_true, cond_false, bnd, fold_gt, w64]
  rw [impl_CellRegOf_eq N hr]
  simp only [Option.bind_some, cndn, cndb]
  rw [show w.1.getD (3 + (gt w.2 i.toNat).2.1).toNat 0 % 4294967296 % 4 = stOf (regW w.1 (gt w.2 i.toNat).2.1) from rfl, show w.1.getD (3 + (gt w.2 i.toNat).2.1).toNat 0 % 4294967296 / 4 = epOf (regW w.1 (gt w.2 i.toNat).2.1) from rfl]
  by_cases c3 : (gt w.2 i.toNat).2.2.1 = 0
  · rw [if_pos c3, tf_f (fun g => g.2.2.2.1 c3)]
  rw [if_neg c3]
  by_cases c4 : stOf (regW w.1 (gt w.2 i.toNat).2.1) = 0
  · rw [if_pos c4, tf_t ⟨h, by omega, by omega, c3, Or.inl c4⟩]
  rw [if_neg c4]
  refine congrArg (fun b => some (b, ())) (tf_eq ?_)
  rw [bne_iff_ne]
  exact ⟨fun g => ⟨h, by omega, by omega, c3, Or.inr g⟩, fun g => g.2.2.2.2.resolve_left c4⟩
theorem plainTermFenced (N : Nat) (hN : Fuel N) (a : Wld) (ha : WLens a) (hw : Words a.1) (i : Int) : laws_FnExactTermFenced N a i = some (true, ()) := by
  unfold laws_FnExactTermFenced
  have h0 := szGs_ge a.2
  have h1 : 0 ≤ szW a := by unfold szW; omega
  rw [szWorld_eq N hN a _ (by omega) (by omega) ha]
  simp only [Option.bind_some]
  by_cases h : (1048576 : Int) - szW a < 0
  · rw [rest, if_pos h]; rfl
  have sa := WShort.of (w := a) (by omega)
  rw [rest, if_neg h, cf h]
  simp only [toWorld_eq N hN _ sa, Option.bind_some, spec_TermFenced_eq N hN a hw, impl_TermFenced_eq N hN a hw sa.2.1, bne_self_eq_false, Bool.not_true, cond_false, eqWorld_eq N hN _ sa, beq_self_eq_true]
theorem lawFnExactTermFenced (y0 : Wld) (y1 : Int) (w0 : Wf tyWld y0) (w1 : Wf (.int .i64) y1) : laws_FnExactTermFenced N0 y0 y1 = some (true, ()) :=
  plainTermFenced N0 hN0 y0 (wf_wlens w0) (wf_words w0.1) y1
end Go.Proofs.Ytcmokjahgeicfaa.Pv
