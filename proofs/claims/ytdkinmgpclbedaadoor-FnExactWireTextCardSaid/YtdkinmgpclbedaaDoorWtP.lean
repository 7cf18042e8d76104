/- The plain side of FnExactWireText: what the functions compute, over numbers and lists. -/
import Derived.Test.YtdkinmgpclbedaaDoorWtF
import Derived.Test.YtdkinmgpclbedaaDoorPvRow
import Derived.Lib.ItoaNum
import Derived.Laws.Strings
namespace Go.Proofs.YtdkinmgpclbedaaDoor.Pv
open Go Go.Pv Go.Proofs
set_option linter.unusedVariables false
set_option linter.unusedSimpArgs false
theorem w64 {n : Int} (h : -9223372036854775808 ≤ n) (h2 : n ≤ 9223372036854775807) : IntKind.i64.wrap n = n := by rw [IntKind.wrap_i64]; omega
theorem u64w {n : Int} (h : 0 ≤ n) (h2 : n < 18446744073709551616) : IntKind.u64.wrap n = n := by
  unfold IntKind.wrap
  simp [IntKind.bits, IntKind.signed]
  omega
theorem tm {a b : Int} (h : 0 ≤ a) : Int.tmod a b = a % b := Int.tmod_eq_emod_of_nonneg h
theorem td {a b : Int} (h : 0 ≤ a) : Int.tdiv a b = a / b := Int.tdiv_eq_ediv_of_nonneg h
theorem dt {p : Prop} [Decidable p] (h : p) : decide p = true := decide_eq_true h
theorem df {p : Prop} [Decidable p] (h : ¬ p) : decide p = false := decide_eq_false h
theorem ct {α : Type _} {p : Prop} [Decidable p] {a b : α} (h : p) : cond (decide p) a b = a := by rw [decide_eq_true h]; rfl
theorem cf {α : Type _} {p : Prop} [Decidable p] {a b : α} (h : ¬ p) : cond (decide p) a b = b := by rw [decide_eq_false h]; rfl
theorem cnd {α : Type _} {p : Prop} [Decidable p] {a b : α} : cond (decide p) a b = if p then a else b := by by_cases h : p <;> simp [h]
/-- The test that a place lies in a row. -/
theorem bnd {α : Type _} {i : Int} {n : Nat} {a b : α} (h : 0 ≤ i) (h2 : i < (n : Int)) : cond (cond (decide (0 ≤ i)) (decide (i < (n : Int))) false) a b = a := by rw [dt h, dt h2]; rfl
theorem getD_lt {α : Type _} {l : List α} {i : Nat} {d : α} (h : i < l.length) : l.getD i d = l[i] := by simp [h]
theorem fuel {n k : Nat} (h : n < k) : ∃ j, k = j + 1 := ⟨k - 1, by omega⟩
/-- A loop over the places below a length, with a state. -/
theorem loop_idx {A : Type _} {R : Type _} (len : Nat) (L : Nat → Int → A → R) (F : Nat → A → R) (I : Nat → A → Prop)
    (hend : ∀ k a, I len a → L (k + 1) (len : Int) a = F len a)
    (hstep : ∀ k i a, i < len → I i a → (∀ a', I (i + 1) a' → L k ((i : Int) + 1) a' = F (i + 1) a') → L (k + 1) (i : Int) a = F i a) :
    ∀ n k i a, i + n = len → n < k → I i a → L k (i : Int) a = F i a := by
  intro n
  induction n with
  | zero =>
    intro k i a h1 h2 h3
    obtain ⟨k, rfl⟩ := fuel h2
    obtain rfl : i = len := by omega
    exact hend k a h3
  | succ n ih =>
    intro k i a h1 h2 h3
    obtain ⟨k, rfl⟩ := fuel h2
    exact hstep k i a (by omega) h3 (fun a' h => by have := ih k (i + 1) a' (by omega) (by omega) h; rwa [Int.natCast_add] at this)
/-- Lists that are short enough for every count. -/
def Short {α : Type _} (l : List α) : Prop := l.length ≤ 4194304
abbrev Fuel (N : Nat) : Prop := 1099511627776 < N
/-- The fuel with which the laws are told. -/
def N0 : Nat := 1099511627777
theorem hN0 : Fuel N0 := by unfold Fuel N0; omega
theorem wf_u64 {x : Int} (h : (Lit.int .u64 x).wf = true) : 0 ≤ x ∧ x < 18446744073709551616 := by
  simp [Lit.wf, IntKind.min, IntKind.max, IntKind.signed, IntKind.bits] at h
  omega
/-- What a loop that copies has behind it. -/
theorem copy_step {α : Type _} {l m : List α} {i : Nat} {d : α} (hi : i < l.length) (hm : m.length = l.length) (h : m.take i = l.take i) : (m.set i (l.getD i d)).take (i + 1) = l.take (i + 1) := by
  rw [getD_lt hi]
  apply List.ext_getElem?
  intro j
  simp only [List.getElem?_take, List.getElem?_set]
  by_cases hj : j < i + 1
  · simp only [if_pos hj]
    by_cases e : i = j
    · subst e; simp [hm, hi]
    · simp only [if_neg e]
      have := congrArg (fun l => l[j]?) h
      simp only [List.getElem?_take, show j < i by omega, if_true] at this
      exact this
  · simp only [if_neg hj]
theorem copy_end {α : Type _} {l m : List α} (hm : m.length = l.length) (h : m.take l.length = l.take l.length) : m = l := by
  rwa [List.take_of_length_le (by omega), List.take_of_length_le (by omega)] at h
theorem toUint64S_eq (N : Nat) (hN : Fuel N) (a : List Int) (ha : Short a) : laws_toUint64S N a = some ((), a) := by
  unfold Short at ha
  have := loop_idx a.length (fun k i m => laws_toUint64S.l0 N k a i m) (fun _ _ => some ((), a)) (fun i m => m.length = a.length ∧ m.take i = a.take i)
    (fun k m ⟨h1, h2⟩ => by simp (disch := omega) only [laws_toUint64S.l0, cf, copy_end h1 h2])
    (fun k i m hi ⟨h1, h2⟩ ih => by
      have := ih (m.set i (a.getD i 0)) ⟨by simp [h1], copy_step hi h1 h2⟩
      simp (disch := omega) only [laws_toUint64S.l0, ct, bnd, w64, Int.toNat_natCast, this])
    a.length N 0 (List.replicate a.length 0) (by omega) (by omega) ⟨by simp, by simp⟩
  simp (disch := omega) only [laws_toUint64S, ct, Int.toNat_natCast]
  exact this
theorem eqUint64S_eq (N : Nat) (hN : Fuel N) (a : List Int) (ha : Short a) : laws_eqUint64S N a a = some (true, ()) := by
  unfold Short at ha
  have := loop_idx a.length (fun k i (_ : Unit) => laws_eqUint64S.l0 N k a a i) (fun _ _ => some (true, ())) (fun i m => True)
    (fun k m _ => by simp (disch := omega) only [laws_eqUint64S.l0, cf])
    (fun k i m hi _ ih => by simp (disch := omega) only [laws_eqUint64S.l0, ct, bnd, w64, Int.toNat_natCast, bne_self_eq_false, cond_false, ih () trivial])
    a.length N 0 () (by omega) (by omega) trivial
  simp only [laws_eqUint64S, bne_self_eq_false, cond_false]
  exact this
abbrev Cfg := Int × Int × Int
def W64 (x : Int) : Prop := 0 ≤ x ∧ x < 18446744073709551616
theorem impl_within_eq (N : Nat) (x lo hi : Int) : impl_within N x lo hi = some (decide (lo ≤ x ∧ x ≤ hi), ()) := by
  unfold impl_within
  by_cases h : lo ≤ x
  · by_cases h2 : x ≤ hi <;> simp [h, h2]
  · simp [h]
theorem spec_CellVal_eq (N : Nat) {x : Int} (h : W64 x) : spec_CellVal N x = some (x % 4294967296, ()) := by
  obtain ⟨h1, h2⟩ := h
  simp (disch := omega) only [spec_CellVal, tm, w64]
theorem impl_CellStamp_eq (N : Nat) {x : Int} (h : W64 x) : impl_CellStamp N x = some (x / 4294967296, ()) := by
  obtain ⟨h1, h2⟩ := h
  have e : Int.fdiv x (2 ^ 32) = x / 4294967296 := by rw [Int.fdiv_eq_ediv_of_nonneg _ (by decide)]; rfl
  simp (disch := omega) only [impl_CellStamp, e, w64]
theorem impl_CellVal_eq (N : Nat) {x : Int} (h : W64 x) : impl_CellVal N x = some (x % 4294967296, ()) := by
  unfold impl_CellVal
  obtain ⟨h1, h2⟩ := h
  obtain ⟨n, rfl⟩ := Int.eq_ofNat_of_zero_le h1
  have e : (BitVec.ofInt 64 (n : Int) &&& BitVec.ofInt 64 4294967295).toNat = n % 4294967296 := by
    rw [BitVec.toNat_and, BitVec.toNat_ofInt, BitVec.toNat_ofInt]
    have e1 : ((n : Int) % ((2 ^ 64 : Nat) : Int)).toNat = n := by omega
    have e2 : ((4294967295 : Int) % ((2 ^ 64 : Nat) : Int)).toNat = 2 ^ 32 - 1 := by decide
    rw [e1, e2, Nat.and_two_pow_sub_one_eq_mod]
  rw [e, u64w (by omega) (by omega), w64 (by omega) (by omega)]
  congr 2
/-- A number brought into 0 to m. -/
def low (n m : Int) : Int := if n < 0 then 0 else if n > m then m else n
theorem low_id {n m : Int} (h : 0 ≤ n) (h2 : n ≤ m) : low n m = n := by unfold low; rw [if_neg (by omega), if_neg (by omega)]
theorem low_ge (n m : Int) (h : 0 ≤ m) : 0 ≤ low n m := by unfold low; split <;> (try split) <;> omega
theorem low_le (n m : Int) (h : 0 ≤ m) : low n m ≤ m := by unfold low; split <;> (try split) <;> omega
theorem spec_l1Low_eq (N : Nat) (n m : Int) : spec_l1Low N n m = some (low n m, ()) := by
  unfold spec_l1Low low
  by_cases h : n < 0
  · simp [h]
  · by_cases h2 : n > m <;> simp [h, h2]
theorem spec_CellPack_eq (N : Nat) (v s : Int) : spec_CellPack N v s = some (low s 4294967295 * 4294967296 + low v 4294967295, ()) := by
  have := low_ge v 4294967295 (by omega)
  have := low_le v 4294967295 (by omega)
  have := low_ge s 4294967295 (by omega)
  have := low_le s 4294967295 (by omega)
  simp (disch := omega) only [spec_CellPack, spec_l1Low_eq, Option.bind_some, u64w]
def Plat (a : Cfg) : Prop := 1 ≤ a.1 ∧ a.1 ≤ 4 ∧ 1 ≤ a.2.1 ∧ a.2.1 ≤ 6 ∧ 1 ≤ a.2.2 ∧ a.2.2 ≤ 20
instance (a : Cfg) : Decidable (Plat a) := inferInstanceAs (Decidable (_ ∧ _))
theorem spec_PlatOk_eq (N : Nat) (a : Cfg) : spec_PlatOk N a = some (decide (Plat a), ()) := by
  simp only [spec_PlatOk, cnd, Plat, ge_iff_le]
  repeat' split
  all_goals (congr 2; first | exact decide_eq_decide.2 (by omega) | exact (df (by omega)).symm | exact (dt (by omega)).symm)
theorem impl_PlatOk_eq (N : Nat) (a : Cfg) : impl_PlatOk N a = some (decide (Plat a), ()) := by
  simp only [impl_PlatOk, impl_within_eq, Option.bind_some, cnd, Plat]
  repeat' split
  all_goals (congr 2; first | exact decide_eq_decide.2 (by omega) | exact (df (by omega)).symm | exact (dt (by omega)).symm)
def house (a : Cfg) : Int := 7 + 2 * a.1 + 17 * a.2.1
def size (a : Cfg) : Int := 7 + 23 * a.1 + 17 * a.2.1
theorem spec_l2House_eq (N : Nat) {a : Cfg} (h : Plat a) : spec_l2House N a = some (house a, ()) := by
  unfold Plat at h
  simp (disch := omega) only [spec_l2House, w64, house]
  congr 2; omega
theorem spec_l2Size_eq (N : Nat) {a : Cfg} (h : Plat a) : spec_l2Size N a = some (size a, ()) := by
  have h' := h
  unfold Plat at h'
  simp only [spec_l2Size, spec_l2House_eq N h, Option.bind_some]
  unfold house size
  simp (disch := omega) only [w64]
  congr 2; omega
theorem impl_regAt_eq (N : Nat) (a : Cfg) : impl_PlatCfg_regAt N a = some (3, ()) := rfl
theorem impl_beatAt_eq (N : Nat) {a : Cfg} (h : Plat a) : impl_PlatCfg_beatAt N a = some (3 + a.1, ()) := by
  unfold Plat at h
  simp (disch := omega) only [impl_PlatCfg_beatAt, impl_regAt_eq, Option.bind_some, w64]
theorem impl_headAt_eq (N : Nat) {a : Cfg} (h : Plat a) : impl_PlatCfg_headAt N a = some (3 + 2 * a.1, ()) := by
  have h' := h
  unfold Plat at h'
  simp (disch := omega) only [impl_PlatCfg_headAt, impl_beatAt_eq N h, Option.bind_some, w64]
  congr 2; omega
theorem impl_pageAt_eq (N : Nat) {a : Cfg} (h : Plat a) : impl_PlatCfg_pageAt N a = some (7 + 2 * a.1, ()) := by
  have h' := h
  unfold Plat at h'
  simp (disch := omega) only [impl_PlatCfg_pageAt, impl_headAt_eq N h, Option.bind_some, w64]
  congr 2; omega
theorem impl_tagAt_eq (N : Nat) {a : Cfg} (h : Plat a) : impl_PlatCfg_tagAt N a = some (7 + 2 * a.1 + a.2.1, ()) := by
  have h' := h
  unfold Plat at h'
  simp (disch := omega) only [impl_PlatCfg_tagAt, impl_pageAt_eq N h, Option.bind_some, w64]
theorem impl_linkAt_eq (N : Nat) {a : Cfg} (h : Plat a) : impl_PlatCfg_linkAt N a = some (7 + 2 * a.1 + 9 * a.2.1, ()) := by
  have h' := h
  unfold Plat at h'
  simp (disch := omega) only [impl_PlatCfg_linkAt, impl_tagAt_eq N h, Option.bind_some, w64]
  congr 2; omega
theorem impl_deskAt_eq (N : Nat) {a : Cfg} (h : Plat a) : impl_PlatCfg_deskAt N a = some (house a, ()) := by
  have h' := h
  unfold Plat at h'
  simp (disch := omega) only [impl_PlatCfg_deskAt, impl_linkAt_eq N h, Option.bind_some, w64, house]
  congr 2; omega
theorem impl_size_eq (N : Nat) {a : Cfg} (h : Plat a) : impl_PlatCfg_size N a = some (size a, ()) := by
  have h' := h
  unfold Plat at h'
  simp only [impl_PlatCfg_size, impl_deskAt_eq N h, Option.bind_some]
  unfold house size
  simp (disch := omega) only [w64]
  congr 2; omega
/-- The plat that a word tells. -/
def cfg (x : Int) : Cfg := (x % 4294967296 % 8, x % 4294967296 / 8 % 8, x % 4294967296 / 64)
theorem cfg_text {x : Int} (h : W64 x) : (Int.tmod (x % 4294967296) 8, Int.tmod (IntKind.i64.wrap (Int.tdiv (x % 4294967296) 8)) 8, IntKind.i64.wrap (Int.tdiv (x % 4294967296) 64)) = cfg x := by
  obtain ⟨h1, h2⟩ := h
  simp (disch := omega) only [cfg, tm, td, w64]
/-- Is the list of words a whole memory? -/
def Whole (l : List Int) : Prop := 0 < l.length ∧ l.getD 0 0 / 4294967296 = 201115 ∧ Plat (cfg (l.getD 0 0)) ∧ (l.length : Int) = size (cfg (l.getD 0 0))
instance (l : List Int) : Decidable (Whole l) := inferInstanceAs (Decidable (_ ∧ _))
abbrev Words (l : List Int) : Prop := ∀ x ∈ l, W64 x
theorem Words.at {l : List Int} (h : Words l) (i : Nat) : W64 (l.getD i 0) := by
  rw [List.getD_eq_getElem?_getD]
  cases hi : l[i]? with
  | none => exact ⟨by decide, by decide⟩
  | some x => exact h x (List.mem_of_getElem? hi)
theorem spec_l2Magic_eq (N : Nat) {x : Int} (h : W64 x) (hp : Plat (cfg x)) : spec_l2Magic N (cfg x) = some (201115 * 4294967296 + x % 4294967296, ()) := by
  obtain ⟨h1, h2⟩ := h
  have e : x % 4294967296 % 8 + 8 * (x % 4294967296 / 8 % 8) + 64 * (x % 4294967296 / 64) = x % 4294967296 := by omega
  simp only [spec_l2Magic, cfg] at hp ⊢
  unfold Plat at hp
  simp only [] at hp
  simp (disch := omega) only [w64, e, spec_CellPack_eq, low_id, Option.bind_some]
theorem spec_PlatCheck_eq (N : Nat) {l : List Int} (hw : Words l) : spec_PlatCheck N l = some (if Whole l then (cfg (l.getD 0 0), true) else ((0, 0, 0), false), ()) := by
  have hx := hw.at 0
  have hx' := hx
  obtain ⟨x1, x2⟩ := hx'
  unfold spec_PlatCheck
  by_cases h1 : l.length = 0
  · have n0 : ((l.length : Int) == 0) = true := by rw [beq_iff_eq]; omega
    rw [if_neg (fun h => by have := h.1; omega)]
    simp only [n0, cond_true]
  have n0 : ((l.length : Int) == 0) = false := by rw [beq_eq_false_iff_ne]; omega
  simp (disch := omega) only [n0, cond_false, ct, spec_CellVal_eq N hx, Option.bind_some, cfg_text hx, spec_PlatOk_eq]
  by_cases h3 : Plat (cfg (l.getD 0 0))
  rotate_left
  · rw [if_neg (fun h => h3 h.2.2.1)]
    simp only [df h3, Bool.not_false, cond_true]
  simp only [dt h3, Bool.not_true, cond_false, spec_l2Magic_eq N hx h3, Option.bind_some, spec_l2Size_eq N h3]
  by_cases h2 : l.getD 0 0 / 4294967296 = 201115
  rotate_left
  · rw [if_neg (fun h => h2 h.2.1)]
    have e : l.getD 0 0 ≠ 201115 * 4294967296 + l.getD 0 0 % 4294967296 := by omega
    rw [bne_iff_ne.2 e, cond_true]
  have e : 201115 * 4294967296 + l.getD 0 0 % 4294967296 = l.getD 0 0 := by omega
  rw [e, bne_self_eq_false, cond_false]
  by_cases e4 : (l.length : Int) = size (cfg (l.getD 0 0))
  · rw [if_pos ⟨by omega, h2, h3, e4⟩, e4, bne_self_eq_false, cond_false]
  · rw [if_neg (fun h => e4 h.2.2.2), bne_iff_ne.2 e4, cond_true]
/-- What the first word tells, if it is one of a memory's. -/
def Head (l : List Int) : Prop := 0 < l.length ∧ l.getD 0 0 / 4294967296 = 201115 ∧ Plat (cfg (l.getD 0 0))
instance (l : List Int) : Decidable (Head l) := inferInstanceAs (Decidable (_ ∧ _))
theorem impl_cfgOf_yes (N : Nat) {l : List Int} (hw : Words l) (h : Head l) : impl_cfgOf N l = some ((cfg (l.getD 0 0), true), ()) := by
  have hx := hw.at 0
  obtain ⟨h1, h2, h3⟩ := h
  have n0 : ((l.length : Int) == 0) = false := by rw [beq_eq_false_iff_ne]; omega
  simp (disch := omega) only [impl_cfgOf, n0, cond_false, ct, impl_CellVal_eq N hx, impl_CellStamp_eq N hx, h2, bne_self_eq_false, Option.bind_some, cfg_text hx, impl_PlatOk_eq, dt h3]
theorem impl_cfgOf_no (N : Nat) {l : List Int} (hw : Words l) (h : ¬ Head l) : ∃ c, impl_cfgOf N l = some ((c, false), ()) := by
  have hx := hw.at 0
  unfold impl_cfgOf
  by_cases h1 : l.length = 0
  · have n0 : ((l.length : Int) == 0) = true := by rw [beq_iff_eq]; omega
    simp only [n0, cond_true]; exact ⟨_, rfl⟩
  have n0 : ((l.length : Int) == 0) = false := by rw [beq_eq_false_iff_ne]; omega
  simp (disch := omega) only [n0, cond_false, ct, impl_CellVal_eq N hx, impl_CellStamp_eq N hx, Option.bind_some, cfg_text hx, impl_PlatOk_eq]
  by_cases h2 : l.getD 0 0 / 4294967296 = 201115
  rotate_left
  · simp only [bne_iff_ne.2 h2, cond_true]; exact ⟨_, rfl⟩
  simp only [h2, bne_self_eq_false, cond_false]
  rw [df (fun h3 => h ⟨by omega, h2, h3⟩)]
  exact ⟨_, rfl⟩
theorem impl_PlatCheck_eq (N : Nat) {l : List Int} (hw : Words l) : impl_PlatCheck N l = some (if Whole l then (cfg (l.getD 0 0), true) else ((0, 0, 0), false), ()) := by
  unfold impl_PlatCheck
  by_cases h : Head l
  · simp only [impl_cfgOf_yes N hw h, Option.bind_some, Bool.not_true, cond_false, impl_size_eq N h.2.2]
    by_cases e4 : (l.length : Int) = size (cfg (l.getD 0 0))
    · rw [if_pos ⟨h.1, h.2.1, h.2.2, e4⟩, e4, bne_self_eq_false, cond_false]
    · rw [if_neg (fun h => e4 h.2.2.2), bne_iff_ne.2 e4, cond_true]
  · obtain ⟨c, hc⟩ := impl_cfgOf_no N hw h
    rw [if_neg (fun g => h ⟨g.1, g.2.1, g.2.2.1⟩)]
    simp only [hc, Option.bind_some, Bool.not_false, cond_true]
def wcfg (w : List Int) : Cfg := cfg (w.getD 0 0)
theorem Whole.plat {w : List Int} (h : Whole w) : Plat (wcfg w) := h.2.2.1
theorem Whole.len {w : List Int} (h : Whole w) : (w.length : Int) = 7 + 23 * (wcfg w).1 + 17 * (wcfg w).2.1 := h.2.2.2
theorem wf_words {l : List Int} (h : Wf (.sl .frz (.int .u64)) l) : Words l := fun x hx => wf_u64 (h.2 x hx)
/-- A digit. -/
def hexd (d : Nat) : UInt8 := if d < 10 then UInt8.ofNat (48 + d) else UInt8.ofNat (87 + d)
/-- A number in hexadecimals. -/
def hx (n : Nat) : List UInt8 := if h : n < 16 then [hexd n] else hx (n / 16) ++ [hexd (n % 16)]
  termination_by n
  decreasing_by omega
theorem hx_small {x : Nat} (h : x < 16) : hx x = [hexd x] := by rw [hx, dif_pos h]
theorem hx_big {x : Nat} (h : ¬ x < 16) : hx x = hx (x / 16) ++ [hexd (x % 16)] := by rw [hx, dif_neg h]
theorem byteAt_hex : ∀ (j : Nat), j < 16 → byteAt (ByteArray.mk #[48, 49, 50, 51, 52, 53, 54, 55, 56, 57, 97, 98, 99, 100, 101, 102]) j = (hexd j).toNat := by
  intro j h
  have : j = 0 ∨ j = 1 ∨ j = 2 ∨ j = 3 ∨ j = 4 ∨ j = 5 ∨ j = 6 ∨ j = 7 ∨ j = 8 ∨ j = 9 ∨ j = 10 ∨ j = 11 ∨ j = 12 ∨ j = 13 ∨ j = 14 ∨ j = 15 := by omega
  rcases this with rfl | rfl | rfl | rfl | rfl | rfl | rfl | rfl | rfl | rfl | rfl | rfl | rfl | rfl | rfl | rfl <;> rfl
theorem spec_l16Hex_eq (N : Nat) (x : Nat) : spec_l16Hex N (x : Int) = some (((hexd (x % 16)).toNat : Int), ()) := by
  have e : Int.tmod (x : Int) 16 = ((x % 16 : Nat) : Int) := by rw [Int.tmod_eq_emod_of_nonneg (by omega)]; omega
  have hm : x % 16 < 16 := Nat.mod_lt _ (by omega)
  have hs : ((ByteArray.mk #[48, 49, 50, 51, 52, 53, 54, 55, 56, 57, 97, 98, 99, 100, 101, 102]).size : Int) = 16 := rfl
  unfold spec_l16Hex
  rw [e, hs, decide_eq_true (by omega), cond_true, decide_eq_true (by omega), cond_true, Int.toNat_natCast, byteAt_hex _ hm]
theorem inBytes_one (c : UInt8) : inBytes [(c.toNat : Int)] = true := by
  have := c.toNat_lt
  show (bif decide ((0 : Int) ≤ (c.toNat : Int)) then bif decide ((c.toNat : Int) < 256) then allByte [] else false else false) = true
  rw [decide_eq_true (by omega), cond_true, decide_eq_true (by omega), cond_true]
  rfl
theorem mkBytes_one (c : UInt8) : mkBytes [(c.toNat : Int)] = ⟨[c].toArray⟩ := by
  unfold mkBytes
  simp
theorem hx_len : ∀ (d x : Nat), x < 16 ^ d → (hx x).length ≤ d + 1
  | 0, x, h => by
    have : x < 1 := h
    rw [hx_small (by omega)]; simp
  | d + 1, x, h => by
    by_cases c : x < 16
    · rw [hx_small c]; simp
    · rw [hx_big c, List.length_append]
      have := hx_len d (x / 16) (by rw [Nat.pow_succ] at h; omega)
      simp only [List.length_cons, List.length_nil]
      omega
theorem ba_app2 (a b : List UInt8) : (ByteArray.mk a.toArray) ++ (ByteArray.mk b.toArray) = ⟨(a ++ b).toArray⟩ := by
  apply ByteArray.ext
  simp [ByteArray.data_append]
theorem ba_size2 (a : List UInt8) : (ByteArray.mk a.toArray).size = a.length := by simp [ByteArray.size]
theorem spec_WireWord_loop (N : Nat) : ∀ (d k x : Nat) (r : List UInt8), x < 16 ^ d → d < k → d ≤ 16 → r.length + d ≤ 1000 → x < 18446744073709551616 →
    spec_WireWord.l0 N k (x : Int) ⟨(hexd (x % 16) :: r).toArray⟩ = some (⟨(hx x ++ r).toArray⟩, ())
  | 0, k, x, r, h, hk, _, hr, hx64 => by
    obtain ⟨k, rfl⟩ : ∃ j, k = j + 1 := ⟨k - 1, by omega⟩
    have : x < 1 := h
    obtain rfl : x = 0 := by omega
    rw [spec_WireWord.l0, cf (by omega), hx_small (by omega)]
    rfl
  | d + 1, k, x, r, h, hk, h16, hr, hx64 => by
    obtain ⟨k, rfl⟩ : ∃ j, k = j + 1 := ⟨k - 1, by omega⟩
    by_cases c : x < 16
    · rw [spec_WireWord.l0, cf (by omega), hx_small c, Nat.mod_eq_of_lt c]
      rfl
    · have e : IntKind.u64.wrap (Int.tdiv (x : Int) 16) = ((x / 16 : Nat) : Int) := by
        rw [show Int.tdiv (x : Int) 16 = ((x / 16 : Nat) : Int) by rw [Int.tdiv_eq_ediv_of_nonneg (by omega)]; omega]
        exact u64w (by omega) (by omega)
      have big : ∀ n : Nat, n ≤ 2000 → decide ((n : Int) > IntKind.i64.max) = false := fun n hn => decide_eq_false (by show ¬ ((n : Int) > 9223372036854775807); omega)
      rw [spec_WireWord.l0, ct (by omega), e, spec_l16Hex_eq]
      simp only [Option.bind_some]
      rw [inBytes_one, cond_true, mkBytes_one, ba_size2, ba_size2, big _ (by simp only [List.length_cons, List.length_nil]; omega), cond_false, ba_app2, hx_big c, List.append_assoc]
      exact spec_WireWord_loop N d k (x / 16) (hexd (x % 16) :: r) (by rw [Nat.pow_succ] at h; omega) (by omega) (by omega) (by simp only [List.length_cons]; omega) (by omega)
theorem spec_WireWord_eq (N : Nat) (hN : 100 < N) (x : Nat) (h : x < 18446744073709551616) : spec_WireWord N (x : Int) = some (⟨(hx x).toArray⟩, ()) := by
  unfold spec_WireWord
  rw [spec_l16Hex_eq]
  simp only [Option.bind_some]
  rw [inBytes_one, cond_true, mkBytes_one]
  have := spec_WireWord_loop N 16 N x [] h (by omega) (by omega) (by simp) h
  rw [List.append_nil] at this
  exact this
/-- So many words that are 0. -/
def zsL (n : Nat) : List UInt8 := if n = 0 then [] else 122 :: (Lib.decDigits n ++ [32])
/-- The text of words, behind so many that are 0. -/
def wireL : Nat → List Int → List UInt8
  | z, [] => zsL z ++ [101, 110, 100, 10]
  | z, x :: r => if x = 0 then wireL (z + 1) r else zsL z ++ (hx x.toNat ++ (32 :: wireL 0 r))
theorem dec_small {x : Nat} (h : x < 10) : Lib.decDigits x = [UInt8.ofNat (48 + x)] := by rw [Lib.decDigits, dif_pos h]
theorem dec_big {x : Nat} (h : ¬ x < 10) : Lib.decDigits x = Lib.decDigits (x / 10) ++ [UInt8.ofNat (48 + x % 10)] := by rw [Lib.decDigits, dif_neg h]
theorem dec_len : ∀ (d x : Nat), x < 10 ^ d → (Lib.decDigits x).length ≤ d + 1
  | 0, x, h => by
    have : x < 1 := h
    rw [dec_small (by omega)]; simp
  | d + 1, x, h => by
    by_cases c : x < 10
    · rw [dec_small c]; simp
    · rw [dec_big c, List.length_append]
      have := dec_len d (x / 10) (by rw [Nat.pow_succ] at h; omega)
      simp only [List.length_cons, List.length_nil]
      omega
theorem digit_byte {x : Nat} (h : x < 10) : IntKind.u8.wrap (IntKind.i64.wrap (48 + (x : Int))) = ((UInt8.ofNat (48 + x)).toNat : Int) := by
  have : x = 0 ∨ x = 1 ∨ x = 2 ∨ x = 3 ∨ x = 4 ∨ x = 5 ∨ x = 6 ∨ x = 7 ∨ x = 8 ∨ x = 9 := by omega
  rcases this with rfl | rfl | rfl | rfl | rfl | rfl | rfl | rfl | rfl | rfl <;> rfl
theorem big1 {n : Nat} (hn : n ≤ 4611686018427387904) : decide ((n : Int) > IntKind.i64.max) = false := decide_eq_false (by show ¬ ((n : Int) > 9223372036854775807); omega)
theorem spec_l20Dec_loop (N : Nat) : ∀ (d k x : Nat) (r : List UInt8), x < 10 ^ (d + 1) → d < k → d ≤ 17 → r.length + d ≤ 1000 → spec_l20Dec.l0 N k (x : Int) ⟨r.toArray⟩ = some (⟨(Lib.decDigits x ++ r).toArray⟩, ())
  | d, k, x, r, h, hk, h17, hr => by
    obtain ⟨k, rfl⟩ : ∃ j, k = j + 1 := ⟨k - 1, by omega⟩
    have hb : x < 1000000000000000000 := Nat.lt_of_lt_of_le h (by
      have : d = 0 ∨ d = 1 ∨ d = 2 ∨ d = 3 ∨ d = 4 ∨ d = 5 ∨ d = 6 ∨ d = 7 ∨ d = 8 ∨ d = 9 ∨ d = 10 ∨ d = 11 ∨ d = 12 ∨ d = 13 ∨ d = 14 ∨ d = 15 ∨ d = 16 ∨ d = 17 := by omega
      rcases this with rfl | rfl | rfl | rfl | rfl | rfl | rfl | rfl | rfl | rfl | rfl | rfl | rfl | rfl | rfl | rfl | rfl | rfl <;> decide)
    by_cases c : x < 10
    · rw [spec_l20Dec.l0, cf (by omega), digit_byte c, inBytes_one, cond_true, mkBytes_one, ba_size2, ba_size2, big1 (by simp only [List.length_cons, List.length_nil]; omega), cond_false, ba_app2, dec_small c]
    · obtain ⟨d, rfl⟩ : ∃ e, d = e + 1 := ⟨d - 1, by
        have : d ≠ 0 := by rintro rfl; have : x < 10 := h; omega
        omega⟩
      have e1 : Int.tmod (x : Int) 10 = ((x % 10 : Nat) : Int) := by rw [Int.tmod_eq_emod_of_nonneg (by omega)]; omega
      have e2 : IntKind.i64.wrap (Int.tdiv (x : Int) 10) = ((x / 10 : Nat) : Int) := by
        rw [show Int.tdiv (x : Int) 10 = ((x / 10 : Nat) : Int) by rw [Int.tdiv_eq_ediv_of_nonneg (by omega)]; omega]
        exact w64 (by omega) (by omega)
      rw [spec_l20Dec.l0, ct (by omega), e1, digit_byte (Nat.mod_lt _ (by omega)), inBytes_one, cond_true, mkBytes_one, ba_size2, ba_size2, big1 (by simp only [List.length_cons, List.length_nil]; omega), cond_false, ba_app2, e2, dec_big c, List.append_assoc]
      exact spec_l20Dec_loop N d k (x / 10) _ (by rw [Nat.pow_succ] at h; omega) (by omega) (by omega) (by simp only [List.length_append, List.length_cons, List.length_nil]; omega)
theorem spec_l20Dec_eq (N : Nat) (hN : 100 < N) (x : Nat) (h : x < 1000000) : spec_l20Dec N (x : Int) = some (⟨(Lib.decDigits x).toArray⟩, ()) := by
  unfold spec_l20Dec
  rw [cf (by omega), cf (by omega)]
  have := spec_l20Dec_loop N 5 N x [] h (by omega) (by omega) (by simp)
  rw [List.append_nil] at this
  exact this
theorem zsL_len {n : Nat} (h : n < 10000000) : (zsL n).length ≤ 10 := by
  unfold zsL
  split
  · simp
  · have := dec_len 7 n h
    simp only [List.length_cons, List.length_append, List.length_nil]
    omega
theorem spec_l16Zeros_eq (N : Nat) (hN : 100 < N) (x : Nat) (h : x < 1000000) : spec_l16Zeros N (x : Int) = some (⟨(zsL x).toArray⟩, ()) := by
  unfold spec_l16Zeros zsL
  by_cases c : x = 0
  · subst c; rfl
  · have hd := dec_len 6 x h
    have b1 : (ByteArray.mk #[122]) = ⟨[122].toArray⟩ := rfl
    have b2 : (ByteArray.mk #[32]) = ⟨[32].toArray⟩ := rfl
    rw [beq_eq_false_iff_ne.2 (show (x : Int) ≠ 0 by omega), cond_false, if_neg c, spec_l20Dec_eq N hN x h]
    simp only [Option.bind_some]
    rw [b1, b2, ba_app2, ba_app2, ba_size2, ba_size2, ba_size2, ba_size2, big1 (by simp only [List.length_cons, List.length_nil]; omega), cond_false, big1 (by simp only [List.length_append, List.length_cons, List.length_nil]; omega), cond_false]
    rfl
theorem spec_WireText_loop (N : Nat) (hN : 100 < N) {l : List Int} (hw : Words l) (hl : l.length ≤ 900000) : ∀ (d i k z : Nat) (s : List UInt8), i + d = l.length → d < k → z ≤ i → s.length ≤ 100 * i →
    spec_WireText.l0 N k l ⟨s.toArray⟩ (z : Int) (i : Int) = some (⟨(s ++ wireL z (l.drop i)).toArray⟩, ())
  | 0, i, k, z, s, e, hk, hz, hs => by
    obtain ⟨k, rfl⟩ : ∃ j, k = j + 1 := ⟨k - 1, by omega⟩
    have hzl := zsL_len (n := z) (by omega)
    have b1 : (ByteArray.mk #[101, 110, 100, 10]) = ⟨[101, 110, 100, 10].toArray⟩ := rfl
    rw [spec_WireText.l0, cf (by omega), spec_l16Zeros_eq N hN z (by omega)]
    simp only [Option.bind_some]
    rw [b1, ba_app2, ba_app2, ba_size2, ba_size2, ba_size2, ba_size2, big1 (by omega), cond_false, big1 (by simp only [List.length_append, List.length_cons, List.length_nil]; omega), cond_false, List.drop_eq_nil_of_le (by omega), wireL, List.append_assoc]
  | d + 1, i, k, z, s, e, hk, hz, hs => by
    obtain ⟨k, rfl⟩ : ∃ j, k = j + 1 := ⟨k - 1, by omega⟩
    have hi : i < l.length := by omega
    have hwi := hw.at i
    have hzl := zsL_len (n := z) (by omega)
    have b2 : (ByteArray.mk #[32]) = ⟨[32].toArray⟩ := rfl
    have ed : l.drop i = l.getD i 0 :: l.drop (i + 1) := by
      rw [List.drop_eq_getElem_cons hi]
      congr 1
      simp [List.getD, hi]
    rw [spec_WireText.l0, ct (by omega), Int.toNat_natCast]
    simp (disch := omega) only [bnd]
    rw [w64 (n := (z : Int) + 1) (by omega) (by omega), w64 (n := (i : Int) + 1) (by omega) (by omega), show (i : Int) + 1 = ((i + 1 : Nat) : Int) by omega, show (z : Int) + 1 = ((z + 1 : Nat) : Int) by omega, ed, wireL]
    generalize l.getD i 0 = x at hwi
    by_cases c : x = 0
    · rw [beq_iff_eq.2 c, cond_true, if_pos c]
      exact spec_WireText_loop N hN hw hl d (i + 1) k (z + 1) s (by omega) (by omega) (by omega) (by omega)
    · obtain ⟨n, rfl⟩ : ∃ n : Nat, x = n := ⟨x.toNat, by have := hwi.1; omega⟩
      have hn : n < 18446744073709551616 := by have := hwi.2; omega
      have hh := hx_len 16 n hn
      rw [beq_eq_false_iff_ne.2 c, cond_false, if_neg c, spec_l16Zeros_eq N hN z (by omega), spec_WireWord_eq N hN n hn, Int.toNat_natCast]
      simp only [Option.bind_some]
      rw [b2]
      simp only [ba_app2, ba_size2]
      rw [big1 (by omega), cond_false, big1 (by simp only [List.length_append]; omega), cond_false, big1 (by simp only [List.length_append, List.length_cons, List.length_nil]; omega), cond_false]
      have ih := spec_WireText_loop N hN hw hl d (i + 1) k 0 (s ++ zsL z ++ hx n ++ [32]) (by omega) (by omega) (by omega) (by simp only [List.length_append, List.length_cons, List.length_nil]; omega)
      refine Eq.trans ih ?_
      simp only [List.append_assoc, List.cons_append, List.nil_append]
def wireT (l : List Int) : List UInt8 := if Whole l then wireL 0 l else []
theorem whole_len {l : List Int} (h : Whole l) : l.length ≤ 300 ∧ l ≠ [] := by
  have h1 := h.len
  have h2 := h.plat
  unfold Plat at h2
  refine ⟨by omega, ?_⟩
  rintro rfl
  have := h.1
  simp at this
theorem spec_WireText_eq (N : Nat) (hN : 1000000 < N) {l : List Int} (hw : Words l) : spec_WireText N l = some (⟨(wireT l).toArray⟩, ()) := by
  unfold spec_WireText wireT
  rw [spec_PlatCheck_eq N hw]
  simp only [Option.bind_some]
  by_cases h : Whole l
  · have hl := (whole_len h).1
    rw [if_pos h, if_pos h, Bool.not_true, cond_false]
    have := spec_WireText_loop N (by omega) hw (by omega) l.length 0 N 0 [] (by omega) (by omega) (by omega) (by simp)
    rw [List.nil_append, List.drop_zero] at this
    exact this
  · rw [if_neg h, if_neg h]; rfl
theorem wireL_split (m : Nat) (r : List Int) (h : r = [] ∨ r.getD 0 0 ≠ 0) : wireL m r = zsL m ++ wireL 0 r := by
  cases r with
  | nil => rw [wireL, wireL]; rfl
  | cons x r =>
    have hx : x ≠ 0 := by
      rcases h with h | h
      · cases h
      · exact h
    rw [wireL, wireL, if_neg hx, if_neg hx]
    rfl
theorem drop_cons0 {l : List Int} {i : Nat} (hi : i < l.length) : l.drop i = l.getD i 0 :: l.drop (i + 1) := by
  rw [List.drop_eq_getElem_cons hi]
  congr 1
  simp [List.getD, hi]
theorem lawWireTextSpec (y0 : List Int) (w0 : Wf (.sl .frz (.int .u64)) y0) (hl : y0.length ≤ 1048576) : Words y0 ∧ spec_WireText N0 y0 = some (⟨(wireT y0).toArray⟩, ()) ∧ laws_toUint64S N0 y0 = some ((), y0) ∧ laws_eqUint64S N0 y0 y0 = some (true, ()) ∧
    (∀ m r, (r = [] ∨ r.getD 0 0 ≠ 0) → wireL m r = zsL m ++ wireL 0 r) ∧ (∀ (l : List Int) i, i < l.length → l.drop i = l.getD i 0 :: l.drop (i + 1)) ∧ (∀ d x, x < 16 ^ d → (hx x).length ≤ d + 1) ∧ (∀ n, n < 10000000 → (zsL n).length ≤ 10) ∧
    ∃ c b, impl_PlatCheck N0 y0 = some ((c, b), ()) ∧ (b = true → wireT y0 = wireL 0 y0 ∧ y0.length ≤ 300 ∧ y0 ≠ []) ∧ (b = false → wireT y0 = []) := by
  have hw := wf_words w0
  have hs : Short y0 := by unfold Short; omega
  refine ⟨hw, spec_WireText_eq N0 (by unfold N0; decide) hw, toUint64S_eq N0 hN0 y0 hs, eqUint64S_eq N0 hN0 y0 hs, wireL_split, fun l i h => drop_cons0 h, hx_len, fun n h => zsL_len h, ?_⟩
  rw [impl_PlatCheck_eq N0 hw]
  unfold wireT
  by_cases h : Whole y0
  · rw [if_pos h, if_pos h]
    exact ⟨_, _, rfl, fun _ => ⟨rfl, (whole_len h).1, (whole_len h).2⟩, fun q => by cases q⟩
  · rw [if_neg h, if_neg h]
    exact ⟨_, _, rfl, fun q => (by cases q), fun _ => rfl⟩
end Go.Proofs.YtdkinmgpclbedaaDoor.Pv
