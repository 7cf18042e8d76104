/- The plain law of FnTidyMap, part 1: what the functions compute, over numbers and lists. -/
import Derived.Test.YtdkinmgpclbedaaDoorTqFa
import Derived.Test.YtdkinmgpclbedaaDoorPvRow
namespace Go.Proofs.YtdkinmgpclbedaaDoor.Pv
open Go Go.Pv Go.Proofs
set_option linter.unusedVariables false
set_option linter.unusedSimpArgs false
theorem w64 {n : Int} (h : -9223372036854775808 ≤ n) (h2 : n ≤ 9223372036854775807) : IntKind.i64.wrap n = n := by rw [IntKind.wrap_i64]; omega
theorem tm {a b : Int} (h : 0 ≤ a) : Int.tmod a b = a % b := Int.tmod_eq_emod_of_nonneg h
theorem td {a b : Int} (h : 0 ≤ a) : Int.tdiv a b = a / b := Int.tdiv_eq_ediv_of_nonneg h
theorem dt {p : Prop} [Decidable p] (h : p) : decide p = true := decide_eq_true h
theorem df {p : Prop} [Decidable p] (h : ¬ p) : decide p = false := decide_eq_false h
theorem ct {α : Type _} {p : Prop} [Decidable p] {a b : α} (h : p) : cond (decide p) a b = a := by rw [decide_eq_true h]; rfl
theorem cf {α : Type _} {p : Prop} [Decidable p] {a b : α} (h : ¬ p) : cond (decide p) a b = b := by rw [decide_eq_false h]; rfl
theorem cnd {α : Type _} {p : Prop} [Decidable p] {a b : α} : cond (decide p) a b = if p then a else b := by by_cases h : p <;> simp [h]
/-- The test that a place lies in a row. -/
theorem bnd {α : Type _} {i : Int} {n : Nat} {a b : α} (h : 0 ≤ i) (h2 : i < (n : Int)) : cond (cond (decide (0 ≤ i)) (decide (i < (n : Int))) false) a b = a := by rw [dt h, dt h2]; rfl
theorem getD_lt {α : Type _} {l : List α} {i : Nat} {d : α} (h : i < l.length) : l.getD i d = l[i] := by simp [h]
theorem drop_at {α : Type _} {l : List α} {i : Nat} (d : α) (h : i < l.length) : l.drop i = l.getD i d :: l.drop (i + 1) := by
  rw [List.drop_eq_getElem_cons h, getD_lt h]
theorem wi {i : Nat} (h : i < 4611686018427387904) : IntKind.i64.wrap ((i : Int) + 1) = ((i + 1 : Nat) : Int) := by rw [w64 (by omega) (by omega)]; omega
theorem fuel {n k : Nat} (h : n < k) : ∃ j, k = j + 1 := ⟨k - 1, by omega⟩
/-- A loop over the places below a length, with a state. -/
theorem loop_idx {A : Type _} {R : Type _} (len : Nat) (L : Nat → Int → A → R) (F : Nat → A → R) (I : Nat → A → Prop)
    (hend : ∀ k a, I len a → L (k + 1) (len : Int) a = F len a)
    (hstep : ∀ k i a, i < len → I i a → (∀ a', I (i + 1) a' → L k ((i : Int) + 1) a' = F (i + 1) a') → L (k + 1) (i : Int) a = F i a) :
    ∀ n k i a, i + n = len → n < k → I i a → L k (i : Int) a = F i a := by
  intro n
  induction n with
  | zero =>
    intro k i a h1 h2 h3
    obtain ⟨k, rfl⟩ := fuel h2
    obtain rfl : i = len := by omega
    exact hend k a h3
  | succ n ih =>
    intro k i a h1 h2 h3
    obtain ⟨k, rfl⟩ := fuel h2
    exact hstep k i a (by omega) h3 (fun a' h => by have := ih k (i + 1) a' (by omega) (by omega) h; rwa [Int.natCast_add] at this)
/-- A loop over a list by its places, with a state; what it gives, told by recursion over the list. -/
theorem loop_list {X : Type _} {A : Type _} {R : Type _} (d : X) (l : List X) (L : Nat → Int → A → R) (F : List X → A → R) (I : Nat → A → Prop)
    (hend : ∀ k a, I l.length a → L (k + 1) (l.length : Int) a = F [] a)
    (hstep : ∀ k i a x r, i < l.length → l.getD i d = x → I i a → (∀ a', I (i + 1) a' → L k ((i : Int) + 1) a' = F r a') → L (k + 1) (i : Int) a = F (x :: r) a)
    (K : Nat) (hK : l.length < K) (a : A) (ha : I 0 a) : L K 0 a = F l a := by
  have := loop_idx l.length L (fun i a => F (l.drop i) a) I
    (fun k a h => by rw [hend k a h, List.drop_eq_nil_of_le (Nat.le_refl _)])
    (fun k i a h1 h2 h3 => by
      rw [drop_at d h1]
      exact hstep k i a _ _ h1 rfl h2 h3) l.length K 0 a (by omega) hK ha
  simpa using this
/-- Lists that are short enough for every count. -/
def Short {α : Type _} (l : List α) : Prop := l.length ≤ 4194304
abbrev Fuel (N : Nat) : Prop := 1099511627776 < N
/-- The fuel with which the laws are told. -/
def N0 : Nat := 1099511627777
theorem hN0 : Fuel N0 := by unfold Fuel N0; omega
theorem wf_u8 {x : Int} (h : (Lit.int .u8 x).wf = true) : 0 ≤ x ∧ x < 256 := by
  simp [Lit.wf, IntKind.min, IntKind.max, IntKind.signed, IntKind.bits] at h
  omega
abbrev Cfg := Int × Int × Int
def W64 (x : Int) : Prop := 0 ≤ x ∧ x < 18446744073709551616
theorem impl_within_eq (N : Nat) (x lo hi : Int) : impl_within N x lo hi = some (decide (lo ≤ x ∧ x ≤ hi), ()) := by
  unfold impl_within
  by_cases h : lo ≤ x
  · by_cases h2 : x ≤ hi <;> simp [h, h2]
  · simp [h]
def Plat (a : Cfg) : Prop := 1 ≤ a.1 ∧ a.1 ≤ 4 ∧ 1 ≤ a.2.1 ∧ a.2.1 ≤ 6 ∧ 1 ≤ a.2.2 ∧ a.2.2 ≤ 20
instance (a : Cfg) : Decidable (Plat a) := inferInstanceAs (Decidable (_ ∧ _))
theorem spec_PlatOk_eq (N : Nat) (a : Cfg) : spec_PlatOk N a = some (decide (Plat a), ()) := by
  simp only [spec_PlatOk, cnd, Plat, ge_iff_le]
  repeat' split
  all_goals (congr 2; first | exact decide_eq_decide.2 (by omega) | exact (df (by omega)).symm | exact (dt (by omega)).symm)
def size (a : Cfg) : Int := 7 + 23 * a.1 + 17 * a.2.1
abbrev Words (l : List Int) : Prop := ∀ x ∈ l, W64 x
theorem Words.at {l : List Int} (h : Words l) (i : Nat) : W64 (l.getD i 0) := by
  rw [List.getD_eq_getElem?_getD]
  cases hi : l[i]? with
  | none => exact ⟨by decide, by decide⟩
  | some x => exact h x (List.mem_of_getElem? hi)
def Codes (i : Nat) (m : List Int) : Prop := m.length = 14 ∧ ∀ j, 0 ≤ m.getD j 0 ∧ m.getD j 0 ≤ i
theorem Codes.mono {i : Nat} {m : List Int} (h : Codes i m) : Codes (i + 1) m := ⟨h.1, fun j => by have := h.2 j; omega⟩
abbrev Gst := Bool × Int × Int × Bool × (Int × Int × Int × Int) × Int × Int × Int × Int × Int × Int × Int × Bool × Int × Int × Int × Int × Int × List Int × List Int × Int × Int × Int
abbrev Wld := List Int × List Gst
def gSnap (g : Gst) : List Int := g.2.2.2.2.2.2.2.2.2.2.2.2.2.2.2.2.2.2.1
def gPlan (g : Gst) : List Int := g.2.2.2.2.2.2.2.2.2.2.2.2.2.2.2.2.2.2.2.1
/-- How much a guest and a world hold. -/
def szG (g : Gst) : Int := (gSnap g).length + (gPlan g).length
def szGs : List Gst → Int
  | [] => 0
  | g :: r => szG g + szGs r
theorem szGs_ge : ∀ l : List Gst, 0 ≤ szGs l
  | [] => Int.le_refl _
  | g :: r => by have := szGs_ge r; simp only [szGs, szG]; omega
def szW (w : Wld) : Int := w.1.length + (w.2.length + szGs w.2)
/-- All lists of a guest, of a world, are short. -/
def GShort (g : Gst) : Prop := Short (gSnap g) ∧ Short (gPlan g)
def WShort (w : Wld) : Prop := Short w.1 ∧ Short w.2 ∧ ∀ g ∈ w.2, GShort g
theorem szGs_mem : ∀ (l : List Gst) (g : Gst), g ∈ l → szG g ≤ szGs l
  | [], g, h => by simp at h
  | x :: r, g, h => by
    have := szGs_ge r
    rcases List.mem_cons.1 h with rfl | h
    · simp only [szGs]; omega
    · have := szGs_mem r g h
      have : 0 ≤ szG x := by unfold szG; omega
      simp only [szGs]; omega
theorem WShort.of {w : Wld} (h : szW w ≤ 1048576) : WShort w := by
  have h1 := szGs_ge w.2
  unfold szW at h
  refine ⟨by unfold Short; omega, by unfold Short; omega, fun g hg => ?_⟩
  have := szGs_mem w.2 g hg
  unfold szG at this
  exact ⟨by unfold Short; omega, by unfold Short; omega⟩
abbrev Bk := Int × List Int × (List Int × List Int × List Int × List Int) × List Int × List Int × List Int
def I64 (x : Int) : Prop := -9223372036854775808 ≤ x ∧ x ≤ 9223372036854775807
abbrev Ints (l : List Int) : Prop := ∀ x ∈ l, I64 x
theorem Ints.at {l : List Int} (h : Ints l) (i : Nat) : I64 (l.getD i 0) := by
  rw [List.getD_eq_getElem?_getD]
  cases hi : l[i]? with
  | none => exact ⟨by decide, by decide⟩
  | some x => exact h x (List.mem_of_getElem? hi)
def pg (b : Bk) (p : Nat) : Int := b.2.1.getD p 0
def ow (b : Bk) (u : Nat) : Int := b.2.2.2.1.getD u 0
def inn (b : Bk) (i : Nat) : Int := b.2.2.2.2.1.getD i 0
def ep (b : Bk) (i : Nat) : Int := b.2.2.2.2.2.getD i 0
def hd (b : Bk) : Nat → List Int
  | 0 => b.2.2.1.1
  | 1 => b.2.2.1.2.1
  | 2 => b.2.2.1.2.2.1
  | _ => b.2.2.1.2.2.2
theorem fold_pg (b : Bk) (i : Nat) : b.2.1.getD i 0 = pg b i := (rfl)
theorem fold_ow (b : Bk) (i : Nat) : b.2.2.2.1.getD i 0 = ow b i := (rfl)
theorem fold_in (b : Bk) (i : Nat) : b.2.2.2.2.1.getD i 0 = inn b i := (rfl)
theorem fold_ep (b : Bk) (i : Nat) : b.2.2.2.2.2.getD i 0 = ep b i := (rfl)
def np (b : Bk) : Nat := b.2.1.length
def nu (b : Bk) : Nat := b.2.2.2.1.length
/-- All numbers are numbers of Go. -/
def Bi (b : Bk) : Prop := I64 b.1 ∧ Ints b.2.1 ∧ (∀ k, Ints (hd b k)) ∧ Ints b.2.2.2.1 ∧ Ints b.2.2.2.2.1 ∧ Ints b.2.2.2.2.2
def Bshort (b : Bk) : Prop := Short b.2.1 ∧ (∀ k, Short (hd b k)) ∧ Short b.2.2.2.1 ∧ Short b.2.2.2.2.1 ∧ Short b.2.2.2.2.2
theorem cndb {α : Type _} {x y : Int} {a b : α} : cond (x == y) a b = if x = y then a else b := by
  by_cases h : x = y
  · rw [if_pos h, beq_iff_eq.2 h]; rfl
  · rw [if_neg h, beq_eq_false_iff_ne.2 h]; rfl
theorem cndn {α : Type _} {x y : Int} {a b : α} : cond (x != y) a b = if x = y then b else a := by
  by_cases h : x = y
  · rw [if_pos h, bne_eq_false_iff_eq.2 h]; rfl
  · rw [if_neg h, bne_iff_ne.2 h]; rfl
/-- Does it hold at m places from i on? -/
def allB (P : Nat → Bool) : Nat → Nat → Bool
  | 0, _ => true
  | m + 1, i => P i && allB P m (i + 1)
theorem allB_iff (P : Nat → Bool) : ∀ m i, allB P m i = true ↔ ∀ j, i ≤ j → j < i + m → P j = true
  | 0, i => by simp [allB]; intro j h1 h2; omega
  | m + 1, i => by
    rw [allB, Bool.and_eq_true, allB_iff P m (i + 1)]
    constructor
    · intro ⟨h1, h2⟩ j h3 h4
      by_cases e : j = i
      · rw [e]; exact h1
      · exact h2 j (by omega) (by omega)
    · intro h
      exact ⟨h i (Nat.le_refl _) (by omega), fun j h1 h2 => h j (by omega) (by omega)⟩
/-- A loop that ends at the first place where something does not hold. -/
theorem loop_all (n m : Nat) (L : Nat → Int → Option (Bool × Unit)) (P : Nat → Bool) (r : Bool) (hend : ∀ k, m < k → L k n = some (r, ()))
    (hstep : ∀ k i, i < n → L (k + 1) (i : Int) = cond (P i) (L k ((i : Int) + 1)) (some (false, ()))) :
    ∀ d i k, i + d = n → d + m < k → L k (i : Int) = some (allB P d i && r, ()) := by
  intro d
  induction d with
  | zero =>
    intro i k h1 h2
    obtain rfl : i = n := by omega
    rw [hend k (by omega)]; rfl
  | succ d ih =>
    intro i k h1 h2
    obtain ⟨k, rfl⟩ : ∃ j, k = j + 1 := ⟨k - 1, by omega⟩
    rw [hstep k i (by omega), allB]
    cases hp : P i
    · rfl
    · have := ih (i + 1) k (by omega) (by omega)
      rw [cond_true, Bool.true_and]
      rwa [Int.natCast_add] at this
/-- The same, with what follows at the end; a round takes c of the fuel. -/
theorem loop_allk (c : Nat) (hc : 0 < c) {R : Type _} (z : R) (n : Nat) (L : Nat → Int → R) (P : Nat → Bool) (E : Nat → R) (hend : ∀ k, L (k + 1) n = E k)
    (hstep : ∀ k i, i < n → L (k + c) (i : Int) = cond (P i) (L k ((i : Int) + 1)) z) :
    ∀ d i k, i + d = n → L (k + d * c + 1) (i : Int) = cond (allB P d i) (E k) z := by
  intro d
  induction d with
  | zero =>
    intro i k h1
    obtain rfl : i = n := by omega
    simp only [Nat.zero_mul, Nat.add_zero, allB, cond_true]
    exact hend k
  | succ d ih =>
    intro i k h1
    have := hstep (k + d * c + 1) i (by omega)
    rw [show k + (d + 1) * c + 1 = k + d * c + 1 + c by rw [Nat.succ_mul]; omega, this, allB]
    cases hp : P i
    · rfl
    · have := ih (i + 1) k (by omega)
      rw [cond_true, Bool.true_and]
      rwa [Int.natCast_add] at this
def slotB (b : Bk) (i : Nat) : Bool := decide (0 ≤ inn b i ∧ inn b i ≤ 2 ∧ 0 ≤ ep b i ∧ ep b i ≤ 4095 ∧ (ep b i = 0 → inn b i = 0))
def ownB (b : Bk) (u : Nat) : Bool := decide (0 ≤ ow b u ∧ ow b u ≤ b.1 ∧ (0 < ow b u → inn b (ow b u - 1).toNat ≠ 0))
def Sizes (b : Bk) : Prop := 1 ≤ b.1 ∧ b.1 ≤ 4 ∧ (b.2.2.2.2.1.length : Int) = b.1 ∧ (b.2.2.2.2.2.length : Int) = b.1 ∧ 1 ≤ np b ∧ np b ≤ 6 ∧ nu b = np b * 8
instance (b : Bk) : Decidable (Sizes b) := inferInstanceAs (Decidable (_ ∧ _))
def slotsB (b : Bk) : Bool := decide (Sizes b) && (allB (slotB b) b.1.toNat 0 && allB (ownB b) (nu b) 0)
theorem spec_l3Slots_eq (N : Nat) (hN : Fuel N) (b : Bk) : spec_l3Slots N b = some (slotsB b, ()) := by
  have hlt : (b.2.1.length : Int) * 8 < 9223372036854775807 ∨ 6 < (b.2.1.length : Int) := by omega
  by_cases hs : Sizes b
  rotate_left
  · rw [slotsB, df hs]
    unfold Sizes np nu at hs
    simp only [spec_l3Slots, cnd, cndn]
    repeat' split
    all_goals first | rfl | skip
    rw [w64 (by omega) (by omega)] at *
    exfalso
    omega
  have hs' := hs
  unfold Sizes np nu at hs'
  rw [slotsB, dt hs, Bool.true_and]
  have e1 : ((b.2.2.2.2.1.length : Int) != b.1) = false := bne_eq_false_iff_eq.2 (by omega)
  have e2 : ((b.2.2.2.2.2.length : Int) != b.1) = false := bne_eq_false_iff_eq.2 (by omega)
  have e3 : ((b.2.2.2.1.length : Int) != IntKind.i64.wrap ((b.2.1.length : Int) * 8)) = false := by rw [w64 (by omega) (by omega)]; exact bne_eq_false_iff_eq.2 (by omega)
  simp (disch := omega) only [spec_l3Slots, cf, e1, e2, e3, cond_false]
  have l1 := loop_all (nu b) 0 (fun k i => spec_l3Slots.l1 N k i b) (ownB b) true
    (fun k hk => by
      obtain ⟨k, rfl⟩ := fuel hk
      simp (disch := (unfold nu; omega)) only [spec_l3Slots.l1, cf])
    (fun k i hi => by
      have hi' : i < b.2.2.2.1.length := hi
      simp (disch := omega) only [spec_l3Slots.l1, ct, bnd, w64, Int.toNat_natCast, fold_ow]
      rw [ownB, cnd (p := _ ∧ _)]
      by_cases c : 0 ≤ ow b i ∧ ow b i ≤ b.1
      · simp (disch := omega) only [cf]
        by_cases c2 : ow b i > 0
        · simp (disch := omega) only [ct, w64, bnd, cndb, fold_in]
          by_cases c3 : inn b (ow b i - 1).toNat = 0
          · rw [if_pos c3, if_neg (fun h => h.2.2 c2 c3)]
          · rw [if_neg c3, if_pos ⟨c.1, c.2, fun _ => c3⟩]
        · rw [cf c2, if_pos ⟨c.1, c.2, fun h => (c2 h).elim⟩]
      · rw [if_neg (fun h => c ⟨h.1, h.2.1⟩)]
        simp only [cnd]
        repeat' split
        all_goals first | rfl | (exfalso; omega))
  have l0 := loop_all b.1.toNat (nu b + 1) (fun k i => spec_l3Slots.l0 N k i b) (slotB b) (allB (ownB b) (nu b) 0)
    (fun k hk => by
      obtain ⟨k, rfl⟩ : ∃ j, k = j + 1 := ⟨k - 1, by omega⟩
      have := l1 (nu b) 0 k (by omega) (by omega)
      rw [Bool.and_true] at this
      simp (disch := omega) only [spec_l3Slots.l0, cf]
      exact this)
    (fun k i hi => by
      simp (disch := omega) only [spec_l3Slots.l0, ct, bnd, w64, Int.toNat_natCast, fold_in, fold_ep]
      rw [slotB]
      simp only [cnd, cndb]
      repeat' split
      all_goals first | rfl | (exfalso; omega))
  have hnu : nu b = b.2.2.2.1.length := rfl
  have := l0 b.1.toNat 0 N (by omega) (by omega)
  exact this
theorem spec_l3Kind_eq (N : Nat) (s : Int) : spec_l3Kind N s = some (if 1 ≤ s ∧ s ≤ 4 then s - 1 else -1, ()) := by
  unfold spec_l3Kind
  by_cases h : 1 ≤ s ∧ s ≤ 4
  · simp (disch := omega) only [cf, w64, if_pos h]
  · rw [if_neg h]
    simp only [cnd]
    repeat' split
    all_goals first | rfl | (exfalso; omega)
def usz (k : Nat) : Nat := 2 ^ k
theorem usz_vals {k : Nat} (h : k < 4) : usz k = 1 ∧ k = 0 ∨ usz k = 2 ∧ k = 1 ∨ usz k = 4 ∧ k = 2 ∨ usz k = 8 ∧ k = 3 := by
  match k, h with
  | 0, _ => exact .inl ⟨rfl, rfl⟩
  | 1, _ => exact .inr (.inl ⟨rfl, rfl⟩)
  | 2, _ => exact .inr (.inr (.inl ⟨rfl, rfl⟩))
  | 3, _ => exact .inr (.inr (.inr ⟨rfl, rfl⟩))
theorem spec_l3Size_eq (N : Nat) {k : Nat} (h : k < 4) : spec_l3Size N k = some ((usz k : Int), ()) := by
  match k, h with
  | 0, _ => rfl
  | 1, _ => rfl
  | 2, _ => rfl
  | 3, _ => rfl
theorem impl_unitsOf_eq (N : Nat) {k : Nat} (h : k < 4) : impl_unitsOf N k = some ((usz k : Int), ()) := by
  match k, h with
  | 0, _ => rfl
  | 1, _ => rfl
  | 2, _ => rfl
  | 3, _ => rfl
/-- May that unit stand in the list of a kind? -/
def memB (b : Bk) (k : Nat) (x : Int) : Bool := decide (0 ≤ x ∧ x < nu b ∧ pg b (x / 8).toNat = k + 1 ∧ x % (usz k : Int) = 0)
def listB (b : Bk) (k : Nat) : Bool := decide ((hd b k).length ≤ nu b) && (hd b k).all (memB b k)
theorem allB_list (l : List Int) (P : Int → Bool) : ∀ m i, i + m = l.length → allB (fun j => P (l.getD j 0)) m i = (l.drop i).all P
  | 0, i, h => by rw [List.drop_eq_nil_of_le (by omega)]; rfl
  | m + 1, i, h => by rw [allB, allB_list l P m (i + 1) (by omega), drop_at 0 (show i < l.length by omega), List.all_cons]
def listsB (b : Bk) : Bool := allB (listB b) 4 0
theorem spec_l3Lists_step (N : Nat) (b : Bk) (hs : Sizes b) (kk : Nat) (hkk : kk < 4) (l : List Int) (i k : Nat) (hi : i < l.length) (x : Int) (hx : l.getD i 0 = x) : (bif (bif decide (0 ≤ (i : Int)) then decide ((i : Int) < (l.length : Int)) else false) then (bif decide (l.getD (i : Int).toNat 0 < 0) then some (false, ()) else (bif decide (l.getD (i : Int).toNat 0 ≥ (b.2.2.2.1.length : Int)) then some (false, ()) else (bif (bif decide (0 ≤ IntKind.i64.wrap (Int.tdiv (l.getD (i : Int).toNat 0) 8)) then decide (IntKind.i64.wrap (Int.tdiv (l.getD (i : Int).toNat 0) 8) < (b.2.1.length : Int)) else false) then (spec_l3Kind N (b.2.1.getD (IntKind.i64.wrap (Int.tdiv (l.getD (i : Int).toNat 0) 8)).toNat 0)).bind fun u31 => (bif (u31.1 != (kk : Int)) then some (false, ()) else (spec_l3Size N kk).bind fun u32 => (bif decide (u32.1 = 0) then none else (bif decide (Int.tmod (l.getD (i : Int).toNat 0) u32.1 > 0) then some (false, ()) else spec_l3Lists.l2 N (k + 1) kk i b))) else none))) else none) = cond (memB b kk x) (spec_l3Lists.l2 N (k + 1) kk i b) (some (false, ())) := by
  unfold Sizes np nu at hs
  have hsz := spec_l3Size_eq N hkk
  simp (disch := omega) only [bnd, Int.toNat_natCast, hx]
  rw [memB, cnd (p := _ ∧ _)]
  unfold nu
  by_cases c1 : 0 ≤ x ∧ x < (b.2.2.2.1.length : Int)
  rotate_left
  · rw [if_neg (fun h => c1 ⟨h.1, h.2.1⟩)]
    simp only [cnd]
    repeat' split
    all_goals first | rfl | (exfalso; omega)
  simp (disch := omega) only [cf, td, w64, bnd, spec_l3Kind_eq, hsz, Option.bind_some, fold_pg, tm]
  generalize pg b (x / 8).toNat = s
  by_cases c2 : s = (kk : Int) + 1
  rotate_left
  · rw [cndn, if_neg (by split <;> omega), if_neg (fun h => c2 h.2.2.1)]
  rw [cndn, if_pos (by rw [if_pos (by omega)]; omega)]
  have hu : (usz kk : Int) ≠ 0 := by rcases usz_vals hkk with ⟨hu, hk⟩ | ⟨hu, hk⟩ | ⟨hu, hk⟩ | ⟨hu, hk⟩ <;> omega
  rw [cf hu]
  by_cases c3 : x % (usz kk : Int) = 0
  · rw [cf (by omega), if_pos ⟨c1.1, c1.2, c2, c3⟩]
  · have := Int.emod_nonneg x hu
    rw [ct (by omega), if_neg (fun h => c3 h.2.2.2)]
theorem spec_l3Lists_eq (N : Nat) (hN : Fuel N) (b : Bk) (hs : Sizes b) (hb : Bshort b) : spec_l3Lists N b = some (listsB b, ()) := by
  have hs' := hs
  unfold Sizes np nu at hs'
  have inner : ∀ (kk : Nat), kk < 4 → ∀ (k : Nat), spec_l3Lists.l1 N (k + (hd b kk).length * 2 + 1) kk 0 b = cond ((hd b kk).all (memB b kk)) (spec_l3Lists.l3 N k kk b) (some (false, ())) := by
    intro kk hkk k
    have := loop_allk 2 (by decide) (some (false, ())) (hd b kk).length (fun k i => spec_l3Lists.l1 N k kk i b) (fun j => memB b kk ((hd b kk).getD j 0)) (fun k => spec_l3Lists.l3 N k kk b)
      (fun k => by
        rcases usz_vals hkk with ⟨hu, hk⟩ | ⟨hu, hk⟩ | ⟨hu, hk⟩ | ⟨hu, hk⟩ <;> subst hk <;>
          simp (disch := first | omega | (simp only [hd]; omega)) only [spec_l3Lists.l1, ct, cf])
      (fun k i hi => by
        have st := spec_l3Lists_step N b hs kk hkk (hd b kk) i k hi _ rfl
        have e2 : spec_l3Lists.l2 N (k + 1) kk i b = spec_l3Lists.l1 N k kk ((i : Int) + 1) b := by
          rw [spec_l3Lists.l2, w64 (by omega) (by have := hb.2.1 kk; unfold Short at this; omega)]
        rw [← e2, ← st]
        rcases usz_vals hkk with ⟨hu, hk⟩ | ⟨hu, hk⟩ | ⟨hu, hk⟩ | ⟨hu, hk⟩ <;> subst hk <;> simp only [hd] at hi ⊢ <;>
          simp (disch := first | omega | (simp only [hd]; omega)) only [spec_l3Lists.l1, ct, cf])
      (hd b kk).length 0 k (by omega)
    rw [allB_list _ _ _ _ (by omega), List.drop_zero] at this
    exact this
  have outer : ∀ (d kk : Nat), kk + d = 4 → ∀ k, 40000000 * d < k → spec_l3Lists.l0 N k kk b = some (allB (listB b) d kk, ()) := by
    intro d
    induction d with
    | zero =>
      intro kk h k hk
      obtain ⟨k, rfl⟩ := fuel hk
      simp (disch := omega) only [spec_l3Lists.l0, cf, allB]
    | succ d ih =>
      intro kk h k hk
      have hkk : kk < 4 := by omega
      have hl := hb.2.1 kk
      unfold Short at hl
      obtain ⟨k, rfl⟩ : ∃ j, k = j + 1 + (hd b kk).length * 2 + 1 + 1 := ⟨k - (hd b kk).length * 2 - 3, by omega⟩
      have h1 := inner kk hkk (k + 1)
      have h2 : spec_l3Lists.l3 N (k + 1) kk b = spec_l3Lists.l0 N k ((kk + 1 : Nat) : Int) b := by
        rw [spec_l3Lists.l3, w64 (by omega) (by omega)]; rfl
      rw [h2, ih (kk + 1) (by omega) k (by omega)] at h1
      have goal : spec_l3Lists.l0 N (k + 1 + (hd b kk).length * 2 + 1 + 1) kk b = cond (decide (((hd b kk).length : Int) > (b.2.2.2.1.length : Int))) (some (false, ())) (spec_l3Lists.l1 N (k + 1 + (hd b kk).length * 2 + 1) kk 0 b) := by
        rcases usz_vals hkk with ⟨hu, hk⟩ | ⟨hu, hk⟩ | ⟨hu, hk⟩ | ⟨hu, hk⟩ <;> subst hk <;>
          simp (disch := omega) only [spec_l3Lists.l0, ct, cf, hd]
      rw [goal, h1, allB, listB, cnd]
      unfold nu
      by_cases c : ((hd b kk).length : Int) > (b.2.2.2.1.length : Int)
      · rw [if_pos c, df (by omega)]; rfl
      · rw [if_neg c, dt (by omega), Bool.true_and]
        cases (hd b kk).all (memB b kk) <;> rfl
  have := outer 4 0 rfl N (by omega)
  exact this
noncomputable def tf (p : Prop) : Bool := @decide p (Classical.propDecidable p)
theorem tf_t {p : Prop} (h : p) : tf p = true := @decide_eq_true p (Classical.propDecidable p) h
theorem tf_f {p : Prop} (h : ¬ p) : tf p = false := @decide_eq_false p (Classical.propDecidable p) h
theorem tf_iff {p : Prop} : tf p = true ↔ p :=
  ⟨fun h => Classical.byContradiction fun c => (by rw [tf_f c] at h; cases h), tf_t⟩
theorem tf_eq {p : Prop} {b : Bool} (h : b = true ↔ p) : b = tf p := by
  by_cases c : p
  · rw [tf_t c, h.2 c]
  · rw [tf_f c]
    cases b
    · rfl
    · exact (c (h.1 rfl)).elim
theorem tf_congr {p q : Prop} (h : p ↔ q) : tf p = tf q := by rw [propext h]
/-- No unit of a page from one on has an owner. -/
def FreeP (b : Bk) (p fr : Nat) : Prop := ∀ u, fr ≤ u → u < 8 → ow b (8 * p + u) = 0
def Owners (b : Bk) : Prop := ∀ u, u < nu b → 0 ≤ ow b u
def RoomP (b : Bk) (p k u : Nat) : Prop :=
  (u % usz k ≠ 0 → ow b (8 * p + u) = 0 ∧ (hd b k).count ((8 * p + u : Nat) : Int) = 0) ∧
  (u % usz k = 0 → 0 < ow b (8 * p + u) ∧ (hd b k).count ((8 * p + u : Nat) : Int) = 0 ∨ ow b (8 * p + u) = 0 ∧ (hd b k).count ((8 * p + u : Nat) : Int) = 1)
def RoomsP (b : Bk) (p k : Nat) : Prop := (∀ u, u < 8 → RoomP b p k u) ∧ ∃ u, u < 8 ∧ 0 < ow b (8 * p + u)
/-- The last page up to one that is no further page of a room. -/
def back (b : Bk) : Nat → Nat
  | 0 => 0
  | q + 1 => if pg b (q + 1) = 7 then back b q else q + 1
def RestP (b : Bk) (p : Nat) : Prop := pg b (back b p) > 8 ∧ (back b p : Int) + pg b (back b p) - 8 > p ∧ FreeP b p 0
def WideP (b : Bk) (p : Nat) : Prop := 10 ≤ pg b p ∧ pg b p ≤ 12 ∧ (p : Int) + (pg b p - 8) ≤ np b ∧ ow b (8 * p) ≠ 0 ∧ FreeP b p 1 ∧ ∀ i : Nat, 1 ≤ i → (i : Int) < pg b p - 8 → pg b (p + i) = 7
def PageP (b : Bk) (p : Nat) : Prop :=
  (pg b p = 0 → FreeP b p 0) ∧ (1 ≤ pg b p ∧ pg b p ≤ 4 → RoomsP b p (pg b p - 1).toNat) ∧ (pg b p = 7 → RestP b p) ∧
  (pg b p ≠ 0 → ¬ (1 ≤ pg b p ∧ pg b p ≤ 4) → pg b p ≠ 7 → WideP b p)
theorem spec_l3Free_eq (N : Nat) (hN : Fuel N) (b : Bk) (hs : Sizes b) (ho : Owners b) (p fr : Nat) (hp : p < np b) (hfr : fr ≤ 8) : spec_l3Free N b p fr = some (tf (FreeP b p fr), ()) := by
  have hs' := hs
  unfold Sizes np nu at hs'
  unfold np at hp
  have := loop_all 8 0 (fun k i => spec_l3Free.l0 N k p i b) (fun u => !decide (0 < ow b (8 * p + u))) true
    (fun k hk => by
      obtain ⟨k, rfl⟩ := fuel hk
      simp (disch := omega) only [spec_l3Free.l0, cf])
    (fun k i hi => by
      have e : ((p : Int) * 8 + (i : Int)).toNat = 8 * p + i := by omega
      simp (disch := omega) only [spec_l3Free.l0, ct, w64, bnd, e, fold_ow]
      by_cases c : ow b (8 * p + i) > 0
      · rw [ct c, dt c]; rfl
      · rw [cf c, df c]; rfl)
    (8 - fr) fr N (by omega) (by omega)
  unfold spec_l3Free
  rw [this, Bool.and_true]
  congr 2
  refine tf_eq ?_
  rw [allB_iff]
  constructor
  · intro h u h1 h2
    have g := h u h1 (by omega)
    have g2 := ho (8 * p + u) (by unfold nu; omega)
    simp at g
    omega
  · intro h u h1 h2
    have := h u h1 (by omega)
    simp [this]
theorem count_drop (l : List Int) (x : Int) (i : Nat) (h : i < l.length) : (l.drop i).count x = (if l.getD i 0 = x then 1 else 0) + (l.drop (i + 1)).count x := by
  rw [drop_at 0 h, List.count_cons]
  by_cases c : l.getD i 0 = x
  · rw [beq_iff_eq.2 c, if_pos c, if_pos rfl]; omega
  · rw [beq_eq_false_iff_ne.2 c, if_neg c, if_neg (by decide)]; omega
theorem spec_l3In_eq (N : Nat) (hN : Fuel N) (l : List Int) (hl : Short l) (x : Int) : spec_l3In N l x = some ((l.count x : Int), ()) := by
  unfold Short at hl
  have := loop_idx l.length (fun k i a => spec_l3In.l0 N k l x a i) (fun i a => some (a + ((l.drop i).count x : Int), ())) (fun i a => 0 ≤ a ∧ a ≤ i)
    (fun k a h => by
      simp (disch := omega) only [spec_l3In.l0, cf, List.drop_length, List.count_nil]
      simp)
    (fun k i a hi h ih => by
      simp (disch := omega) only [spec_l3In.l0, ct, bnd, w64, Int.toNat_natCast, cndb]
      rw [count_drop l x i hi]
      by_cases c : l.getD i 0 = x
      · rw [if_pos c, if_pos c, ih _ (by omega)]
        congr 2; omega
      · rw [if_neg c, if_neg c, ih _ (by omega)]
        congr 2; omega)
    l.length N 0 0 (by omega) (by omega) (by omega)
  rw [List.drop_zero, Int.zero_add] at this
  exact this
/-- How many of m places from i on have something. -/
def cntB (P : Nat → Bool) : Nat → Nat → Nat
  | 0, _ => 0
  | m + 1, i => (if P i then 1 else 0) + cntB P m (i + 1)
theorem cntB_pos (P : Nat → Bool) : ∀ m i, 0 < cntB P m i ↔ ∃ j, i ≤ j ∧ j < i + m ∧ P j = true
  | 0, i => by simp [cntB]; intro j h1 h2; omega
  | m + 1, i => by
    rw [cntB]
    constructor
    · intro h
      by_cases c : P i = true
      · exact ⟨i, Nat.le_refl _, by omega, c⟩
      · rw [if_neg c, Nat.zero_add] at h
        obtain ⟨j, h1, h2, h3⟩ := (cntB_pos P m (i + 1)).1 h
        exact ⟨j, by omega, by omega, h3⟩
    · intro ⟨j, h1, h2, h3⟩
      by_cases c : P i = true
      · rw [if_pos c]; omega
      · have : 0 < cntB P m (i + 1) := (cntB_pos P m (i + 1)).2 ⟨j, by by_cases e : j = i; (subst e; exact (c h3).elim); omega, by omega, h3⟩
        omega
noncomputable def roomB (b : Bk) (p k u : Nat) : Bool := tf (RoomP b p k u)
def firstB (b : Bk) (p k u : Nat) : Bool := decide (u % usz k = 0 ∧ 0 < ow b (8 * p + u))
theorem usz_dvd {k : Nat} (h : k < 4) (p u : Nat) : (8 * p + u) % usz k = u % usz k := by
  rcases usz_vals h with ⟨hu, _⟩ | ⟨hu, _⟩ | ⟨hu, _⟩ | ⟨hu, _⟩ <;> rw [hu] <;> omega
theorem spec_l3Rooms_step (N : Nat) (hN : Fuel N) (b : Bk) (hs : Sizes b) (ho : Owners b) (p kk : Nat) (hp : p < np b) (hkk : kk < 4) (l : List Int) (hl : l = hd b kk) (hsh : Short l) (i : Nat) (hi : i < 8) (X Y : Option (Bool × Unit)) :
    ((spec_l3In N l (IntKind.i64.wrap (IntKind.i64.wrap ((p : Int) * 8) + (i : Int)))).bind fun u7 => (spec_l3Size N kk).bind fun u8 => (bif decide (u8.1 = 0) then none else (bif decide (Int.tmod i u8.1 > 0) then (bif (bif decide (0 ≤ IntKind.i64.wrap (IntKind.i64.wrap ((p : Int) * 8) + i)) then decide (IntKind.i64.wrap (IntKind.i64.wrap ((p : Int) * 8) + i) < (b.2.2.2.1.length : Int)) else false) then (bif decide (b.2.2.2.1.getD (IntKind.i64.wrap (IntKind.i64.wrap ((p : Int) * 8) + i)).toNat 0 > 0) then some (false, ()) else (bif decide (u7.1 > 0) then some (false, ()) else Y)) else none) else (bif (bif decide (0 ≤ IntKind.i64.wrap (IntKind.i64.wrap ((p : Int) * 8) + i)) then decide (IntKind.i64.wrap (IntKind.i64.wrap ((p : Int) * 8) + i) < (b.2.2.2.1.length : Int)) else false) then (bif (decide (b.2.2.2.1.getD (IntKind.i64.wrap (IntKind.i64.wrap ((p : Int) * 8) + i)).toNat 0 > 0) == decide (u7.1 > 0)) then some (false, ()) else (bif decide (u7.1 > 1) then some (false, ()) else (bif (bif decide (0 ≤ IntKind.i64.wrap (IntKind.i64.wrap ((p : Int) * 8) + i)) then decide (IntKind.i64.wrap (IntKind.i64.wrap ((p : Int) * 8) + i) < (b.2.2.2.1.length : Int)) else false) then (bif decide (b.2.2.2.1.getD (IntKind.i64.wrap (IntKind.i64.wrap ((p : Int) * 8) + i)).toNat 0 > 0) then X else Y) else none))) else none)))) =
      cond (roomB b p kk i) (cond (firstB b p kk i) X Y) (some (false, ())) := by
  have hs' := hs
  unfold Sizes np nu at hs'
  unfold np at hp
  have hw : IntKind.i64.wrap (IntKind.i64.wrap ((p : Int) * 8) + (i : Int)) = ((8 * p + i : Nat) : Int) := by rw [w64 (n := (p : Int) * 8) (by omega) (by omega), w64 (by omega) (by omega)]; omega
  have hu0 : (usz kk : Int) ≠ 0 := by rcases usz_vals hkk with ⟨hu, hk⟩ | ⟨hu, hk⟩ | ⟨hu, hk⟩ | ⟨hu, hk⟩ <;> omega
  have hown := ho (8 * p + i) (by unfold nu; omega)
  simp (disch := omega) only [hw, spec_l3In_eq N hN l hsh, spec_l3Size_eq N hkk, Option.bind_some, cf, tm, bnd, Int.toNat_natCast, fold_ow]
  have hm : (i : Int) % (usz kk : Int) = ((i % usz kk : Nat) : Int) := by omega
  rw [hm, hl]
  generalize hc : (hd b kk).count ((8 * p + i : Nat) : Int) = c
  have hroom : roomB b p kk i = tf ((i % usz kk ≠ 0 → ow b (8 * p + i) = 0 ∧ c = 0) ∧ (i % usz kk = 0 → 0 < ow b (8 * p + i) ∧ c = 0 ∨ ow b (8 * p + i) = 0 ∧ c = 1)) := by
    unfold roomB RoomP
    rw [hc]
  rw [hroom, firstB]
  by_cases c1 : i % usz kk = 0
  · rw [cf (by omega)]
    by_cases c2 : ow b (8 * p + i) > 0
    · by_cases c3 : c = 0
      · rw [tf_t ⟨fun h => (h c1).elim, fun _ => .inl ⟨c2, c3⟩⟩, dt c2, df (p := (c : Int) > 0) (by omega), dt (p := _ ∧ _) ⟨c1, c2⟩]
        simp (disch := omega) only [cf]
        rfl
      · rw [tf_f (fun h => by have := h.2 c1; omega), dt c2, dt (p := (c : Int) > 0) (by omega)]
        rfl
    · by_cases c3 : c = 1
      · rw [tf_t ⟨fun h => (h c1).elim, fun _ => .inr ⟨by omega, c3⟩⟩, df c2, dt (p := (c : Int) > 0) (by omega), df (p := _ ∧ _) (fun h => c2 h.2)]
        simp (disch := omega) only [cf]
        rfl
      · rw [tf_f (fun h => by have := h.2 c1; omega), df c2]
        by_cases c4 : (c : Int) > 0
        · rw [dt c4, dt (p := (c : Int) > 1) (by omega)]; rfl
        · rw [df c4]; rfl
  · rw [ct (by omega)]
    by_cases c2 : ow b (8 * p + i) > 0
    · rw [tf_f (fun h => by have := h.1 c1; omega), ct c2]; rfl
    · rw [cf c2]
      by_cases c3 : c = 0
      · rw [tf_t ⟨fun _ => ⟨by omega, c3⟩, fun h => (c1 h).elim⟩, cf (by omega), df (p := _ ∧ _) (fun h => c1 h.1)]; rfl
      · rw [tf_f (fun h => by have := h.1 c1; omega), ct (by omega)]; rfl
theorem spec_l3Rooms_eq (N : Nat) (hN : Fuel N) (b : Bk) (hs : Sizes b) (ho : Owners b) (hb : Bshort b) (p kk : Nat) (hp : p < np b) (hkk : kk < 4) : spec_l3Rooms N b p kk = some (tf (RoomsP b p kk), ()) := by
  have hsh := hb.2.1 kk
  have := loop_idx 8 (fun k i a => spec_l3Rooms.l0 N k p kk a i b) (fun i a => some (allB (roomB b p kk) (8 - i) i && decide (0 < a + (cntB (firstB b p kk) (8 - i) i : Int)), ())) (fun i a => 0 ≤ a ∧ a ≤ i)
    (fun k a h => by
      simp (disch := omega) only [spec_l3Rooms.l0, cf, Nat.sub_self, allB, cntB]
      simp)
    (fun k i a hi h ih => by
      have st := spec_l3Rooms_step N hN b hs ho p kk hp hkk (hd b kk) rfl hsh i hi (spec_l3Rooms.l0 N k p kk (a + 1) ((i : Int) + 1) b) (spec_l3Rooms.l0 N k p kk a ((i : Int) + 1) b)
      have goal : spec_l3Rooms.l0 N (k + 1) p kk a i b = cond (roomB b p kk i) (cond (firstB b p kk i) (spec_l3Rooms.l0 N k p kk (a + 1) ((i : Int) + 1) b) (spec_l3Rooms.l0 N k p kk a ((i : Int) + 1) b)) (some (false, ())) := by
        rw [← st]
        have w1 : IntKind.i64.wrap ((i : Int) + 1) = (i : Int) + 1 := w64 (by omega) (by omega)
        have w2 : IntKind.i64.wrap (a + 1) = a + 1 := w64 (by omega) (by omega)
        rcases usz_vals hkk with ⟨hu, hk⟩ | ⟨hu, hk⟩ | ⟨hu, hk⟩ | ⟨hu, hk⟩ <;> subst hk <;>
          simp (disch := omega) only [spec_l3Rooms.l0, ct, cf, hd, w1, w2]
      rw [goal, ih (a + 1) (by omega), ih a (by omega), show 8 - i = (8 - (i + 1)) + 1 by omega, allB, cntB]
      cases roomB b p kk i
      · rfl
      · cases firstB b p kk i
        · simp only [cond_true, cond_false, Bool.true_and, Bool.false_eq_true, if_false, Nat.zero_add]
        · simp only [cond_true, Bool.true_and, if_true]
          congr 3
          exact decide_eq_decide.2 (by omega))
    8 N 0 0 (by omega) (by omega) (by omega)
  unfold spec_l3Rooms
  rw [show ((0 : Nat) : Int) = 0 from rfl] at this
  rw [this, show (8 - 0 : Nat) = 8 from rfl]
  congr 2
  refine tf_eq ?_
  rw [Bool.and_eq_true, allB_iff, decide_eq_true_iff, Int.zero_add]
  have hc := cntB_pos (firstB b p kk) 8 0
  constructor
  · intro ⟨h1, h2⟩
    refine ⟨fun u hu => tf_iff.1 (h1 u (by omega) (by omega)), ?_⟩
    obtain ⟨j, g1, g2, g3⟩ := hc.1 (by omega)
    unfold firstB at g3
    exact ⟨j, by omega, (of_decide_eq_true g3).2⟩
  · intro ⟨h1, u, h2, h3⟩
    refine ⟨fun j _ hj => tf_iff.2 (h1 j (by omega)), ?_⟩
    have : 0 < cntB (firstB b p kk) 8 0 := hc.2 ⟨u, by omega, by omega, by
      unfold firstB
      refine dt ⟨?_, h3⟩
      have := (h1 u h2).1
      omega⟩
    omega
theorem back_le (b : Bk) : ∀ q, back b q ≤ q
  | 0 => Nat.le_refl _
  | q + 1 => by
    rw [back]
    split
    · have := back_le b q; omega
    · omega
theorem ww8 {a c : Int} (h : -9223372036854775808 ≤ a - c) (h2 : a - c ≤ 9223372036854775807) (h3 : -100 ≤ c) (h4 : c ≤ 100) : IntKind.i64.wrap (IntKind.i64.wrap a - c) = a - c := by
  rw [IntKind.wrap_i64, IntKind.wrap_i64]; omega
theorem spec_l3Rest_eq (N : Nat) (hN : Fuel N) (b : Bk) (hi : Bi b) (hs : Sizes b) (ho : Owners b) (p : Nat) (hp : p < np b) : spec_l3Rest N b p = some (tf (RestP b p), ()) := by
  have hs' := hs
  unfold Sizes np nu at hs'
  have hp' := hp
  unfold np at hp'
  have main : ∀ q k, q < k → q ≤ p → spec_l3Rest.l0 N k p q b = some (tf (pg b (back b q) > 8 ∧ (back b q : Int) + pg b (back b q) - 8 > p ∧ FreeP b p 0), ()) := by
    have leaf : ∀ q : Nat, q ≤ p → (X : Option (Bool × Unit)) → X = (bif decide (pg b q > 8) then (bif decide (IntKind.i64.wrap (IntKind.i64.wrap ((q : Int) + pg b q) - 8) > p) then (some (tf (FreeP b p 0), ()) : Option (Bool × Unit)) else some (false, ())) else some (false, ())) →
        X = some (tf (pg b q > 8 ∧ (q : Int) + pg b q - 8 > p ∧ FreeP b p 0), ()) := by
      intro q hq X hX
      have hr := hi.2.1.at q
      rw [fold_pg] at hr
      obtain ⟨r1, r2⟩ := hr
      rw [hX]
      by_cases c : pg b q > 8
      · rw [ct c, ww8 (by omega) (by omega) (by omega) (by omega)]
        by_cases c2 : (q : Int) + pg b q - 8 > p
        · rw [ct c2]
          congr 2
          exact tf_congr ⟨fun h => ⟨c, c2, h⟩, fun h => h.2.2⟩
        · rw [cf c2, tf_f (fun h => c2 h.2.1)]
      · rw [cf c, tf_f (fun h => c h.1)]
    intro q
    induction q with
    | zero =>
      intro k hk hq
      obtain ⟨k, rfl⟩ := fuel hk
      rw [back]
      refine leaf 0 hq _ ?_
      have e := spec_l3Free_eq N hN b hs ho p 0 hp (by omega)
      rw [show ((0 : Nat) : Int) = 0 from rfl] at e
      rw [spec_l3Rest.l0, cf (by omega), bnd (by omega) (by omega)]
      simp (disch := omega) only [bnd, e, Option.bind_some, Int.toNat_natCast, fold_pg]
    | succ q ih =>
      intro k hk hq
      obtain ⟨k, rfl⟩ := fuel hk
      have e := spec_l3Free_eq N hN b hs ho p 0 hp (by omega)
      rw [show ((0 : Nat) : Int) = 0 from rfl] at e
      have w1 : IntKind.i64.wrap (((q + 1 : Nat) : Int) - 1) = (q : Int) := by rw [w64 (by omega) (by omega)]; omega
      by_cases c : pg b (q + 1) = 7
      · rw [back, if_pos c, ← ih k (by omega) (by omega), spec_l3Rest.l0, ct (by omega), bnd (by omega) (by omega), Int.toNat_natCast, fold_pg, w1, cndb, if_pos c]
      · rw [back, if_neg c]
        refine leaf (q + 1) hq _ ?_
        rw [spec_l3Rest.l0, ct (by omega), bnd (by omega) (by omega), Int.toNat_natCast, fold_pg, cndb, if_neg c]
        simp (disch := omega) only [bnd, e, Option.bind_some, Int.toNat_natCast, fold_pg]
  exact main p N (by omega) (Nat.le_refl _)
theorem spec_l3Wide_eq (N : Nat) (hN : Fuel N) (b : Bk) (hi : Bi b) (hs : Sizes b) (ho : Owners b) (p : Nat) (hp : p < np b) : spec_l3Wide N b p = some (tf (WideP b p), ()) := by
  have hs' := hs
  unfold Sizes np nu at hs'
  have hp' := hp
  unfold np at hp'
  have hr := hi.2.1.at p
  rw [fold_pg] at hr
  obtain ⟨r1, r2⟩ := hr
  have e := spec_l3Free_eq N hN b hs ho p 1 hp (by omega)
  rw [show ((1 : Nat) : Int) = 1 from rfl] at e
  have e8 : ((p : Int) * 8).toNat = 8 * p := by omega
  unfold spec_l3Wide
  simp (disch := omega) only [bnd, Int.toNat_natCast, fold_pg, w64 (n := (p : Int) * 8), e8, fold_ow, e, Option.bind_some]
  by_cases c : 10 ≤ pg b p ∧ pg b p ≤ 12
  rotate_left
  · rw [tf_f (p := WideP b p) (fun h => c ⟨h.1, h.2.1⟩)]
    by_cases c1 : IntKind.i64.wrap (pg b p - 8) < 2
    · rw [ct c1]
    · rw [cf c1, ct]
      rw [IntKind.wrap_i64] at c1 ⊢
      omega
  have w1 : IntKind.i64.wrap (pg b p - 8) = pg b p - 8 := w64 (by omega) (by omega)
  rw [w1, cf (by omega), cf (by omega), w64 (n := (p : Int) + (pg b p - 8)) (by omega) (by omega)]
  by_cases c2 : (p : Int) + (pg b p - 8) > (b.2.1.length : Int)
  · rw [ct c2, tf_f (p := WideP b p) (fun h => by have := h.2.2.1; unfold np at this; omega)]
  rw [cf c2, cndb]
  by_cases c3 : ow b (8 * p) = 0
  · rw [if_pos c3, tf_f (p := WideP b p) (fun h => h.2.2.2.1 c3)]
  rw [if_neg c3]
  by_cases c4 : FreeP b p 1
  rotate_left
  · rw [tf_f c4, tf_f (p := WideP b p) (fun h => c4 h.2.2.2.2.1)]; rfl
  rw [tf_t c4, Bool.not_true, cond_false]
  have := loop_all (pg b p - 8).toNat 0 (fun k i => spec_l3Wide.l0 N k p (pg b p - 8) i b) (fun i => decide (pg b (p + i) = 7)) true
    (fun k hk => by
      obtain ⟨k, rfl⟩ := fuel hk
      simp (disch := omega) only [spec_l3Wide.l0, cf])
    (fun k i hi2 => by
      have e3 : ((p : Int) + (i : Int)).toNat = p + i := by omega
      simp (disch := omega) only [spec_l3Wide.l0, ct, w64, bnd, e3, fold_pg, cndn, cnd])
    ((pg b p - 8).toNat - 1) 1 N (by omega) (by omega)
  rw [show ((1 : Nat) : Int) = 1 from rfl] at this
  rw [this, Bool.and_true]
  congr 2
  refine tf_eq ?_
  rw [allB_iff]
  constructor
  · intro h
    exact ⟨c.1, c.2, by unfold np; omega, c3, c4, fun i h1 h2 => of_decide_eq_true (h i h1 (by omega))⟩
  · intro h j h1 h2
    exact dt (h.2.2.2.2.2 j h1 (by omega))
theorem spec_l3Page_eq (N : Nat) (hN : Fuel N) (b : Bk) (hi : Bi b) (hs : Sizes b) (ho : Owners b) (hb : Bshort b) (p : Nat) (hp : p < np b) : spec_l3Page N b p = some (tf (PageP b p), ()) := by
  have hp' := hp
  unfold np at hp'
  have e := spec_l3Free_eq N hN b hs ho p 0 hp (by omega)
  rw [show ((0 : Nat) : Int) = 0 from rfl] at e
  simp (disch := omega) only [spec_l3Page, bnd, Int.toNat_natCast, fold_pg, spec_l3Kind_eq, Option.bind_some, cndb, e]
  unfold PageP
  by_cases c0 : pg b p = 0
  · rw [if_pos c0]
    congr 2
    exact tf_congr ⟨fun h => ⟨fun _ => h, fun h => by omega, fun h => by omega, fun h => (h c0).elim⟩, fun h => h.1 c0⟩
  rw [if_neg c0]
  by_cases c1 : 1 ≤ pg b p ∧ pg b p ≤ 4
  · have ek : pg b p - 1 = ((pg b p - 1).toNat : Int) := by omega
    simp only [if_pos c1]
    rw [ct (by omega), ek, spec_l3Rooms_eq N hN b hs ho hb p _ hp (by omega)]
    simp only [Option.bind_some]
    congr 2
    exact tf_congr ⟨fun h => ⟨fun h => by omega, fun _ => h, fun h => by omega, fun _ h => (h c1).elim⟩, fun h => h.2.1 c1⟩
  simp only [if_neg c1]
  rw [cf (by omega)]
  by_cases c2 : pg b p = 7
  · rw [if_pos c2, spec_l3Rest_eq N hN b hi hs ho p hp]
    simp only [Option.bind_some]
    congr 2
    exact tf_congr ⟨fun h => ⟨fun h => by omega, fun h => (c1 h).elim, fun _ => h, fun _ _ h => (h c2).elim⟩, fun h => h.2.2.1 c2⟩
  · rw [if_neg c2, spec_l3Wide_eq N hN b hi hs ho p hp]
    simp only [Option.bind_some]
    congr 2
    exact tf_congr ⟨fun h => ⟨fun h => by omega, fun h => (c1 h).elim, fun h => (c2 h).elim, fun _ _ _ => h⟩, fun h => h.2.2.2 c0 c1 c2⟩
/-- The book is valid. -/
def BookP (b : Bk) : Prop := slotsB b = true ∧ listsB b = true ∧ ∀ p, p < np b → PageP b p
theorem slotsB_sizes {b : Bk} (h : slotsB b = true) : Sizes b := by
  rw [slotsB, Bool.and_eq_true] at h
  exact of_decide_eq_true h.1
theorem slotsB_owners {b : Bk} (h : slotsB b = true) : Owners b := by
  rw [slotsB, Bool.and_eq_true, Bool.and_eq_true] at h
  intro u hu
  have := (allB_iff _ _ _).1 h.2.2 u (by omega) (by omega)
  exact (of_decide_eq_true this).1
noncomputable def bookOk (b : Bk) : Bool := tf (BookP b)
theorem spec_BookOk_eq (N : Nat) (hN : Fuel N) (b : Bk) (hi : Bi b) (hb : Bshort b) : spec_BookOk N b = some (bookOk b, ()) := by
  unfold spec_BookOk bookOk BookP
  rw [spec_l3Slots_eq N hN b]
  simp only [Option.bind_some]
  cases h1 : slotsB b
  · rw [tf_f (fun h => by cases h.1)]; rfl
  have hs := slotsB_sizes h1
  have ho := slotsB_owners h1
  rw [spec_l3Lists_eq N hN b hs hb]
  simp only [Option.bind_some, Bool.not_true, cond_false]
  cases h2 : listsB b
  · rw [tf_f (fun h => by cases h.2.1)]; rfl
  have hs' := hs
  unfold Sizes np nu at hs'
  have := loop_all (np b) 0 (fun k i => spec_BookOk.l0 N k i b) (fun p => tf (PageP b p)) true
    (fun k hk => by
      obtain ⟨k, rfl⟩ := fuel hk
      unfold np
      simp (disch := omega) only [spec_BookOk.l0, cf])
    (fun k i hi2 => by
      have hi3 := hi2
      unfold np at hi3
      rw [spec_BookOk.l0, ct (by omega), spec_l3Page_eq N hN b hi hs ho hb i hi2, w64 (by omega) (by omega)]
      simp only [Option.bind_some]
      cases tf (PageP b i) <;> rfl)
    (np b) 0 N (by omega) (by unfold np; omega)
  rw [show ((0 : Nat) : Int) = 0 from rfl] at this
  rw [Bool.not_true, cond_false, this, Bool.and_true]
  congr 2
  refine tf_eq ?_
  rw [allB_iff]
  exact ⟨fun h => ⟨by trivial, by trivial, fun p hp => tf_iff.1 (h p (by omega) (by omega))⟩, fun h j _ hj => tf_iff.2 (h.2.2 j (by omega))⟩
theorem impl_isSlotB_eq (N : Nat) (b : Bk) (h1 : 1 ≤ b.1) (h2 : b.1 ≤ 4) (s : Int) : impl_Book_isSlot N b s = some (decide (0 ≤ s ∧ s < b.1), ()) := by
  simp (disch := omega) only [impl_Book_isSlot, impl_within_eq, w64, Option.bind_some]
  congr 2
  exact decide_eq_decide.2 (by omega)
theorem impl_isIn_eq (N : Nat) (b : Bk) (hs : Sizes b) (s : Int) : impl_Book_isIn N b s = some (decide (0 ≤ s ∧ s < b.1 ∧ inn b s.toNat ≠ 0), ()) := by
  unfold Sizes at hs
  simp only [impl_Book_isIn, impl_isSlotB_eq N b hs.1 hs.2.1, Option.bind_some]
  by_cases c : 0 ≤ s ∧ s < b.1
  · rw [dt c, cond_true, bnd (by omega) (by omega), fold_in]
    congr 2
    by_cases e : inn b s.toNat = 0
    · rw [bne_eq_false_iff_eq.2 e, df (fun h => h.2.2 e)]
    · rw [bne_iff_ne.2 e, dt ⟨c.1, c.2, e⟩]
  · rw [df c, cond_false, df (fun h => c ⟨h.1, h.2.1⟩)]
theorem impl_lists_step (N : Nat) (b : Bk) (hi : Bi b) (hs : Sizes b) (kk : Nat) (hkk : kk < 4) (l : List Int) (j k : Nat) (hj : j < l.length) (hll : l.length ≤ 4194304) (x : Int) (hx : l.getD j 0 = x) (hd4 : List Int × List Int × List Int × List Int) :
    impl_Book_shapeOk.l3 N (k + 1) kk hd4 kk l l.length j b = cond (memB b kk x) (impl_Book_shapeOk.l3 N k kk hd4 kk l l.length ((j : Int) + 1) b) (some (false, ())) := by
  unfold Sizes np nu at hs
  simp (disch := omega) only [impl_Book_shapeOk.l3, ct, bnd, Int.toNat_natCast, hx, impl_within_eq, Option.bind_some, impl_unitsOf_eq N hkk, w64]
  rw [memB, cnd (p := _ ∧ _)]
  unfold nu
  by_cases c1 : 0 ≤ x ∧ x < (b.2.2.2.1.length : Int)
  rotate_left
  · rw [if_neg (fun h => c1 ⟨h.1, h.2.1⟩), df (by omega)]; rfl
  have hu : (usz kk : Int) ≠ 0 := by rcases usz_vals hkk with ⟨hu, hk⟩ | ⟨hu, hk⟩ | ⟨hu, hk⟩ | ⟨hu, hk⟩ <;> omega
  rw [dt (by omega), Bool.not_true, cond_false, cf hu, tm (by omega), cndn]
  by_cases c3 : x % (usz kk : Int) = 0
  · rw [if_pos c3]
    simp (disch := omega) only [td, w64, bnd, fold_pg, cndn]
    by_cases c2 : pg b (x / 8).toNat = (kk : Int) + 1
    · rw [if_pos c2, if_pos ⟨c1.1, c1.2, c2, c3⟩]
    · rw [if_neg c2, if_neg (fun h => c2 h.2.2.1)]
  · rw [if_neg c3, if_neg (fun h => c3 h.2.2.2)]
theorem impl_shapeOk_eq (N : Nat) (hN : Fuel N) (b : Bk) (hi : Bi b) (hb : Bshort b) : impl_Book_shapeOk N b = some (slotsB b && listsB b, ()) := by
  by_cases hs : Sizes b
  rotate_left
  · rw [slotsB, df hs, Bool.false_and, Bool.false_and]
    have hp := hb.1
    unfold Short at hp
    unfold Sizes np nu at hs
    simp (disch := omega) only [impl_Book_shapeOk, impl_within_eq, Option.bind_some, w64, cndn]
    by_cases c1 : 1 ≤ b.1 ∧ b.1 ≤ 4
    rotate_left
    · rw [df c1]; rfl
    rw [dt c1, Bool.not_true, cond_false]
    by_cases c2 : 1 ≤ (b.2.1.length : Int) ∧ (b.2.1.length : Int) ≤ 6
    rotate_left
    · rw [df c2]; rfl
    rw [dt c2, Bool.not_true, cond_false]
    repeat' split
    all_goals first | rfl | (exfalso; omega)
  have hs' := hs
  unfold Sizes np nu at hs'
  rw [slotsB, dt hs, Bool.true_and]
  have lists : ∀ (d kk : Nat), kk + d = 4 → ∀ k, 40000000 * d < k → impl_Book_shapeOk.l2 N k b.2.2.1 kk b = some (allB (listB b) d kk, ()) := by
    intro d
    induction d with
    | zero =>
      intro kk h k hk
      obtain ⟨k, rfl⟩ := fuel hk
      simp (disch := omega) only [impl_Book_shapeOk.l2, cf, allB]
    | succ d ih =>
      intro kk h k hk
      have hkk : kk < 4 := by omega
      have hl := hb.2.1 kk
      unfold Short at hl
      obtain ⟨k, rfl⟩ : ∃ j, k = j + (hd b kk).length * 1 + 1 + 1 := ⟨k - (hd b kk).length - 2, by omega⟩
      have := loop_allk 1 (by decide) (some (false, ())) (hd b kk).length (fun k i => impl_Book_shapeOk.l3 N k kk b.2.2.1 kk (hd b kk) (hd b kk).length i b) (fun j => memB b kk ((hd b kk).getD j 0)) (fun k => impl_Book_shapeOk.l2 N k b.2.2.1 ((kk : Int) + 1) b)
        (fun k => by simp (disch := omega) only [impl_Book_shapeOk.l3, cf, w64])
        (fun k i hi2 => impl_lists_step N b hi hs kk hkk (hd b kk) i k hi2 hl _ rfl b.2.2.1)
        (hd b kk).length 0 k (by omega)
      rw [allB_list _ _ _ _ (by omega), List.drop_zero, show (kk : Int) + 1 = ((kk + 1 : Nat) : Int) by omega, ih (kk + 1) (by omega) k (by omega)] at this
      have goal : impl_Book_shapeOk.l2 N (k + (hd b kk).length * 1 + 1 + 1) b.2.2.1 kk b = cond (decide (((hd b kk).length : Int) > (b.2.2.2.1.length : Int))) (some (false, ())) (impl_Book_shapeOk.l3 N (k + (hd b kk).length * 1 + 1) kk b.2.2.1 kk (hd b kk) (hd b kk).length 0 b) := by
        rcases usz_vals hkk with ⟨hu, hk⟩ | ⟨hu, hk⟩ | ⟨hu, hk⟩ | ⟨hu, hk⟩ <;> subst hk <;>
          simp (disch := omega) only [impl_Book_shapeOk.l2, ct, cf, hd]
      have t0 : ((0 : Nat) : Int) = 0 := rfl
      rw [t0] at this
      rw [goal, this, allB, listB, cnd]
      unfold nu
      by_cases c : ((hd b kk).length : Int) > (b.2.2.2.1.length : Int)
      · rw [if_pos c, df (by omega)]; rfl
      · rw [if_neg c, dt (by omega), Bool.true_and]
        cases (hd b kk).all (memB b kk) <;> rfl
  have l1 := loop_all (nu b) 200000000 (fun k i => impl_Book_shapeOk.l1 N k b.2.2.2.1 b.2.2.2.1.length i b) (ownB b) (listsB b)
    (fun k hk => by
      obtain ⟨k, rfl⟩ := fuel hk
      have := lists 4 0 rfl k (by omega)
      rw [show ((0 : Nat) : Int) = 0 from rfl] at this
      unfold nu
      rw [impl_Book_shapeOk.l1, cf (by omega), this, listsB])
    (fun k i hi2 => by
      have hi' : i < b.2.2.2.1.length := hi2
      have hr := hi.2.2.2.1.at i
      rw [fold_ow] at hr
      obtain ⟨r1, r2⟩ := hr
      simp (disch := omega) only [impl_Book_shapeOk.l1, ct, bnd, w64 (n := (i : Int) + 1), Int.toNat_natCast, fold_ow, impl_isIn_eq N b hs, Option.bind_some, cndn]
      rw [ownB, cnd (p := _ ∧ _)]
      by_cases c : ow b i = 0
      · rw [if_pos c, if_pos ⟨by omega, by omega, fun h => by omega⟩]
      rw [if_neg c]
      by_cases c2 : 0 ≤ ow b i ∧ ow b i ≤ b.1
      · rw [w64 (by omega) (by omega)]
        by_cases c3 : inn b (ow b i - 1).toNat = 0
        · rw [df (fun h => h.2.2 c3), if_neg (fun h => h.2.2 (by omega) c3)]; rfl
        · rw [dt ⟨by omega, by omega, c3⟩, if_pos ⟨c2.1, c2.2, fun _ => c3⟩]; rfl
      · rw [if_neg (fun h => c2 ⟨h.1, h.2.1⟩), df]
        · rfl
        · intro h
          have h1 := h.1
          have h2 := h.2.1
          rw [IntKind.wrap_i64] at h1 h2
          omega)
  have l0 := loop_all b.1.toNat 200001000 (fun k i => impl_Book_shapeOk.l0 N k b.2.2.2.2.1 b.2.2.2.2.1.length i b) (slotB b) (allB (ownB b) (nu b) 0 && listsB b)
    (fun k hk => by
      obtain ⟨k, rfl⟩ : ∃ j, k = j + 1 := ⟨k - 1, by omega⟩
      have := l1 (nu b) 0 k (by omega) (by unfold nu; omega)
      rw [show ((0 : Nat) : Int) = 0 from rfl] at this
      rw [impl_Book_shapeOk.l0, cf (by omega), this])
    (fun k i hi => by
      simp (disch := omega) only [impl_Book_shapeOk.l0, ct, bnd, w64, Int.toNat_natCast, fold_in, fold_ep, impl_within_eq, Option.bind_some, cndn, cndb]
      rw [slotB, cnd (p := _ ∧ _)]
      by_cases c1 : 0 ≤ inn b i ∧ inn b i ≤ 2
      rotate_left
      · rw [df c1, if_neg (c := _ ∧ _) (fun h => c1 ⟨h.1, h.2.1⟩)]; rfl
      rw [dt c1, Bool.not_true, cond_false]
      by_cases c2 : 0 ≤ ep b i ∧ ep b i ≤ 4095
      rotate_left
      · rw [df c2, if_neg (c := _ ∧ _) (fun h => c2 ⟨h.2.2.1, h.2.2.2.1⟩)]; rfl
      rw [dt c2, Bool.not_true, cond_false]
      by_cases c3 : inn b i = 0
      · rw [if_pos c3, if_pos ⟨c1.1, c1.2, c2.1, c2.2, fun _ => c3⟩]
      rw [if_neg c3]
      by_cases c4 : ep b i = 0
      · rw [if_pos c4, if_neg (fun h => c3 (h.2.2.2.2 c4))]
      · rw [if_neg c4, if_pos ⟨c1.1, c1.2, c2.1, c2.2, fun h => (c4 h).elim⟩])
  have := l0 b.1.toNat 0 N (by omega) (by omega)
  rw [show ((0 : Nat) : Int) = 0 from rfl] at this
  simp (disch := omega) only [impl_Book_shapeOk, impl_within_eq, Option.bind_some, w64, cndn]
  rw [dt (by omega), Bool.not_true, cond_false, dt (by omega), Bool.not_true, cond_false, if_pos (by omega), if_pos (by omega), if_pos (by omega), this, Bool.and_assoc]
/-- n units from f on, and how many of some have an owner. -/
def seg (b : Bk) (f n : Nat) : List Int := (b.2.2.2.1.take (f + n)).drop f
def nz (l : List Int) : Nat := l.countP fun x => x != 0
theorem seg_len (b : Bk) (f n : Nat) (h : f + n ≤ nu b) : (seg b f n).length = n := by
  unfold nu at h
  simp only [seg, List.length_drop, List.length_take]; omega
theorem seg_get (b : Bk) (f n j : Nat) (h : f + n ≤ nu b) (hj : j < n) : (seg b f n).getD j 0 = ow b (f + j) := by
  unfold nu at h
  simp only [seg, ow, List.getD_eq_getElem?_getD, List.getElem?_drop, List.getElem?_take]
  rw [if_pos (by omega)]
theorem nz_zero : ∀ (l : List Int), nz l = 0 ↔ ∀ j, j < l.length → l.getD j 0 = 0
  | [] => by simp [nz]
  | x :: r => by
    have ih := nz_zero r
    unfold nz at ih ⊢
    rw [List.countP_cons]
    constructor
    · intro h j hj
      have h1 : List.countP (fun x => x != 0) r = 0 := by omega
      cases j with
      | zero =>
        by_cases c : x = 0
        · simpa using c
        · have : (x != 0) = true := bne_iff_ne.2 c
          rw [this] at h
          simp at h
      | succ j =>
        simp only [List.getD_cons_succ]
        exact ih.1 h1 j (by simpa using hj)
    · intro h
      have h0 : x = 0 := by simpa using h 0 (by simp)
      have h1 := ih.2 (fun j hj => by have := h (j + 1) (by simpa using hj); simpa using this)
      rw [h1, h0]; simp
theorem nz_seg (b : Bk) (f n : Nat) (h : f + n ≤ nu b) : nz (seg b f n) = 0 ↔ ∀ j, j < n → ow b (f + j) = 0 := by
  rw [nz_zero, seg_len b f n h]
  constructor
  · intro g j hj; rw [← seg_get b f n j h hj]; exact g j hj
  · intro g j hj; rw [seg_get b f n j h hj]; exact g j hj
theorem nz_cons (b : Bk) (f n : Nat) (h : f + (n + 1) ≤ nu b) (h0 : ow b f ≠ 0) : nz (seg b f (n + 1)) = nz (seg b (f + 1) n) + 1 := by
  have hl := seg_len b f (n + 1) h
  have e : seg b f (n + 1) = ow b f :: seg b (f + 1) n := by
    have := drop_at (l := seg b f (n + 1)) (i := 0) 0 (by omega)
    rw [List.drop_zero, seg_get b f (n + 1) 0 h (by omega)] at this
    rw [this]
    simp only [Nat.add_zero, seg, List.drop_drop, Nat.zero_add]
    rw [show f + (n + 1) = f + 1 + n by omega]
  rw [e, nz, List.countP_cons, bne_iff_ne.2 h0, if_pos rfl]
  rfl
theorem impl_owned_eq (N : Nat) (hN : Fuel N) (b : Bk) (hb : Bshort b) (f n : Nat) (h : f + n ≤ nu b) : impl_Book_owned N b f ((f + n : Nat) : Int) = some ((nz (seg b f n) : Int), ()) := by
  have hl := seg_len b f n h
  have hsh := hb.2.2.1
  unfold Short at hsh
  have h' := h
  unfold nu at h'
  have main := loop_list 0 (seg b f n) (fun k i a => impl_Book_owned.l0 N k a (seg b f n) (seg b f n).length i) (fun r a => some (a + (nz r : Int), ())) (fun i a => 0 ≤ a ∧ a ≤ i)
    (fun k a g => by
      simp (disch := omega) only [impl_Book_owned.l0, cf, nz, List.countP_nil]
      simp)
    (fun k i a x r hi hx g ih => by
      simp (disch := omega) only [impl_Book_owned.l0, ct, bnd, w64, Int.toNat_natCast, hx, cndn]
      unfold nz
      rw [List.countP_cons]
      by_cases c : x = 0
      · rw [if_pos c, bne_eq_false_iff_eq.2 c, if_neg (by decide), ih a (by omega)]
        rfl
      · rw [if_neg c, bne_iff_ne.2 c, if_pos rfl, ih (a + 1) (by omega)]
        congr 2
        unfold nz
        omega)
    N (by omega) 0 (by omega)
  unfold impl_Book_owned
  rw [dt (by omega), dt (by omega), dt (by omega), dt (by omega), Int.toNat_natCast, Int.toNat_natCast]
  simp only [cond_true]
  rw [Int.zero_add] at main
  exact main
theorem loop_count {R : Type _} (l : List Int) (x : Int) (L : Nat → Int → Int → R) (E : Nat → Int → R) (hend : ∀ k a, L (k + 1) l.length a = E k a)
    (hstep : ∀ k (j : Nat) (a : Int), j < l.length → 0 ≤ a → a ≤ j → L (k + 1) (j : Int) a = L k ((j : Int) + 1) (if l.getD j 0 = x then a + 1 else a)) :
    ∀ d j k a, j + d = l.length → 0 ≤ a → a ≤ (j : Int) → L (k + d + 1) (j : Int) a = E k (a + ((l.drop j).count x : Int)) := by
  intro d
  induction d with
  | zero =>
    intro j k a h h1 h2
    obtain rfl : j = l.length := by omega
    rw [List.drop_length, List.count_nil, Nat.add_zero, hend k a]
    congr 1
    omega
  | succ d ih =>
    intro j k a h h1 h2
    rw [show k + (d + 1) + 1 = (k + d + 1) + 1 by omega, hstep _ j a (by omega) h1 h2, count_drop l x j (by omega)]
    have := ih (j + 1) k (if l.getD j 0 = x then a + 1 else a) (by omega) (by split <;> omega) (by split <;> omega)
    rw [Int.natCast_add] at this
    rw [show ((j : Int) + 1) = (j : Int) + ((1 : Nat) : Int) by omega, this]
    congr 1
    split <;> omega
theorem lists_mem {b : Bk} (h : listsB b = true) {k : Nat} (hk : k < 4) {x : Int} (hx : x ∈ hd b k) : memB b k x = true := by
  have := (allB_iff _ _ _).1 h k (by omega) (by omega)
  rw [listB, Bool.and_eq_true, List.all_eq_true] at this
  exact this.2 x hx
theorem lists_first {b : Bk} (h : listsB b = true) {k : Nat} (hk : k < 4) {u : Nat} (hu : u % usz k ≠ 0) : (hd b k).count ((u : Nat) : Int) = 0 := by
  rw [List.count_eq_zero]
  intro hm
  have := lists_mem h hk hm
  have := (of_decide_eq_true this).2.2.2
  omega
theorem impl_kindOk_eq (N : Nat) (hN : Fuel N) (b : Bk) (hs : Sizes b) (ho : Owners b) (hl : listsB b = true) (hb : Bshort b) (p : Nat) (hp : p < np b) (hk : 1 ≤ pg b p ∧ pg b p ≤ 4) : impl_Book_kindOk N b p = some (tf (RoomsP b p (pg b p - 1).toNat), ()) := by
  have hs' := hs
  unfold Sizes np nu at hs'
  have hp' := hp
  unfold np at hp'
  generalize hkk : (pg b p - 1).toNat = kk
  have hkk4 : kk < 4 := by omega
  have hpk : pg b p - 1 = (kk : Int) := by omega
  have hsh := hb.2.1 kk
  unfold Short at hsh
  have hown := impl_owned_eq N hN b hb (8 * p) 8 (by unfold nu; omega)
  have step : ∀ (k i : Nat), i < 8 → impl_Book_kindOk.l0 N (k + ((hd b kk).length + 2)) kk ((8 * p : Nat) : Int) (((8 * p : Nat) : Int) + (i : Int)) b = cond (roomB b p kk i) (impl_Book_kindOk.l0 N k kk ((8 * p : Nat) : Int) (((8 * p : Nat) : Int) + ((i : Int) + 1)) b) (some (false, ())) := by
    intro k i hi
    have hown := ho (8 * p + i) (by unfold nu; omega)
    have e1 : ((8 * p : Nat) : Int) + (i : Int) = ((8 * p + i : Nat) : Int) := by omega
    have e2 : ((8 * p : Nat) : Int) + ((i : Int) + 1) = ((8 * p + i : Nat) : Int) + 1 := by omega
    rw [e1, e2]
    have hc := loop_count (hd b kk) ((8 * p + i : Nat) : Int) (fun k j a => impl_Book_kindOk.l1 N k kk ((8 * p : Nat) : Int) ((8 * p + i : Nat) : Int) a (hd b kk) (hd b kk).length j b)
      (fun k a => impl_Book_kindOk.l1 N (k + 1) kk ((8 * p : Nat) : Int) ((8 * p + i : Nat) : Int) a (hd b kk) (hd b kk).length (hd b kk).length b) (fun _ _ => rfl)
      (fun k j a hj h1 h2 => by
        simp (disch := omega) only [impl_Book_kindOk.l1, ct, bnd, w64, Int.toNat_natCast, cndb]
        split <;> rfl)
      (hd b kk).length 0 k 0 (by omega) (by omega) (by omega)
    rw [List.drop_zero, Int.zero_add] at hc
    have enter : impl_Book_kindOk.l0 N (k + ((hd b kk).length + 2)) kk ((8 * p : Nat) : Int) ((8 * p + i : Nat) : Int) b = impl_Book_kindOk.l1 N (k + (hd b kk).length + 1) kk ((8 * p : Nat) : Int) ((8 * p + i : Nat) : Int) 0 (hd b kk) (hd b kk).length 0 b := by
      rw [show k + ((hd b kk).length + 2) = k + (hd b kk).length + 1 + 1 by omega, impl_Book_kindOk.l0, w64 (n := ((8 * p : Nat) : Int) + 8) (by omega) (by omega), ct (by omega)]
      rcases usz_vals hkk4 with ⟨hu, hk⟩ | ⟨hu, hk⟩ | ⟨hu, hk⟩ | ⟨hu, hk⟩ <;> subst hk <;>
        simp (disch := omega) only [ct, cf, hd]
    rw [enter]
    rw [show ((0 : Nat) : Int) = 0 from rfl] at hc
    rw [hc]
    generalize hcc : (hd b kk).count ((8 * p + i : Nat) : Int) = c
    have hu0 : (usz kk : Int) ≠ 0 := by rcases usz_vals hkk4 with ⟨hu, hk⟩ | ⟨hu, hk⟩ | ⟨hu, hk⟩ | ⟨hu, hk⟩ <;> omega
    have hmod : ((8 * p + i : Nat) : Int) % (usz kk : Int) = ((i % usz kk : Nat) : Int) := by rw [← usz_dvd hkk4 p i]; omega
    simp (disch := omega) only [impl_Book_kindOk.l1, cf, impl_unitsOf_eq N hkk4, Option.bind_some, tm, hmod, bnd, Int.toNat_natCast, fold_ow, w64]
    have hroom : roomB b p kk i = tf ((i % usz kk ≠ 0 → ow b (8 * p + i) = 0 ∧ c = 0) ∧ (i % usz kk = 0 → 0 < ow b (8 * p + i) ∧ c = 0 ∨ ow b (8 * p + i) = 0 ∧ c = 1)) := by
      unfold roomB RoomP
      rw [hcc]
    rw [hroom]
    by_cases c1 : i % usz kk = 0
    · have t1 : (((i % usz kk : Nat) : Int) == 0) = true := beq_iff_eq.2 (by omega)
      rw [t1, cond_true, Bool.not_true, cond_false]
      by_cases c2 : ow b (8 * p + i) = 0
      · rw [bne_eq_false_iff_eq.2 c2]
        by_cases c3 : c = 1
        · rw [tf_t ⟨fun h => (h c1).elim, fun _ => .inr ⟨c2, c3⟩⟩, dt (p := (c : Int) > 0) (by omega), cf (by omega)]; rfl
        · rw [tf_f (fun h => by have := h.2 c1; omega)]
          by_cases c4 : (c : Int) > 0
          · rw [dt c4, ct (by omega)]; rfl
          · rw [df c4]; rfl
      · rw [bne_iff_ne.2 c2]
        by_cases c3 : c = 0
        · rw [tf_t ⟨fun h => (h c1).elim, fun _ => .inl ⟨by omega, c3⟩⟩, df (p := (c : Int) > 0) (by omega), cf (by omega)]; rfl
        · rw [tf_f (fun h => by have := h.2 c1; omega), dt (p := (c : Int) > 0) (by omega)]; rfl
    · have t1 : (((i % usz kk : Nat) : Int) == 0) = false := beq_eq_false_iff_ne.2 (by omega)
      have hc0 : c = 0 := by rw [← hcc]; exact lists_first hl hkk4 (by rw [usz_dvd hkk4]; exact c1)
      rw [t1, cond_false, Bool.not_false, cond_true, cf (by omega), cndn]
      by_cases c2 : ow b (8 * p + i) = 0
      · rw [if_pos c2, tf_t ⟨fun _ => ⟨c2, hc0⟩, fun h => (c1 h).elim⟩]; rfl
      · rw [if_neg c2, tf_f (fun h => c2 (h.1 c1).1)]; rfl
  have := loop_allk ((hd b kk).length + 2) (by omega) (some (false, ())) 8 (fun k i => impl_Book_kindOk.l0 N k kk ((8 * p : Nat) : Int) (((8 * p : Nat) : Int) + i) b) (roomB b p kk)
    (fun k => some (decide ((nz (seg b (8 * p) 8) : Int) > 0), ()))
    (fun k => by
      rw [impl_Book_kindOk.l0, w64 (by omega) (by omega), cf (by omega), show ((8 * p : Nat) : Int) + 8 = ((8 * p + 8 : Nat) : Int) by omega, hown]
      rfl)
    step 8 0 (N - 8 * ((hd b kk).length + 2) - 1) (by omega)
  rw [show N - 8 * ((hd b kk).length + 2) - 1 + 8 * ((hd b kk).length + 2) + 1 = N by omega, show ((0 : Nat) : Int) = 0 from rfl, Int.add_zero] at this
  have e8 : (p : Int) * 8 = ((8 * p : Nat) : Int) := by omega
  simp (disch := omega) only [impl_Book_kindOk, bnd, Int.toNat_natCast, fold_pg, hpk, w64, e8, this]
  have hz := nz_seg b (8 * p) 8 (by unfold nu; omega)
  unfold RoomsP
  by_cases c1 : allB (roomB b p kk) 8 0 = true
  · rw [c1, cond_true]
    congr 2
    rw [allB_iff] at c1
    refine tf_eq ?_
    rw [decide_eq_true_iff]
    constructor
    · intro h
      refine ⟨fun u hu => tf_iff.1 (c1 u (by omega) (by omega)), Classical.byContradiction fun g => ?_⟩
      have : nz (seg b (8 * p) 8) = 0 := hz.2 (fun j hj => by
        have h1 := ho (8 * p + j) (by unfold nu; omega)
        by_cases h2 : ow b (8 * p + j) = 0
        · exact h2
        · exact (g ⟨j, hj, by omega⟩).elim)
      omega
    · intro ⟨_, u, h1, h2⟩
      by_cases g : nz (seg b (8 * p) 8) = 0
      · have := hz.1 g u h1
        omega
      · omega
  · rw [tf_f]
    · cases h : allB (roomB b p kk) 8 0
      · rfl
      · exact (c1 h).elim
    · intro h
      exact c1 ((allB_iff _ _ _).2 fun j _ hj => tf_iff.2 (h.1 j (by omega)))
/-- The page at which a walk stands is no further page of a room before it. -/
def Apart (b : Bk) (p : Nat) : Prop := ∀ q, p = q + 1 → ¬ (pg b (back b q) > 8 ∧ (back b q : Int) + pg b (back b q) - 8 > p)
theorem back_self {b : Bk} {p : Nat} (h : pg b p ≠ 7) : back b p = p := by
  cases p with
  | zero => rfl
  | succ p => rw [back, if_neg h]
theorem back_run {b : Bk} {p : Nat} (h : pg b p ≠ 7) : ∀ i, (∀ j, 1 ≤ j → j ≤ i → pg b (p + j) = 7) → back b (p + i) = p
  | 0, _ => back_self h
  | i + 1, g => by
    rw [show p + (i + 1) = (p + i) + 1 by omega, back, if_pos (by have := g (i + 1) (by omega) (Nat.le_refl _); rwa [show p + (i + 1) = (p + i) + 1 by omega] at this)]
    exact back_run h i (fun j h1 h2 => g j h1 (by omega))
theorem apart_next {b : Bk} {p : Nat} (h : pg b p ≤ 8) (h7 : pg b p ≠ 7) : Apart b (p + 1) := by
  intro q hq
  obtain rfl : p = q := by omega
  rw [back_self h7]
  omega
theorem rest_not {b : Bk} {p : Nat} (h : Apart b p) (h7 : pg b p = 7) : ¬ RestP b p := by
  intro ⟨h1, h2, _⟩
  cases p with
  | zero => rw [back] at h1; omega
  | succ q =>
    rw [back, if_pos h7] at h1 h2
    exact h q rfl ⟨h1, h2⟩
/-- All pages from one on are right. -/
def From (b : Bk) (p : Nat) : Prop := ∀ q, p ≤ q → q < np b → PageP b q
theorem from_step {b : Bk} {p : Nat} (hp : p < np b) : From b p ↔ PageP b p ∧ From b (p + 1) :=
  ⟨fun h => ⟨h p (Nat.le_refl _) hp, fun q h1 h2 => h q (by omega) h2⟩, fun ⟨h1, h2⟩ q g1 g2 => by
    by_cases e : q = p
    · subst e; exact h1
    · exact h2 q (by omega) g2⟩
theorem from_end {b : Bk} {p : Nat} (hp : np b ≤ p) : From b p := fun q h1 h2 => by omega
theorem page_wide {b : Bk} {p : Nat} (h0 : pg b p ≠ 0) (h1 : ¬ (1 ≤ pg b p ∧ pg b p ≤ 4)) (h7 : pg b p ≠ 7) : PageP b p ↔ WideP b p :=
  ⟨fun h => h.2.2.2 h0 h1 h7, fun h => ⟨fun g => (h0 g).elim, fun g => (h1 g).elim, fun g => (h7 g).elim, fun _ _ _ => h⟩⟩
/-- The pages that follow in a room of whole pages are right if they have no owners. -/
theorem page_rest {b : Bk} {p : Nat} (h7 : pg b p ≠ 7) (n : Nat) (hn : pg b p = 8 + n) (i : Nat) (h1 : 1 ≤ i) (h2 : i < n) (hr : ∀ j, 1 ≤ j → j < n → pg b (p + j) = 7) : PageP b (p + i) ↔ FreeP b (p + i) 0 := by
  have e7 := hr i h1 h2
  have eb := back_run h7 i (fun j g1 g2 => hr j g1 (by omega))
  constructor
  · intro h
    exact (h.2.2.1 e7).2.2
  · intro h
    refine ⟨fun g => by omega, fun g => by omega, fun _ => ⟨?_, ?_, h⟩, fun _ _ g => (g e7).elim⟩
    · rw [eb]; omega
    · rw [eb]; omega
theorem wide_split {b : Bk} {p : Nat} (n : Nat) (hp : p + n ≤ np b) (h0 : 2 ≤ n) (h4 : n ≤ 4) (hn : pg b p = 8 + n) (ho : ow b (8 * p) ≠ 0) (hr : ∀ j, 1 ≤ j → j < n → pg b (p + j) = 7) :
    From b p ↔ (∀ j, 1 ≤ j → j < 8 * n → ow b (8 * p + j) = 0) ∧ From b (p + n) := by
  have h7 : pg b p ≠ 7 := by omega
  have hw := page_wide (b := b) (p := p) (by omega) (by omega) h7
  constructor
  · intro h
    refine ⟨fun j h1 h2 => ?_, fun q g1 g2 => h q (by omega) g2⟩
    by_cases c : j < 8
    · exact (hw.1 (h p (Nat.le_refl _) (by omega))).2.2.2.2.1 j h1 c
    · have := (page_rest h7 n hn (j / 8) (by omega) (by omega) hr).1 (h (p + j / 8) (by omega) (by omega)) (j % 8) (by omega) (by omega)
      rw [show 8 * p + j = 8 * (p + j / 8) + j % 8 by omega]
      exact this
  · intro ⟨h1, h2⟩ q g1 g2
    by_cases e : q = p
    · subst e
      exact hw.2 ⟨by omega, by omega, by omega, ho, fun u a b => h1 u a (by omega), fun i a b => hr i a (by omega)⟩
    · by_cases c : q < p + n
      · obtain ⟨i, rfl⟩ : ∃ i, q = p + i := ⟨q - p, by omega⟩
        refine (page_rest h7 n hn i (by omega) (by omega) hr).2 fun u _ hu => ?_
        rw [show 8 * (p + i) + u = 8 * p + (8 * i + u) by omega]
        exact h1 _ (by omega) (by omega)
      · exact h2 q (by omega) g2
theorem impl_BookOk_walk (N : Nat) (hN : Fuel N) (b : Bk) (hi : Bi b) (hs : Sizes b) (ho : Owners b) (hl : listsB b = true) (hb : Bshort b) :
    ∀ (d p k : Nat), p + d = np b → 100 * d < k → Apart b p → impl_BookOk.l0 N k p b = some (tf (From b p), ()) := by
  have hs' := hs
  unfold Sizes at hs'
  intro d
  induction d using Nat.strongRecOn with
  | ind d ih =>
    intro p k hpd hk ha
    obtain ⟨k, rfl⟩ := fuel hk
    by_cases hp : p < np b
    rotate_left
    · unfold np at hp
      rw [impl_BookOk.l0, cf (by omega), tf_t (from_end (by unfold np; omega))]
    have hp' := hp
    unfold np at hp'
    have hr := hi.2.1.at p
    rw [fold_pg] at hr
    obtain ⟨r1, r2⟩ := hr
    have hnp : np b = b.2.1.length := rfl
    have hnu : nu b = b.2.2.2.1.length := rfl
    have e8 : (p : Int) * 8 = ((8 * p : Nat) : Int) := by omega
    have e88 : ((8 * p : Nat) : Int) + 8 = ((8 * p + 8 : Nat) : Int) := by omega
    have e1 : (p : Int) + 1 = ((p + 1 : Nat) : Int) := by omega
    have hown := impl_owned_eq N hN b hb (8 * p) 8 (by omega)
    rw [impl_BookOk.l0, ct (by omega), bnd (by omega) (by omega), Int.toNat_natCast, fold_pg, w64 (n := (p : Int) * 8) (by omega) (by omega), w64 (n := (p : Int) * 8 + 8) (by omega) (by omega), w64 (n := (p : Int) + 1) (by omega) (by omega), e8, e88, e1, hown]
    simp only [impl_isKind, impl_within_eq, Option.bind_some]
    rw [cndb]
    by_cases c0 : pg b p = 0
    · rw [if_pos c0, ih (d - 1) (by omega) (p + 1) k (by omega) (by omega) (apart_next (by omega) (by omega))]
      have hz := nz_seg b (8 * p) 8 (by omega)
      have hst := from_step hp
      have hpp : PageP b p ↔ FreeP b p 0 := ⟨fun h => h.1 c0, fun h => ⟨fun _ => h, fun g => by omega, fun g => by omega, fun g => (g c0).elim⟩⟩
      by_cases c : nz (seg b (8 * p) 8) = 0
      · rw [cf (by omega)]
        congr 2
        exact tf_congr ⟨fun h => hst.2 ⟨hpp.2 fun u _ hu => hz.1 c u hu, h⟩, fun h => (hst.1 h).2⟩
      · rw [ct (by omega), tf_f]
        intro h
        exact c (hz.2 fun j hj => hpp.1 (hst.1 h).1 j (by omega) hj)
    rw [if_neg c0]
    by_cases c1 : 1 ≤ pg b p ∧ pg b p ≤ 4
    · rw [dt c1, cond_true, impl_kindOk_eq N hN b hs ho hl hb p hp c1, ih (d - 1) (by omega) (p + 1) k (by omega) (by omega) (apart_next (by omega) (by omega))]
      have hst := from_step hp
      have hpp : PageP b p ↔ RoomsP b p (pg b p - 1).toNat := ⟨fun h => h.2.1 c1, fun h => ⟨fun g => by omega, fun _ => h, fun g => by omega, fun _ g => (g c1).elim⟩⟩
      simp only [Option.bind_some]
      by_cases c : RoomsP b p (pg b p - 1).toNat
      · rw [tf_t c, Bool.not_true, cond_false]
        congr 2
        exact tf_congr ⟨fun h => hst.2 ⟨hpp.2 c, h⟩, fun h => (hst.1 h).2⟩
      · rw [tf_f c, tf_f (fun h => c (hpp.1 (hst.1 h).1))]; rfl
    rw [df c1, cond_false]
    by_cases c2 : 10 ≤ pg b p ∧ pg b p ≤ 12
    rotate_left
    · have hnot : ¬ From b p := by
        intro h
        have hp1 := (from_step hp).1 h |>.1
        by_cases c7 : pg b p = 7
        · exact rest_not ha c7 (hp1.2.2.1 c7)
        · have := hp1.2.2.2 c0 c1 c7
          exact c2 ⟨this.1, this.2.1⟩
      rw [tf_f hnot, df]
      · rfl
      · rw [IntKind.wrap_i64]; omega
    obtain ⟨n, hn⟩ : ∃ n : Nat, pg b p = 8 + n := ⟨(pg b p - 8).toNat, by omega⟩
    have w1 : IntKind.i64.wrap (pg b p - 8) = (n : Int) := by rw [w64 (by omega) (by omega)]; omega
    have w2 : IntKind.i64.wrap ((b.2.1.length : Int) - (p : Int)) = (b.2.1.length : Int) - (p : Int) := w64 (by omega) (by omega)
    have w3 : IntKind.i64.wrap (((8 * p : Nat) : Int) + IntKind.i64.wrap ((n : Int) * 8)) = ((8 * p + 8 * n : Nat) : Int) := by rw [w64 (n := (n : Int) * 8) (by omega) (by omega), w64 (by omega) (by omega)]; omega
    have w4 : IntKind.i64.wrap ((n : Int) - 1) = (n : Int) - 1 := w64 (by omega) (by omega)
    rw [w1, w2, w3, w4, dt (by omega), Bool.not_true, cond_false]
    have h7 : pg b p ≠ 7 := by omega
    have hw := page_wide (b := b) (p := p) c0 c1 h7
    by_cases c3 : (n : Int) > (b.2.1.length : Int) - (p : Int)
    · rw [ct c3, tf_f]
      intro h
      have := (hw.1 ((from_step hp).1 h).1).2.2.1
      omega
    rw [cf c3, bnd (by omega) (by omega), Int.toNat_natCast, fold_ow, cndb]
    by_cases c4 : ow b (8 * p) = 0
    · rw [if_pos c4, tf_f]
      intro h
      exact (hw.1 ((from_step hp).1 h).1).2.2.2.1 c4
    have hown2 := impl_owned_eq N hN b hb (8 * p) (8 * n) (by omega)
    rw [if_neg c4, hown2]
    simp only [Option.bind_some]
    -- the walk over the further pages
    have follow : ∀ (e i k : Nat), i + e = n - 1 → e < k → impl_BookOk.l1 N k ((p + i : Nat) : Int) ((n : Int) - 1) (i : Int) b = cond (allB (fun j => decide (pg b (p + 1 + j) = 7)) e i) (impl_BookOk.l0 N (k - e - 1) ((p + n : Nat) : Int) b) (some (false, ())) := by
      intro e
      induction e with
      | zero =>
        intro i k h1 h2
        obtain ⟨k, rfl⟩ := fuel h2
        rw [impl_BookOk.l1, cf (by omega), allB, cond_true, w64 (by omega) (by omega)]
        rw [show ((p + i : Nat) : Int) + 1 = ((p + n : Nat) : Int) by omega]
        rfl
      | succ e ihe =>
        intro i k h1 h2
        obtain ⟨k, rfl⟩ := fuel h2
        have w5 : IntKind.i64.wrap (((p + i : Nat) : Int) + 1) = ((p + (i + 1) : Nat) : Int) := by rw [w64 (by omega) (by omega)]; omega
        have w6 : IntKind.i64.wrap ((i : Int) + 1) = ((i + 1 : Nat) : Int) := by rw [w64 (by omega) (by omega)]; omega
        rw [impl_BookOk.l1, ct (by omega), w5, w6, bnd (by omega) (by omega), Int.toNat_natCast, fold_pg, cndn, allB, show p + (i + 1) = p + 1 + i by omega]
        by_cases c : pg b (p + 1 + i) = 7
        · rw [if_pos c, dt c, Bool.true_and, show p + 1 + i = p + (i + 1) by omega, ihe (i + 1) k (by omega) (by omega), show k + 1 - (e + 1) - 1 = k - e - 1 by omega]
        · rw [if_neg c, df c]; rfl
    have hz := nz_seg b (8 * p + 1) (8 * n - 1) (by omega)
    have hcons := nz_cons b (8 * p) (8 * n - 1) (by omega) c4
    rw [show 8 * n - 1 + 1 = 8 * n by omega] at hcons
    by_cases c7 : allB (fun j => decide (pg b (p + 1 + j) = 7)) (n - 1) 0 = true
    · have hrun : ∀ j, 1 ≤ j → j < n → pg b (p + j) = 7 := by
        intro j h1 h2
        have := of_decide_eq_true ((allB_iff _ _ _).1 c7 (j - 1) (by omega) (by omega))
        rwa [show p + 1 + (j - 1) = p + j by omega] at this
      have hsplit := wide_split n (by omega) (by omega) (by omega) hn c4 hrun
      have hap : Apart b (p + n) := by
        intro q hq
        have eb := back_run h7 (n - 1) (fun j g1 g2 => hrun j g1 (by omega))
        rw [show p + (n - 1) = q by omega] at eb
        rw [eb]
        omega
      have hf := follow (n - 1) 0 k (by omega) (by omega)
      rw [c7, cond_true, ih (d - n) (by omega) (p + n) _ (by omega) (by omega) hap, Nat.add_zero, show ((0 : Nat) : Int) = 0 from rfl] at hf
      rw [hf]
      by_cases c : nz (seg b (8 * p) (8 * n)) = 1
      · rw [cndn, if_pos (by omega)]
        congr 2
        refine tf_congr ⟨fun h => hsplit.2 ⟨fun j g1 g2 => ?_, h⟩, fun h => (hsplit.1 h).2⟩
        have := hz.1 (by omega) (j - 1) (by omega)
        rwa [show 8 * p + 1 + (j - 1) = 8 * p + j by omega] at this
      · rw [cndn, if_neg (by omega), tf_f]
        intro h
        have : nz (seg b (8 * p + 1) (8 * n - 1)) = 0 := hz.2 fun j hj => by
          have := (hsplit.1 h).1 (j + 1) (by omega) (by omega)
          rwa [show 8 * p + 1 + j = 8 * p + (j + 1) by omega]
        omega
    · have hf := follow (n - 1) 0 k (by omega) (by omega)
      have c7' : allB (fun j => decide (pg b (p + 1 + j) = 7)) (n - 1) 0 = false := by
        cases h : allB (fun j => decide (pg b (p + 1 + j) = 7)) (n - 1) 0
        · rfl
        · exact (c7 h).elim
      rw [c7', cond_false, Nat.add_zero, show ((0 : Nat) : Int) = 0 from rfl] at hf
      rw [hf, tf_f]
      · cases ((nz (seg b (8 * p) (8 * n)) : Int) != 1) <;> rfl
      · intro h
        refine c7 ((allB_iff _ _ _).2 fun j h1 h2 => dt ?_)
        have := (hw.1 ((from_step hp).1 h).1).2.2.2.2.2 (j + 1) (by omega) (by omega)
        rwa [show p + (j + 1) = p + 1 + j by omega] at this
theorem impl_BookOk_eq (N : Nat) (hN : Fuel N) (b : Bk) (hi : Bi b) (hb : Bshort b) : impl_BookOk N b = some (bookOk b, ()) := by
  unfold impl_BookOk bookOk BookP
  rw [impl_shapeOk_eq N hN b hi hb]
  simp only [Option.bind_some]
  cases h1 : slotsB b
  · rw [tf_f (fun h => by cases h.1)]; rfl
  have hs := slotsB_sizes h1
  have ho := slotsB_owners h1
  cases h2 : listsB b
  · rw [tf_f (fun h => by cases h.2.1)]; rfl
  have hs' := hs
  unfold Sizes at hs'
  have := impl_BookOk_walk N hN b hi hs ho h2 hb (np b) 0 N (by omega) (by omega) (fun q h => by omega)
  rw [show ((0 : Nat) : Int) = 0 from rfl] at this
  rw [Bool.and_self, Bool.not_true, cond_false, this]
  congr 2
  exact tf_congr ⟨fun h => ⟨by trivial, by trivial, fun p hp => h p (by omega) hp⟩, fun h q _ hq => h.2.2 q hq⟩
abbrev H4 := List Int × List Int × List Int × List Int
def sz4 (h : H4) : Int := h.1.length + (h.2.1.length + (h.2.2.1.length + (h.2.2.2.length + 0)))
def szB (b : Bk) : Int := b.2.1.length + (sz4 b.2.2.1 + (b.2.2.2.1.length + (b.2.2.2.2.1.length + (b.2.2.2.2.2.length + 0))))
theorem sz4_ge (a : H4) : 0 ≤ sz4 a := by unfold sz4; omega
theorem hd_len (b : Bk) (k : Nat) : (hd b k).length ≤ sz4 b.2.2.1 := by
  unfold sz4
  match k with
  | 0 => show ((b.2.2.1.1).length : Int) ≤ _; omega
  | 1 => show ((b.2.2.1.2.1).length : Int) ≤ _; omega
  | 2 => show ((b.2.2.1.2.2.1).length : Int) ≤ _; omega
  | _ + 3 => show ((b.2.2.1.2.2.2).length : Int) ≤ _; omega
theorem Bshort.of {b : Bk} (h : szB b ≤ 1048576) : Bshort b := by
  have h4 := sz4_ge b.2.2.1
  unfold szB at h
  refine ⟨by unfold Short; omega, fun k => ?_, by unfold Short; omega, by unfold Short; omega, by unfold Short; omega⟩
  have := hd_len b k
  unfold Short; omega
theorem BookP.sizes {b : Bk} (h : BookP b) : Sizes b := slotsB_sizes h.1
theorem BookP.owners {b : Bk} (h : BookP b) : Owners b := slotsB_owners h.1
theorem BookP.dims {b : Bk} (h : BookP b) : 1 ≤ np b ∧ np b ≤ 6 ∧ nu b = np b * 8 ∧ 1 ≤ b.1 ∧ b.1 ≤ 4 := by
  have := h.sizes
  unfold Sizes at this
  omega
theorem BookP.page {b : Bk} (h : BookP b) {p : Nat} (hp : p < np b) : PageP b p := h.2.2 p hp
theorem BookP.cases {b : Bk} (h : BookP b) {p : Nat} (hp : p < np b) : pg b p = 0 ∨ (1 ≤ pg b p ∧ pg b p ≤ 4) ∨ pg b p = 7 ∨ (10 ≤ pg b p ∧ pg b p ≤ 12) := by
  have := h.page hp
  by_cases h0 : pg b p = 0
  · exact .inl h0
  by_cases h1 : 1 ≤ pg b p ∧ pg b p ≤ 4
  · exact .inr (.inl h1)
  by_cases h7 : pg b p = 7
  · exact .inr (.inr (.inl h7))
  · have := this.2.2.2 h0 h1 h7
    exact .inr (.inr (.inr ⟨this.1, this.2.1⟩))
theorem BookP.wide {b : Bk} (h : BookP b) {p : Nat} (hp : p < np b) (hw : 10 ≤ pg b p) : WideP b p := by
  rcases h.cases hp with h0 | h1 | h7 | h8
  · omega
  · omega
  · omega
  · exact (h.page hp).2.2.2 (by omega) (by omega) (by omega)
/-- Where an owner stands. -/
theorem BookP.owned {b : Bk} (h : BookP b) {u : Nat} (hu : u < nu b) (ho : ow b u ≠ 0) : ∃ p, u / 8 = p ∧ p < np b ∧ ((1 ≤ pg b p ∧ pg b p ≤ 4 ∧ u % usz (pg b p - 1).toNat = 0) ∨ (10 ≤ pg b p ∧ pg b p ≤ 12 ∧ u = 8 * p)) := by
  have hd := h.dims
  refine ⟨u / 8, rfl, by omega, ?_⟩
  have hp : u / 8 < np b := by omega
  have hP := h.page hp
  have eu : 8 * (u / 8) + u % 8 = u := by omega
  rcases h.cases hp with h0 | h1 | h7 | h8
  · have := hP.1 h0 (u % 8) (by omega) (by omega)
    rw [eu] at this
    exact (ho this).elim
  · left
    refine ⟨h1.1, h1.2, ?_⟩
    have hr := (hP.2.1 h1).1 (u % 8) (by omega)
    have h4 : (pg b (u / 8) - 1).toNat < 4 := by omega
    have e := usz_dvd h4 (u / 8) (u % 8)
    rw [eu] at e
    rw [e]
    apply Classical.byContradiction
    intro g
    have := (hr.1 g).1
    rw [eu] at this
    exact ho this
  · have := (hP.2.2.1 h7).2.2 (u % 8) (by omega) (by omega)
    rw [eu] at this
    exact (ho this).elim
  · right
    refine ⟨h8.1, h8.2, ?_⟩
    have hw := h.wide hp h8.1
    apply Classical.byContradiction
    intro g
    have := hw.2.2.2.2.1 (u % 8) (by omega) (by omega)
    rw [eu] at this
    exact ho this
/-- The size of the room that begins at a unit, or 0. -/
def room (b : Bk) (u : Nat) : Int := if ow b u = 0 then 0 else if 1 ≤ pg b (u / 8) ∧ pg b (u / 8) ≤ 4 then (usz (pg b (u / 8) - 1).toNat : Int) else (pg b (u / 8) - 8) * 8
theorem BookP.room_le {b : Bk} (h : BookP b) {u : Nat} (hu : u < nu b) : 0 ≤ room b u ∧ room b u ≤ 32 ∧ (u : Int) + room b u ≤ nu b ∧ (ow b u ≠ 0 → 0 < room b u) := by
  have hd := h.dims
  unfold room
  by_cases c : ow b u = 0
  · rw [if_pos c]; exact ⟨by omega, by omega, by omega, fun g => (g c).elim⟩
  rw [if_neg c]
  obtain ⟨p, e, hp, hh⟩ := h.owned hu c
  rw [e]
  rcases hh with ⟨h1, h2, h3⟩ | ⟨h1, h2, h3⟩
  · rw [if_pos ⟨h1, h2⟩]
    have h4 : (pg b p - 1).toNat < 4 := by omega
    rcases usz_vals h4 with ⟨hu2, _⟩ | ⟨hu2, _⟩ | ⟨hu2, _⟩ | ⟨hu2, _⟩ <;> rw [hu2] at h3 ⊢ <;> omega
  · rw [if_neg (by omega)]
    have := (h.wide hp h1).2.2.1
    omega
theorem spec_l3Room_eq (N : Nat) {b : Bk} (h : BookP b) (u : Nat) (hu : u < nu b) : spec_l3Room N b u = some (room b u, ()) := by
  have hd := h.dims
  have hu' := hu
  unfold nu at hu'
  have hnp : np b = b.2.1.length := rfl
  have hnu : nu b = b.2.2.2.1.length := rfl
  have e8 : ((u : Int) / 8).toNat = u / 8 := by omega
  simp (disch := omega) only [spec_l3Room, cf, bnd, Int.toNat_natCast, fold_ow, td, w64, e8, fold_pg, spec_l3Kind_eq, Option.bind_some, cndb]
  unfold room
  by_cases c : ow b u = 0
  · rw [if_pos c, if_pos c]
  rw [if_neg c, if_neg c]
  have hc := h.cases (p := u / 8) (by omega)
  by_cases c1 : 1 ≤ pg b (u / 8) ∧ pg b (u / 8) ≤ 4
  · simp only [if_pos c1]
    have ek : pg b (u / 8) - 1 = ((pg b (u / 8) - 1).toNat : Int) := by omega
    rw [ct (by omega), ek, spec_l3Size_eq N (by omega)]
    rfl
  · simp only [if_neg c1]
    rw [cf (by omega), w64 (n := pg b (u / 8) - 8) (by omega) (by omega), w64 (by omega) (by omega)]
/-- The room that contains a unit: where it begins, its size, its owner. -/
def blk (b : Bk) (u : Nat) : Int × Int × Int :=
  let q := back b (u / 8)
  if pg b q = 0 then (8 * (q : Int), 0, 0)
  else if 1 ≤ pg b q ∧ pg b q ≤ 4 then (((u - u % usz (pg b q - 1).toNat : Nat) : Int), (usz (pg b q - 1).toNat : Int), ow b (u - u % usz (pg b q - 1).toNat))
  else (8 * (q : Int), (pg b q - 8) * 8, ow b (8 * q))
theorem impl_at_eq (N : Nat) (hN : Fuel N) {b : Bk} (h : BookP b) (u : Nat) (hu : u < nu b) : impl_Book_at N b u = some (blk b u, ()) := by
  have hd := h.dims
  have hnp : np b = b.2.1.length := rfl
  have hnu : nu b = b.2.2.2.1.length := rfl
  have main : ∀ q k, q < k → q ≤ u / 8 → back b q = back b (u / 8) → impl_Book_at.l0 N k u q b = some (blk b u, ()) := by
    intro q
    have leaf : ∀ q k, q ≤ u / 8 → q = back b (u / 8) → pg b q ≠ 7 → impl_Book_at.l0 N (k + 1) u q b = some (blk b u, ()) := by
      intro q k hq hb h7
      have hc := h.cases (p := q) (by omega)
      rw [impl_Book_at.l0, bnd (by omega) (by omega), bnd (by omega) (by omega), Int.toNat_natCast, fold_pg, cndb, if_neg h7, cndb]
      unfold blk
      rw [← hb]
      dsimp only
      have w8 : IntKind.i64.wrap ((q : Int) * 8) = 8 * (q : Int) := by rw [w64 (by omega) (by omega)]; omega
      by_cases c0 : pg b q = 0
      · rw [if_pos c0, if_pos c0, w8]
      rw [if_neg c0, if_neg c0]
      simp only [impl_isKind, impl_within_eq, Option.bind_some]
      by_cases c1 : 1 ≤ pg b q ∧ pg b q ≤ 4
      · have ek : IntKind.i64.wrap (pg b q - 1) = ((pg b q - 1).toNat : Int) := by rw [w64 (by omega) (by omega)]; omega
        have h4 : (pg b q - 1).toNat < 4 := by omega
        have hz : usz (pg b q - 1).toNat ≠ 0 := by rcases usz_vals h4 with ⟨hu, hk⟩ | ⟨hu, hk⟩ | ⟨hu, hk⟩ | ⟨hu, hk⟩ <;> omega
        have e1 : IntKind.i64.wrap ((u : Int) - Int.tmod u (usz (pg b q - 1).toNat)) = ((u - u % usz (pg b q - 1).toNat : Nat) : Int) := by
          rw [tm (by omega)]
          have := Nat.mod_le u (usz (pg b q - 1).toNat)
          have e : (u : Int) % (usz (pg b q - 1).toNat : Int) = ((u % usz (pg b q - 1).toNat : Nat) : Int) := by omega
          rw [e, w64 (by omega) (by omega)]; omega
        rw [dt c1, cond_true, if_pos c1, ek, impl_unitsOf_eq N h4]
        simp only [Option.bind_some]
        rw [cf (by omega), e1, bnd (by omega) (by omega), Int.toNat_natCast, fold_ow]
      · rw [df c1, cond_false, if_neg c1, w8, bnd (by omega) (by omega), w64 (n := pg b q - 8) (by omega) (by omega), w64 (by omega) (by omega), show (8 * (q : Int)).toNat = 8 * q by omega, fold_ow]
    induction q with
    | zero =>
      intro k hk hq hb
      obtain ⟨k, rfl⟩ := fuel hk
      refine leaf 0 k hq (by rw [← hb]; rfl) ?_
      intro h7
      have := (h.page (p := 0) (by omega)).2.2.1 h7
      have := this.1
      rw [back] at this
      omega
    | succ q ih =>
      intro k hk hq hb
      obtain ⟨k, rfl⟩ := fuel hk
      by_cases h7 : pg b (q + 1) = 7
      · have w1 : IntKind.i64.wrap (((q + 1 : Nat) : Int) - 1) = (q : Int) := by rw [w64 (by omega) (by omega)]; omega
        rw [impl_Book_at.l0, bnd (by omega) (by omega), Int.toNat_natCast, fold_pg, cndb, if_pos h7, w1]
        exact ih k (by omega) (by omega) (by rw [← hb, back, if_pos h7])
      · exact leaf (q + 1) k hq (by rw [← hb, back_self h7]) h7
  have e8 : IntKind.i64.wrap (Int.tdiv (u : Int) 8) = ((u / 8 : Nat) : Int) := by rw [td (by omega), w64 (by omega) (by omega)]; omega
  unfold impl_Book_at
  rw [e8]
  exact main (u / 8) N (by omega) (Nat.le_refl _) rfl
/-- A room that has an owner and contains a unit is the one that 'blk' tells. -/
theorem blk_of {b : Bk} (h : BookP b) {v u : Nat} (hv : v ≤ u) (hu : u < nu b) (ho : ow b v ≠ 0) (hr : (u : Int) < v + room b v) : blk b u = ((v : Int), room b v, ow b v) := by
  have hd := h.dims
  obtain ⟨p, e, hp, hh⟩ := h.owned (u := v) (by omega) ho
  unfold room at hr ⊢
  rw [if_neg ho, e] at hr ⊢
  rcases hh with ⟨h1, h2, h3⟩ | ⟨h1, h2, h3⟩
  · rw [if_pos ⟨h1, h2⟩] at hr ⊢
    have h4 : (pg b p - 1).toNat < 4 := by omega
    have hup : u / 8 = p ∧ u - u % usz (pg b p - 1).toNat = v := by
      rcases usz_vals h4 with ⟨hz, _⟩ | ⟨hz, _⟩ | ⟨hz, _⟩ | ⟨hz, _⟩ <;> rw [hz] at h3 hr ⊢ <;> omega
    unfold blk
    rw [hup.1, back_self (by omega)]
    dsimp only
    rw [if_neg (by omega), if_pos ⟨h1, h2⟩, hup.2]
  · rw [if_neg (by omega)] at hr ⊢
    have hw := h.wide hp h1
    have hb : back b (u / 8) = p := by
      have := back_run (b := b) (p := p) (by omega) (u / 8 - p) (fun j g1 g2 => hw.2.2.2.2.2 j g1 (by omega))
      rwa [show p + (u / 8 - p) = u / 8 by omega] at this
    unfold blk
    rw [hb]
    dsimp only
    rw [if_neg (by omega), if_neg (by omega), h3]
    rfl
/-- What 'blk' tells: a room with an owner; or one without; or an empty page. -/
theorem blk_cases {b : Bk} (h : BookP b) {u : Nat} (hu : u < nu b) :
    (∃ v, v ≤ u ∧ (u : Int) < v + room b v ∧ ow b v ≠ 0 ∧ blk b u = ((v : Int), room b v, ow b v)) ∨
    ((∀ v, v ≤ u → (v : Int) + room b v ≤ u) ∧ ((pg b (u / 8) = 0 ∧ blk b u = (8 * ((u / 8 : Nat) : Int), 0, 0)) ∨
      (1 ≤ pg b (u / 8) ∧ pg b (u / 8) ≤ 4 ∧ ow b (u - u % usz (pg b (u / 8) - 1).toNat) = 0 ∧ blk b u = (((u - u % usz (pg b (u / 8) - 1).toNat : Nat) : Int), (usz (pg b (u / 8) - 1).toNat : Int), 0)))) := by
  have hd := h.dims
  have hp : u / 8 < np b := by omega
  have none_of : (∀ v, v ≤ u → ow b v ≠ 0 → (u : Int) < v + room b v → False) → ∀ v, v ≤ u → (v : Int) + room b v ≤ u := by
    intro g v hv
    by_cases c : ow b v = 0
    · unfold room; rw [if_pos c]; omega
    · apply Classical.byContradiction
      intro g2
      exact g v hv c (by omega)
  rcases h.cases hp with h0 | h1 | h7 | h8
  · right
    have hb : blk b u = (8 * ((u / 8 : Nat) : Int), 0, 0) := by
      unfold blk
      rw [back_self (by omega)]
      dsimp only
      rw [if_pos h0]
    refine ⟨none_of fun v hv ho hr => ?_, .inl ⟨h0, hb⟩⟩
    have e := blk_of h hv hu ho hr
    rw [hb] at e
    have := congrArg (fun x => x.2.2) e
    dsimp only at this
    omega
  · have h4 : (pg b (u / 8) - 1).toNat < 4 := by omega
    have hz : usz (pg b (u / 8) - 1).toNat ≠ 0 := by rcases usz_vals h4 with ⟨hu, hk⟩ | ⟨hu, hk⟩ | ⟨hu, hk⟩ | ⟨hu, hk⟩ <;> omega
    have hb : blk b u = (((u - u % usz (pg b (u / 8) - 1).toNat : Nat) : Int), (usz (pg b (u / 8) - 1).toNat : Int), ow b (u - u % usz (pg b (u / 8) - 1).toNat)) := by
      unfold blk
      rw [back_self (by omega)]
      dsimp only
      rw [if_neg (by omega), if_pos h1]
    have hle := Nat.mod_le u (usz (pg b (u / 8) - 1).toNat)
    have hlt := Nat.mod_lt u (Nat.pos_of_ne_zero hz)
    have hpage : (u - u % usz (pg b (u / 8) - 1).toNat) / 8 = u / 8 := by
      rcases usz_vals h4 with ⟨hz, _⟩ | ⟨hz, _⟩ | ⟨hz, _⟩ | ⟨hz, _⟩ <;> rw [hz] <;> omega
    by_cases c : ow b (u - u % usz (pg b (u / 8) - 1).toNat) = 0
    · right
      refine ⟨none_of fun v hv ho hr => ?_, .inr ⟨h1.1, h1.2, c, by rw [hb, c]⟩⟩
      have e := blk_of h hv hu ho hr
      rw [hb] at e
      have := congrArg (fun x => x.2.2) e
      dsimp only at this
      omega
    · left
      have hroom : room b (u - u % usz (pg b (u / 8) - 1).toNat) = (usz (pg b (u / 8) - 1).toNat : Int) := by
        unfold room
        rw [if_neg c, hpage, if_pos h1]
      exact ⟨u - u % usz (pg b (u / 8) - 1).toNat, by omega, by rw [hroom]; omega, c, by rw [hb, hroom]⟩
  · left
    have hR := (h.page hp).2.2.1 h7
    have hbl := back_le b (u / 8)
    have hw := h.wide (p := back b (u / 8)) (by omega) (by
      rcases h.cases (p := back b (u / 8)) (by omega) with g | g | g | g
      · have := hR.1; omega
      · have := hR.1; omega
      · have := hR.1; omega
      · omega)
    have h1 := hw.1
    have h2 := hR.2.1
    have ho := hw.2.2.2.1
    have e8 : 8 * back b (u / 8) / 8 = back b (u / 8) := by omega
    have hroom : room b (8 * back b (u / 8)) = (pg b (back b (u / 8)) - 8) * 8 := by
      unfold room
      rw [if_neg ho, e8, if_neg (by omega)]
    refine ⟨8 * back b (u / 8), by omega, by rw [hroom]; omega, ho, ?_⟩
    exact blk_of h (by omega) hu ho (by rw [hroom]; omega)
  · left
    have hw := h.wide hp h8.1
    have ho := hw.2.2.2.1
    have e8 : 8 * (u / 8) / 8 = u / 8 := by omega
    have hroom : room b (8 * (u / 8)) = (pg b (u / 8) - 8) * 8 := by
      unfold room
      rw [if_neg ho, e8, if_neg (by omega)]
    exact ⟨8 * (u / 8), by omega, by rw [hroom]; omega, ho, blk_of h (by omega) hu ho (by rw [hroom]; omega)⟩
theorem spec_TidyAt_walk (N : Nat) {b : Bk} (h : BookP b) (u : Nat) (hu : u < nu b) : ∀ (d v k : Nat), v + d = u + 1 → d < k → (∀ w, w < v → (w : Int) + room b w ≤ u) → spec_TidyAt.l0 N k u v b = some (blk b u, ()) := by
  have hd := h.dims
  have hnp : np b = b.2.1.length := rfl
  have hnu : nu b = b.2.2.2.1.length := rfl
  intro d
  induction d with
  | zero =>
    intro v k hv hk hn
    obtain ⟨k, rfl⟩ := fuel hk
    have e8 : IntKind.i64.wrap (Int.tdiv (u : Int) 8) = ((u / 8 : Nat) : Int) := by rw [td (by omega), w64 (by omega) (by omega)]; omega
    rw [spec_TidyAt.l0, cf (by omega), e8, bnd (by omega) (by omega), Int.toNat_natCast, fold_pg, spec_l3Kind_eq]
    simp only [Option.bind_some]
    rcases blk_cases h hu with ⟨w, h1, h2, _⟩ | ⟨_, ⟨h0, hb⟩ | ⟨h1, h2, h3, hb⟩⟩
    · have := hn w (by omega); omega
    · rw [if_neg (by omega), ct (by omega), hb, w64 (by omega) (by omega)]
      congr 2
      rw [Int.mul_comm]
    · have ek : pg b (u / 8) - 1 = ((pg b (u / 8) - 1).toNat : Int) := by omega
      have h4 : (pg b (u / 8) - 1).toNat < 4 := by omega
      have hz : usz (pg b (u / 8) - 1).toNat ≠ 0 := by rcases usz_vals h4 with ⟨hu, hk⟩ | ⟨hu, hk⟩ | ⟨hu, hk⟩ | ⟨hu, hk⟩ <;> omega
      rw [if_pos ⟨h1, h2⟩, cf (by omega), ek, spec_l3Size_eq N h4]
      simp only [Option.bind_some]
      have e1 : IntKind.i64.wrap (IntKind.i64.wrap (Int.tdiv (u : Int) (usz (pg b (u / 8) - 1).toNat : Int)) * (usz (pg b (u / 8) - 1).toNat : Int)) = ((u - u % usz (pg b (u / 8) - 1).toNat : Nat) : Int) := by
        rw [td (by omega)]
        rcases usz_vals h4 with ⟨hz, _⟩ | ⟨hz, _⟩ | ⟨hz, _⟩ | ⟨hz, _⟩ <;> rw [hz] <;> (rw [w64 (n := (u : Int) / _) (by omega) (by omega), w64 (by omega) (by omega)]; omega)
      rw [cf (by omega), e1, hb]
  | succ d ih =>
    intro v k hv hk hn
    obtain ⟨k, rfl⟩ := fuel hk
    have hr := h.room_le (u := v) (by omega)
    rw [spec_TidyAt.l0, ct (by omega), spec_l3Room_eq N h v (by omega)]
    simp only [Option.bind_some]
    rw [w64 (by omega) (by omega), bnd (by omega) (by omega), Int.toNat_natCast, fold_ow, w64 (n := (v : Int) + 1) (by omega) (by omega)]
    by_cases c : room b v > (u : Int) - v
    · have ho : ow b v ≠ 0 := by
        intro e
        unfold room at c
        rw [if_pos e] at c
        omega
      rw [ct c, blk_of h (by omega) hu ho (by omega)]
    · rw [cf c, show (v : Int) + 1 = ((v + 1 : Nat) : Int) by omega]
      refine ih (v + 1) k (by omega) (by omega) fun w hw => ?_
      by_cases e : w = v
      · subst e; omega
      · exact hn w (by omega)
noncomputable def tidyAt (b : Bk) (u : Int) : Int × Int × Int := @ite _ (BookP b ∧ 0 ≤ u ∧ u < nu b) (Classical.propDecidable _) (blk b u.toNat) (0, 0, 0)
theorem spec_TidyAt_eq (N : Nat) (hN : Fuel N) (b : Bk) (hi : Bi b) (hb : Bshort b) (u : Int) : spec_TidyAt N b u = some (tidyAt b u, ()) := by
  have hsh := hb.2.2.1
  unfold Short at hsh
  have hnu : nu b = b.2.2.2.1.length := rfl
  unfold spec_TidyAt tidyAt
  rw [spec_BookOk_eq N hN b hi hb]
  simp only [Option.bind_some]
  by_cases h : BookP b
  rotate_left
  · rw [bookOk, tf_f h, if_neg (fun g => h g.1)]; rfl
  rw [bookOk, tf_t h, Bool.not_true, cond_false]
  by_cases c : u < 0
  · rw [ct c, if_neg (by omega)]
  rw [cf c]
  by_cases c2 : u ≥ (b.2.2.2.1.length : Int)
  · rw [ct c2, if_neg (by omega)]
  rw [cf c2, if_pos ⟨h, by omega, by omega⟩]
  have := spec_TidyAt_walk N h u.toNat (by omega) (u.toNat + 1) 0 N (by omega) (by omega) (fun w hw => by omega)
  rw [show ((0 : Nat) : Int) = 0 from rfl, Int.toNat_of_nonneg (by omega)] at this
  exact this
/-- The first units of the rooms of an owner, from unit `i` on, `d` units. -/
def blksOf (b : Bk) (s : Int) : Nat → Nat → List Int
  | 0, _ => []
  | d + 1, i => if ow b i = s + 1 then (i : Int) :: blksOf b s d (i + 1) else blksOf b s d (i + 1)
theorem BookP.ow_nn {b : Bk} (h : BookP b) {u : Nat} (hu : u < nu b) : 0 ≤ ow b u := h.owners u hu
theorem blks_mem (b : Bk) (s : Int) : ∀ d i, ∀ x ∈ blksOf b s d i, ∃ u : Nat, x = u ∧ i ≤ u ∧ u < i + d ∧ ow b u = s + 1
  | 0, i, x, hx => by simp [blksOf] at hx
  | d + 1, i, x, hx => by
    simp only [blksOf] at hx
    by_cases c : ow b i = s + 1
    · rw [if_pos c] at hx
      rcases List.mem_cons.1 hx with e | hx
      · exact ⟨i, e, by omega, by omega, c⟩
      · obtain ⟨u, e, h1, h2, h3⟩ := blks_mem b s d (i + 1) x hx
        exact ⟨u, e, by omega, by omega, h3⟩
    · rw [if_neg c] at hx
      obtain ⟨u, e, h1, h2, h3⟩ := blks_mem b s d (i + 1) x hx
      exact ⟨u, e, by omega, by omega, h3⟩
/-- A sum over the first numbers. -/
def sm (f : Nat → Int) : Nat → Int
  | 0 => 0
  | n + 1 => sm f n + f n
theorem sm_congr {f g : Nat → Int} : ∀ n, (∀ i, i < n → f i = g i) → sm f n = sm g n
  | 0, _ => rfl
  | n + 1, h => by rw [sm, sm, sm_congr n (fun i hi => h i (by omega)), h n (by omega)]
theorem sm_add (f g : Nat → Int) : ∀ n, sm (fun i => f i + g i) n = sm f n + sm g n
  | 0 => rfl
  | n + 1 => by simp only [sm, sm_add f g n]; omega
theorem sm_le (f : Nat → Int) (c : Int) : ∀ n, (∀ i, i < n → 0 ≤ f i ∧ f i ≤ c) → 0 ≤ sm f n ∧ sm f n ≤ c * n
  | 0, _ => by simp [sm]
  | n + 1, h => by
    have h1 := sm_le f c n (fun i hi => h i (by omega))
    have h2 := h n (by omega)
    have : c * ((n + 1 : Nat) : Int) = c * n + c := by rw [show ((n + 1 : Nat) : Int) = (n : Int) + 1 by omega, Int.mul_add, Int.mul_one]
    rw [sm, this]; omega
theorem sm_zero : ∀ n, sm (fun _ => 0) n = 0
  | 0 => rfl
  | n + 1 => by rw [sm, sm_zero n]; rfl
/-- A count is a sum over the numbers below a bound. -/
theorem count_sm (n : Nat) : ∀ (l : List Int), (∀ x ∈ l, 0 ≤ x ∧ x < n) → (l.length : Int) = sm (fun u => (l.count ((u : Nat) : Int) : Int)) n
  | [], _ => by simp only [List.count_nil, List.length_nil]; exact (sm_zero n).symm
  | x :: r, h => by
    have h1 := count_sm n r (fun y hy => h y (List.mem_cons_of_mem _ hy))
    have h2 := h x (List.mem_cons_self)
    have e : ∀ u : Nat, (((x :: r).count ((u : Nat) : Int) : Nat) : Int) = (r.count ((u : Nat) : Int) : Int) + (if u = x.toNat then 1 else 0) := by
      intro u
      rw [List.count_cons]
      by_cases c : x = (u : Int)
      · rw [if_pos (by simp [c]), if_pos (by omega)]; omega
      · rw [if_neg (by simp [c]), if_neg (by omega)]; omega
    have one : ∀ m, sm (fun u => if u = x.toNat then 1 else 0) m = if x.toNat < m then 1 else 0 := by
      intro m
      induction m with
      | zero => rfl
      | succ m ih =>
        rw [sm, ih]
        by_cases c : m = x.toNat
        · rw [if_pos c, if_neg (by omega), if_pos (by omega)]; rfl
        · rw [if_neg c]
          by_cases c2 : x.toNat < m
          · rw [if_pos c2, if_pos (by omega)]; rfl
          · rw [if_neg c2, if_neg (by omega)]; rfl
    rw [sm_congr n (fun u _ => e u), sm_add, one, if_pos (by omega), ← h1, List.length_cons]
    omega
noncomputable def empU (b : Bk) (u : Nat) : Int := if (blk b u).2.1 = 0 then 1 else 0
/-- The unit of an empty page. -/
theorem emp_unit {b : Bk} (h : BookP b) {u : Nat} (hu : u < nu b) : empU b u = if pg b (u / 8) = 0 then 1 else 0 := by
  unfold empU
  by_cases c : pg b (u / 8) = 0
  · have hbk : back b (u / 8) = u / 8 := back_self (by omega)
    rw [if_pos c]
    unfold blk
    simp only [hbk, if_pos c, if_true]
  · rw [if_neg c]
    rcases blk_cases h hu with ⟨v, g1, g2, g3, g4⟩ | ⟨g1, ⟨g2, g3⟩ | ⟨g2, g3, g4, g5⟩⟩
    · rw [g4]; dsimp only; rw [if_neg (by omega)]
    · exact (c g2).elim
    · rw [g5]; dsimp only
      have hk : (pg b (u / 8) - 1).toNat < 4 := by omega
      rcases usz_vals hk with ⟨hu2, _⟩ | ⟨hu2, _⟩ | ⟨hu2, _⟩ | ⟨hu2, _⟩ <;> rw [hu2, if_neg (by omega)]
theorem BookP.mem {b : Bk} (h : BookP b) {k : Nat} (hk : k < 4) {x : Int} (hx : x ∈ hd b k) : 0 ≤ x ∧ x < nu b ∧ pg b (x / 8).toNat = k + 1 := by
  have := of_decide_eq_true (lists_mem h.2.1 hk hx)
  exact ⟨this.1, this.2.1, this.2.2.1⟩
theorem BookP.hd_len {b : Bk} (h : BookP b) {k : Nat} (hk : k < 4) : (hd b k).length ≤ nu b := by
  have := (allB_iff _ 4 0).1 h.2.1 k (by omega) (by omega)
  rw [listB, Bool.and_eq_true] at this
  exact of_decide_eq_true this.1
def kindOf (u : Int) : Int := if u < 1 then -1 else if u ≤ 1 then 0 else if u ≤ 2 then 1 else if u ≤ 4 then 2 else if u ≤ 8 then 3 else if u ≤ 32 then 4 else -1
theorem spec_BookKind_eq (N : Nat) (hN : Fuel N) (u : Int) : spec_BookKind N u = some (kindOf u, ()) := by
  have s0 := spec_l3Size_eq N (k := 0) (by omega)
  have s1 := spec_l3Size_eq N (k := 1) (by omega)
  have s2 := spec_l3Size_eq N (k := 2) (by omega)
  have s3 := spec_l3Size_eq N (k := 3) (by omega)
  have w : ∀ x : Int, 0 ≤ x → x ≤ 4 → IntKind.i64.wrap (x + 1) = x + 1 := fun x h1 h2 => w64 (by omega) (by omega)
  unfold spec_BookKind
  suffices hh : ∀ k, spec_BookKind.l0 N (k + 1 + 1 + 1 + 1 + 1) u 0 = some (kindOf u, ()) by
    have := hh (N - 5)
    rwa [show N - 5 + 1 + 1 + 1 + 1 + 1 = N by unfold Fuel at hN; omega] at this
  intro k
  have step : ∀ (j : Nat) (hj : j < 4) (x : Int) (hx : x = j) k, spec_BookKind.l0 N (k + 1) u x = if 1 ≤ u ∧ u ≤ (usz j : Nat) then some (x, ()) else spec_BookKind.l0 N k u (x + 1) := by
    intro j hj x hx k
    have s := spec_l3Size_eq N hj
    rw [← hx] at s
    rw [spec_BookKind.l0, ct (by omega), s, w x (by omega) (by omega)]
    simp only [Option.bind_some, cnd]
    by_cases c : u ≥ 1
    · rw [if_pos c]
      by_cases c2 : u ≤ (usz j : Nat)
      · rw [if_pos c2, if_pos ⟨by omega, c2⟩]
      · rw [if_neg c2, if_neg (fun g => c2 g.2)]
    · rw [if_neg c, if_neg (fun g => c (by omega))]
  have u0 : ((usz 0 : Nat) : Int) = 1 := rfl
  have u1 : ((usz 1 : Nat) : Int) = 2 := rfl
  have u2 : ((usz 2 : Nat) : Int) = 4 := rfl
  have u3 : ((usz 3 : Nat) : Int) = 8 := rfl
  rw [step 0 (by omega) 0 (by omega), step 1 (by omega) (0 + 1) (by omega), step 2 (by omega) (0 + 1 + 1) (by omega), step 3 (by omega) (0 + 1 + 1 + 1) (by omega), u0, u1, u2, u3, spec_BookKind.l0, cf (by omega)]
  simp only [cnd]
  unfold kindOf
  by_cases c0 : u < 1
  · rw [if_pos c0, if_neg (by omega), if_neg (by omega), if_neg (by omega), if_neg (by omega), if_neg (by omega)]
  by_cases c1 : u ≤ 1
  · rw [if_neg c0, if_pos c1, if_pos (by omega)]
  by_cases c2 : u ≤ 2
  · rw [if_neg c0, if_neg c1, if_pos c2, if_neg (by omega), if_pos (by omega)]; rfl
  by_cases c3 : u ≤ 4
  · rw [if_neg c0, if_neg c1, if_neg c2, if_pos c3, if_neg (by omega), if_neg (by omega), if_pos (by omega)]; rfl
  by_cases c4 : u ≤ 8
  · rw [if_neg c0, if_neg c1, if_neg c2, if_neg c3, if_pos c4, if_neg (by omega), if_neg (by omega), if_neg (by omega), if_pos (by omega)]; rfl
  · rw [if_neg c0, if_neg c1, if_neg c2, if_neg c3, if_neg c4, if_neg (by omega), if_neg (by omega), if_neg (by omega), if_neg (by omega), if_pos (by omega)]
    by_cases c5 : u ≤ 32
    · rw [if_pos c5, if_pos c5]
    · rw [if_neg c5, if_neg c5]
def zeroAt (ps : List Int) (p i : Nat) : Bool := decide (ps.getD (p + i) 0 = 0)
def zrow (ps : List Int) (n p : Nat) : Bool := allB (zeroAt ps p) n 0
/-- The first of so many empty pages in a row, from `p` on. -/
def runFrom (ps : List Int) (n : Nat) : Nat → Nat → Int
  | 0, _ => -1
  | d + 1, p => if zrow ps n p then (p : Int) else runFrom ps n d (p + 1)
def runOf (ps : List Int) (n : Nat) : Int := runFrom ps n (ps.length + 1 - n) 0
theorem runFrom_spec (ps : List Int) (n : Nat) : ∀ d p, runFrom ps n d p = -1 ∨ ∃ q : Nat, runFrom ps n d p = q ∧ p ≤ q ∧ q < p + d ∧ zrow ps n q = true
  | 0, p => .inl rfl
  | d + 1, p => by
    rw [runFrom]
    by_cases c : zrow ps n p = true
    · rw [if_pos c]; exact .inr ⟨p, rfl, by omega, by omega, c⟩
    · rw [if_neg c]
      rcases runFrom_spec ps n d (p + 1) with h | ⟨q, h1, h2, h3, h4⟩
      · exact .inl h
      · exact .inr ⟨q, h1, by omega, by omega, h4⟩
theorem spec_l3Run_in (N : Nat) (b : Bk) (n p : Nat) (hp : p + n ≤ np b) (h6 : np b ≤ 100) : ∀ d i k (v : Bool), i + d = n →
    spec_l3Run.l1 N (k + d + 1) n p v i b = if (v && allB (zeroAt b.2.1 p) d i) then some ((p : Int), ()) else spec_l3Run.l0 N k n ((p + 1 : Nat) : Int) b
  | 0, i, k, v, e => by
    rw [spec_l3Run.l1, cf (by omega), w64 (by omega) (by omega), allB, Bool.and_true]
    cases v <;> rfl
  | d + 1, i, k, v, e => by
    have hnp : np b = b.2.1.length := rfl
    have ih := spec_l3Run_in N b n p hp h6 d (i + 1) k
    rw [show k + (d + 1) + 1 = (k + d + 1) + 1 by omega, spec_l3Run.l1, ct (by omega), show ((p + 1 : Nat) : Int) = ((p : Int) + 1) by omega] at *
    have e1 : ((p : Int) + i) = ((p + i : Nat) : Int) := by omega
    simp (disch := omega) only [w64, bnd, e1, Int.toNat_natCast]
    rw [show (i : Int) + 1 = ((i + 1 : Nat) : Int) by omega]
    cases v
    · rw [cond_false, ih false (by omega)]; simp only [Bool.false_and]
    · rw [cond_true, ih _ (by omega), allB]
      have : (b.2.1.getD (p + i) 0 == 0) = zeroAt b.2.1 p i := by
        unfold zeroAt
        by_cases c : b.2.1.getD (p + i) 0 = 0
        · rw [c, dt rfl]; rfl
        · rw [df c]; exact beq_false_of_ne c
      rw [this, Bool.true_and]
theorem spec_l3Run_loop (N : Nat) (b : Bk) (n : Nat) (h6 : np b ≤ 100) (hn : n ≤ 100) : ∀ d p k, p + n + d = np b + 1 ∨ (d = 0 ∧ np b < p + n) → p ≤ 200 →
    spec_l3Run.l0 N (k + d * (n + 2) + 1) n p b = some (runFrom b.2.1 n d p, ())
  | 0, p, k, e, hp => by
    have hnp : np b = b.2.1.length := rfl
    rw [Nat.zero_mul, Nat.add_zero, spec_l3Run.l0, w64 (by omega) (by omega), cf (by omega)]; rfl
  | d + 1, p, k, e, hp => by
    have hnp : np b = b.2.1.length := rfl
    have e' : p + n + (d + 1) = np b + 1 := by omega
    rw [show k + (d + 1) * (n + 2) + 1 = ((k + d * (n + 2) + 1) + n + 1) + 1 by rw [Nat.add_mul, Nat.one_mul]; omega, spec_l3Run.l0, w64 (by omega) (by omega), ct (by omega)]
    have h1 := spec_l3Run_in N b n p (by omega) h6 n 0 (k + d * (n + 2) + 1) true (by omega)
    rw [show ((0 : Nat) : Int) = 0 from rfl] at h1
    rw [h1, Bool.true_and, runFrom]
    show (if zrow b.2.1 n p = true then _ else _) = _
    by_cases c : zrow b.2.1 n p = true
    · rw [if_pos c, if_pos c]
    · rw [if_neg c, if_neg c]
      exact spec_l3Run_loop N b n h6 hn d (p + 1) k (by omega) (by omega)
theorem spec_l3Run_eq (N : Nat) (hN : Fuel N) (b : Bk) (n : Nat) (h6 : np b ≤ 6) (hn : n ≤ 4) : spec_l3Run N b n = some (runOf b.2.1 n, ()) := by
  have hnp : np b = b.2.1.length := rfl
  unfold spec_l3Run runOf
  unfold Fuel at hN
  have hd : (b.2.1.length + 1 - n) * (n + 2) ≤ 7 * 6 := Nat.mul_le_mul (by omega) (by omega)
  have := spec_l3Run_loop N b n (by omega) (by omega) (b.2.1.length + 1 - n) 0 (N - (b.2.1.length + 1 - n) * (n + 2) - 1) (by omega) (by omega)
  rwa [show N - (b.2.1.length + 1 - n) * (n + 2) - 1 + (b.2.1.length + 1 - n) * (n + 2) + 1 = N by omega] at this
theorem l3Copy_loop (N : Nat) (b : Bk) (hb : Bshort b) (k : Nat) (x y : Int) (u1 u2 : Unit) (p h0 h1 h2 h3 o i e : List Int) :
    spec_l3Copy.l0 N (k + 1 + 1 + 1 + 1 + 1) 0 b (x, (), ((), (), (), ()), (), (), ()) (y, (), ((), (), (), ()), (), (), ()) p h0 h1 h2 h3 o i e = some ((y, (), ((), (), (), ()), (), (), ()), (p, b.2.2.1.1, b.2.2.1.2.1, b.2.2.1.2.2.1, b.2.2.1.2.2.2, o, i, e)) := by
  have w : ∀ x : Int, 0 ≤ x → x ≤ 4 → IntKind.i64.wrap (x + 1) = x + 1 := fun x h1 h2 => w64 (by omega) (by omega)
  have l0 : b.2.2.1.1.length ≤ 4194304 := hb.2.1 0
  have l1 : b.2.2.1.2.1.length ≤ 4194304 := hb.2.1 1
  have l2 : b.2.2.1.2.2.1.length ≤ 4194304 := hb.2.1 2
  have l3 : b.2.2.1.2.2.2.length ≤ 4194304 := hb.2.1 3
  have hn : ([] : List Int).length = 0 := rfl
  rw [spec_l3Copy.l0]
  simp (disch := omega) only [ct, cf, hn, Nat.zero_add, w, List.nil_append, decide_true, cond_true]
  rw [spec_l3Copy.l0]
  simp (disch := omega) only [ct, cf, hn, Nat.zero_add, w, List.nil_append, decide_true, cond_true]
  rw [spec_l3Copy.l0]
  simp (disch := omega) only [ct, cf, hn, Nat.zero_add, w, List.nil_append, decide_true, cond_true]
  rw [spec_l3Copy.l0]
  simp (disch := omega) only [ct, cf, hn, Nat.zero_add, w, List.nil_append, decide_true, cond_true]
  rw [spec_l3Copy.l0]
  simp (disch := omega) only [ct, cf, hn, Nat.zero_add, w, List.nil_append, decide_true, cond_true]
theorem l3Copy_eq (N : Nat) (hN : Fuel N) (b : Bk) (hb : Bshort b) : spec_l3Copy N b = some ((b.1, (), ((), (), (), ()), (), (), ()), (b.2.1, b.2.2.1.1, b.2.2.1.2.1, b.2.2.1.2.2.1, b.2.2.1.2.2.2, b.2.2.2.1, b.2.2.2.2.1, b.2.2.2.2.2)) := by
  have a0 := hb.1; have a1 := hb.2.2.1; have a2 := hb.2.2.2.1; have a3 := hb.2.2.2.2
  unfold Short at a0 a1 a2 a3
  have hn : ([] : List Int).length = 0 := rfl
  unfold spec_l3Copy
  simp (disch := omega) only [ct, hn, Nat.zero_add, List.nil_append]
  have := l3Copy_loop N b hb (N - 5) 0 b.1 () () b.2.1 [] [] [] [] b.2.2.2.1 b.2.2.2.2.1 b.2.2.2.2.2
  rwa [show N - 5 + 1 + 1 + 1 + 1 + 1 = N by unfold Fuel at hN; omega] at this
def hset (h : H4) : Nat → List Int → H4
  | 0, l => (l, h.2)
  | 1, l => (h.1, l, h.2.2)
  | 2, l => (h.1, h.2.1, l, h.2.2.2)
  | _, l => (h.1, h.2.1, h.2.2.1, l)
def wPg (b : Bk) (l : List Int) : Bk := (b.1, l, b.2.2)
def wHd (b : Bk) (k : Nat) (l : List Int) : Bk := (b.1, b.2.1, hset b.2.2.1 k l, b.2.2.2)
def wOw (b : Bk) (u : Nat) (x : Int) : Bk := (b.1, b.2.1, b.2.2.1, b.2.2.2.1.set u x, b.2.2.2.2)
def wIn (b : Bk) (i : Nat) (x : Int) : Bk := (b.1, b.2.1, b.2.2.1, b.2.2.2.1, b.2.2.2.2.1.set i x, b.2.2.2.2.2)
def wEp (b : Bk) (i : Nat) (x : Int) : Bk := (b.1, b.2.1, b.2.2.1, b.2.2.2.1, b.2.2.2.2.1, b.2.2.2.2.2.set i x)
/-- `n` entries from `p` on are set to `x`. -/
def setRow (l : List Int) (x : Int) : Nat → Nat → List Int
  | 0, _ => l
  | n + 1, p => setRow (l.set p x) x n (p + 1)
abbrev Op := Int × Int × Int × Int
def enterP (b : Bk) (s : Nat) : Bk × Int × Int :=
  if inn b s ≠ 0 then (b, 6, 0) else if ep b s = 4095 then (b, 12, 0) else (wEp (wIn b s 1) s (ep b s + 1), 0, ep b s + 1)
def pagesP (b : Bk) (s : Int) (n : Nat) : Bk × Int × Int :=
  if runOf b.2.1 n < 0 then (b, 2, 0) else
    let p := (runOf b.2.1 n).toNat
    (wOw (wPg b (setRow (b.2.1.set p (8 + n)) 7 (n - 1) (p + 1))) (8 * p) (s + 1), 0, 8 * (p : Int))
/-- The rooms of a page that is split. -/
def roomsOf (k : Nat) : Nat → Nat → List Int
  | 0, _ => []
  | n + 1, u => (u : Int) :: roomsOf k n (u + usz k)
def carveP (b : Bk) (p k : Nat) : Bk := wHd (wPg b (b.2.1.set p ((k : Int) + 1))) k (hd b k ++ roomsOf k (8 / usz k) (8 * p))
def popP (b : Bk) (s : Int) (k : Nat) : Bk × Int × Int := (wOw (wHd b k ((hd b k).drop 1)) ((hd b k).getD 0 0).toNat (s + 1), 0, (hd b k).getD 0 0)
def takeP (b : Bk) (s u : Int) : Bk × Int × Int :=
  if kindOf u < 0 then (b, 1, 0) else if kindOf u = 4 then pagesP b s ((u + 7) / 8).toNat else
    let k := (kindOf u).toNat
    if (hd b k).length = 0 then (if runOf b.2.1 1 < 0 then (b, 2, 0) else popP (carveP b (runOf b.2.1 1).toNat k) s k) else popP b s k
/-- A room is given back. -/
noncomputable def freeP (b : Bk) (u : Nat) : Bk :=
  let p := u / 8
  let b1 := wOw b u 0
  if 1 ≤ pg b p ∧ pg b p ≤ 4 then
    let k := (pg b p - 1).toNat
    let b2 := wHd b1 k ((u : Int) :: hd b k)
    cond (tf (FreeP b2 p 0)) (wHd (wPg b2 (b.2.1.set p 0)) k (((u : Int) :: hd b k).filter fun x => x / 8 != p)) b2
  else wPg b1 (setRow b.2.1 0 (pg b p - 8).toNat p)
theorem setRow_len (x : Int) : ∀ n p l, (setRow l x n p).length = l.length
  | 0, p, l => rfl
  | n + 1, p, l => by rw [setRow, setRow_len x n, List.length_set]
abbrev BkU := Int × Unit × (Unit × Unit × Unit × Unit) × Unit × Unit × Unit
abbrev L8 := List Int × List Int × List Int × List Int × List Int × List Int × List Int × List Int
/-- What the reference gives: the book in its memory. -/
abbrev out (r : Bk × Int × Int) : Option ((BkU × Int × Int) × L8) :=
  some (((r.1.1, (), ((), (), (), ()), (), (), ()), r.2), (r.1.2.1, r.1.2.2.1.1, r.1.2.2.1.2.1, r.1.2.2.1.2.2.1, r.1.2.2.1.2.2.2, r.1.2.2.2.1, r.1.2.2.2.2.1, r.1.2.2.2.2.2))
abbrev outB (b : Bk) : Option (BkU × L8) :=
  some ((b.1, (), ((), (), (), ()), (), (), ()), (b.2.1, b.2.2.1.1, b.2.2.1.2.1, b.2.2.1.2.2.1, b.2.2.1.2.2.2, b.2.2.2.1, b.2.2.2.2.1, b.2.2.2.2.2))
theorem runOf_lt (ps : List Int) (n : Nat) (hn : 1 ≤ n) (h : ¬ runOf ps n < 0) : ∃ p : Nat, runOf ps n = p ∧ p + n ≤ ps.length ∧ zrow ps n p = true := by
  rcases runFrom_spec ps n (ps.length + 1 - n) 0 with h1 | ⟨q, h1, h2, h3, h4⟩
  · exact absurd (show runOf ps n < 0 by unfold runOf; omega) h
  · exact ⟨q, h1, by omega, h4⟩
theorem spec_l3Pages_loop (N : Nat) (s : Int) (hs : -10 ≤ s ∧ s ≤ 10) (n p : Nat) (hn : n ≤ 4) (x y : Int) (h0 h1 h2 h3 os is es : List Int) (ho : 8 * p < os.length) (hp : p ≤ 100) :
    ∀ d i k (ps : List Int), i + d = n → p + n ≤ ps.length → spec_l3Pages.l0 N (k + d + 1) s n p i (x, (), ((), (), (), ()), (), (), ()) (y, (), ((), (), (), ()), (), (), ()) ps h0 h1 h2 h3 os is es =
      some (((x, (), ((), (), (), ()), (), (), ()), 0, 8 * (p : Int)), (setRow ps 7 d (p + i), h0, h1, h2, h3, os.set (8 * p) (s + 1), is, es))
  | 0, i, k, ps, e, hl => by
    rw [spec_l3Pages.l0, cf (by omega), w64 (n := (p : Int) * 8) (by omega) (by omega), bnd (by omega) (by omega), w64 (n := s + 1) (by omega) (by omega), show ((p : Int) * 8).toNat = 8 * p by omega, setRow, Int.mul_comm]
  | d + 1, i, k, ps, e, hl => by
    rw [show k + (d + 1) + 1 = (k + d + 1) + 1 by omega, spec_l3Pages.l0, ct (by omega), w64 (n := (p : Int) + i) (by omega) (by omega), bnd (by omega) (by omega), w64 (n := (i : Int) + 1) (by omega) (by omega), show ((p : Int) + i).toNat = p + i by omega, show (i : Int) + 1 = ((i + 1 : Nat) : Int) by omega]
    rw [spec_l3Pages_loop N s hs n p hn x y h0 h1 h2 h3 os is es ho hp d (i + 1) k _ (by omega) (by rw [List.length_set]; exact hl), setRow]
    rfl
theorem spec_l3Pages_eq (N : Nat) (hN : Fuel N) (b : Bk) (s : Int) (hs : -10 ≤ s ∧ s ≤ 10) (n : Nat) (h1 : 1 ≤ n) (h4 : n ≤ 4) (h6 : np b ≤ 6) (hu : nu b = np b * 8) :
    spec_l3Pages N (b.1, (), ((), (), (), ()), (), (), ()) s n b.2.1 b.2.2.1.1 b.2.2.1.2.1 b.2.2.1.2.2.1 b.2.2.1.2.2.2 b.2.2.2.1 b.2.2.2.2.1 b.2.2.2.2.2 = out (pagesP b s n) := by
  have hnp : np b = b.2.1.length := rfl
  have hnu : nu b = b.2.2.2.1.length := rfl
  unfold spec_l3Pages pagesP
  have hrun : spec_l3Run N (b.1, b.2.1, (b.2.2.1.1, b.2.2.1.2.1, b.2.2.1.2.2.1, b.2.2.1.2.2.2), b.2.2.2.1, b.2.2.2.2.1, b.2.2.2.2.2) n = some (runOf b.2.1 n, ()) := spec_l3Run_eq N hN b n h6 h4
  rw [hrun]
  simp only [Option.bind_some]
  by_cases c : runOf b.2.1 n < 0
  · rw [ct c, if_pos c]
  rw [cf c, if_neg c]
  obtain ⟨p, hp, hpl, _⟩ := runOf_lt b.2.1 n h1 c
  rw [hp, bnd (by omega) (by omega), w64 (n := 8 + (n : Int)) (by omega) (by omega), Int.toNat_natCast]
  have := spec_l3Pages_loop N s hs n p h4 b.1 0 b.2.2.1.1 b.2.2.1.2.1 b.2.2.1.2.2.1 b.2.2.1.2.2.2 b.2.2.2.1 b.2.2.2.2.1 b.2.2.2.2.2 (by omega) (by omega) (n - 1) 1 (N - (n - 1) - 1) (b.2.1.set p (8 + n)) (by omega) (by rw [List.length_set]; omega)
  rw [show N - (n - 1) - 1 + (n - 1) + 1 = N by unfold Fuel at hN; omega, show ((1 : Nat) : Int) = 1 from rfl] at this
  rw [this]
  rfl
theorem l3Carve_loop (N : Nat) (p k : Nat) (hp : p ≤ 100) (hk : k < 4) (x y : Int) (ps os is es : List Int) : ∀ d u j (h : H4), u + d * usz k = 8 →
    h.1.length + d ≤ 10000 → h.2.1.length + d ≤ 10000 → h.2.2.1.length + d ≤ 10000 → h.2.2.2.length + d ≤ 10000 →
    spec_l3Carve.l0 N (j + d + 1) p k u (x, (), ((), (), (), ()), (), (), ()) (y, (), ((), (), (), ()), (), (), ()) ps os is es h.1 h.2.1 h.2.2.1 h.2.2.2 =
      outB (x, ps, hset h k (hd (x, ps, h, os, is, es) k ++ roomsOf k d (8 * p + u)), os, is, es)
  | 0, u, j, h, e, _, _, _, _ => by
    rw [spec_l3Carve.l0, cf (by omega)]
    rcases usz_vals hk with ⟨e2, rfl⟩ | ⟨e2, rfl⟩ | ⟨e2, rfl⟩ | ⟨e2, rfl⟩ <;> simp only [roomsOf, List.append_nil, hset, hd]
  | d + 1, u, j, h, e, l0, l1, l2, l3 => by
    have hus : usz k = 1 ∨ usz k = 2 ∨ usz k = 4 ∨ usz k = 8 := by rcases usz_vals hk with ⟨h, _⟩ | ⟨h, _⟩ | ⟨h, _⟩ | ⟨h, _⟩ <;> omega
    have e' : u + usz k + d * usz k = 8 := by rw [Nat.add_mul, Nat.one_mul] at e; omega
    have hu8 : u < 8 := by omega
    have sz := spec_l3Size_eq N hk
    have hw : IntKind.i64.wrap (IntKind.i64.wrap ((p : Int) * 8) + u) = ((8 * p + u : Nat) : Int) := by rw [w64 (n := (p : Int) * 8) (by omega) (by omega), w64 (by omega) (by omega)]; omega
    have hw2 : IntKind.i64.wrap ((u : Int) + (usz k : Nat)) = ((u + usz k : Nat) : Int) := by rw [w64 (by omega) (by omega)]; omega
    rw [show j + (d + 1) + 1 = (j + d + 1) + 1 by omega, spec_l3Carve.l0, ct (by omega), hw]
    have hn : ∀ z : Int, [z].length = 1 := fun _ => rfl
    rcases usz_vals hk with ⟨e2, rfl⟩ | ⟨e2, rfl⟩ | ⟨e2, rfl⟩ | ⟨e2, rfl⟩
    · have ih := l3Carve_loop N p 0 hp (by omega) x y ps os is es d (u + usz 0) j (h.1 ++ [((8 * p + u : Nat) : Int)], h.2) e' (by simp only [List.length_append, hn]; omega) (by dsimp only; omega) (by dsimp only; omega) (by dsimp only; omega)
      simp (disch := omega) only [ct, cf, hn, sz, Option.bind_some, hw2]
      rw [ih]
      simp only [roomsOf, hset, hd, List.append_assoc, List.singleton_append, Nat.add_assoc]
    · have ih := l3Carve_loop N p 1 hp (by omega) x y ps os is es d (u + usz 1) j (h.1, h.2.1 ++ [((8 * p + u : Nat) : Int)], h.2.2) e' (by dsimp only; omega) (by simp only [List.length_append, hn]; omega) (by dsimp only; omega) (by dsimp only; omega)
      simp (disch := omega) only [ct, cf, hn, sz, Option.bind_some, hw2]
      rw [ih]
      simp only [roomsOf, hset, hd, List.append_assoc, List.singleton_append, Nat.add_assoc]
    · have ih := l3Carve_loop N p 2 hp (by omega) x y ps os is es d (u + usz 2) j (h.1, h.2.1, h.2.2.1 ++ [((8 * p + u : Nat) : Int)], h.2.2.2) e' (by dsimp only; omega) (by dsimp only; omega) (by simp only [List.length_append, hn]; omega) (by dsimp only; omega)
      simp (disch := omega) only [ct, cf, hn, sz, Option.bind_some, hw2]
      rw [ih]
      simp only [roomsOf, hset, hd, List.append_assoc, List.singleton_append, Nat.add_assoc]
    · have ih := l3Carve_loop N p 3 hp (by omega) x y ps os is es d (u + usz 3) j (h.1, h.2.1, h.2.2.1, h.2.2.2 ++ [((8 * p + u : Nat) : Int)]) e' (by dsimp only; omega) (by dsimp only; omega) (by dsimp only; omega) (by simp only [List.length_append, hn]; omega)
      simp (disch := omega) only [ct, cf, hn, sz, Option.bind_some, hw2]
      rw [ih]
      simp only [roomsOf, hset, hd, List.append_assoc, List.singleton_append, Nat.add_assoc]
theorem spec_l3Carve_eq (N : Nat) (hN : Fuel N) (b : Bk) (p k : Nat) (hp : p < np b) (hp2 : np b ≤ 6) (hk : k < 4) (l0 : b.2.2.1.1.length ≤ 100) (l1 : b.2.2.1.2.1.length ≤ 100) (l2 : b.2.2.1.2.2.1.length ≤ 100) (l3 : b.2.2.1.2.2.2.length ≤ 100) :
    spec_l3Carve N (b.1, (), ((), (), (), ()), (), (), ()) p k b.2.1 b.2.2.1.1 b.2.2.1.2.1 b.2.2.1.2.2.1 b.2.2.1.2.2.2 b.2.2.2.1 b.2.2.2.2.1 b.2.2.2.2.2 = outB (carveP b p k) := by
  have hnp : np b = b.2.1.length := rfl
  unfold spec_l3Carve
  rw [bnd (by omega) (by omega), w64 (n := (k : Int) + 1) (by omega) (by omega), Int.toNat_natCast]
  have hd8 : 8 / usz k * usz k = 8 := by rcases usz_vals hk with ⟨h, _⟩ | ⟨h, _⟩ | ⟨h, _⟩ | ⟨h, _⟩ <;> rw [h]
  have hd8' : 8 / usz k ≤ 8 := Nat.div_le_self 8 _
  have := l3Carve_loop N p k (by omega) hk b.1 0 (b.2.1.set p ((k : Int) + 1)) b.2.2.2.1 b.2.2.2.2.1 b.2.2.2.2.2 (8 / usz k) 0 (N - 8 / usz k - 1) b.2.2.1 (by omega) (by omega) (by omega) (by omega) (by omega)
  rw [show N - 8 / usz k - 1 + 8 / usz k + 1 = N by unfold Fuel at hN; omega, show ((0 : Nat) : Int) = 0 from rfl] at this
  rw [this]
  rcases usz_vals hk with ⟨h, rfl⟩ | ⟨h, rfl⟩ | ⟨h, rfl⟩ | ⟨h, rfl⟩ <;> rfl
theorem beqD {x y : Int} : (x == y) = decide (x = y) := by by_cases h : x = y <;> simp [h]
theorem kindOf_cases (u : Int) : kindOf u = -1 ∨ (kindOf u = 4 ∧ 9 ≤ u ∧ u ≤ 32) ∨ ∃ k : Nat, k < 4 ∧ kindOf u = k := by
  unfold kindOf
  by_cases c0 : u < 1
  · rw [if_pos c0]; exact .inl rfl
  rw [if_neg c0]
  by_cases c1 : u ≤ 1
  · rw [if_pos c1]; exact .inr (.inr ⟨0, by omega, rfl⟩)
  rw [if_neg c1]
  by_cases c2 : u ≤ 2
  · rw [if_pos c2]; exact .inr (.inr ⟨1, by omega, rfl⟩)
  rw [if_neg c2]
  by_cases c3 : u ≤ 4
  · rw [if_pos c3]; exact .inr (.inr ⟨2, by omega, rfl⟩)
  rw [if_neg c3]
  by_cases c4 : u ≤ 8
  · rw [if_pos c4]; exact .inr (.inr ⟨3, by omega, rfl⟩)
  rw [if_neg c4]
  by_cases c5 : u ≤ 32
  · rw [if_pos c5]; exact .inr (.inl ⟨rfl, by omega, c5⟩)
  · rw [if_neg c5]; exact .inl rfl
theorem tail_eq (l : List Int) : (l.drop 1).take (l.length - 1) = l.drop 1 := List.take_of_length_le (by rw [List.length_drop]; omega)
theorem take_tail (N k : Nat) (s x y : Int) (hs : -10 ≤ s ∧ s ≤ 10) (a : Int) (ps os is es h0 h1 h2 h3 : List Int) (ha : 0 ≤ a ∧ a < os.length) :
    spec_l3Take.l3 N (k + 1 + 1 + 1) s a (x, (), ((), (), (), ()), (), (), ()) (y, (), ((), (), (), ()), (), (), ()) ps os is es h0 h1 h2 h3 =
      some (((x, (), ((), (), (), ()), (), (), ()), 0, a), (ps, h0, h1, h2, h3, os.set a.toNat (s + 1), is, es)) := by
  rw [spec_l3Take.l3, bnd ha.1 ha.2, w64 (n := s + 1) (by omega) (by omega), spec_l3Take.l4, spec_l3Take.l5]
theorem fuel3 {N : Nat} (hN : Fuel N) : ∃ k, N = k + 1 + 1 + 1 := ⟨N - 3, by unfold Fuel at hN; omega⟩
theorem runOf_rooms {k : Nat} (hk : k < 4) (p : Nat) : ∃ r, roomsOf k (8 / usz k) (8 * p) = ((8 * p : Nat) : Int) :: r := by
  rcases usz_vals hk with ⟨h, _⟩ | ⟨h, _⟩ | ⟨h, _⟩ | ⟨h, _⟩ <;> rw [h] <;> exact ⟨_, rfl⟩
theorem roomsOf_len (k : Nat) : ∀ n u, (roomsOf k n u).length = n
  | 0, _ => rfl
  | n + 1, u => by rw [roomsOf, List.length_cons, roomsOf_len k n]
theorem hd_hset (x : Int) (ps : List Int) (h : H4) (o : List Int × List Int × List Int) {k : Nat} (hk : k < 4) (l : List Int) : hd (x, ps, hset h k l, o) k = l := by
  rcases usz_vals hk with ⟨_, rfl⟩ | ⟨_, rfl⟩ | ⟨_, rfl⟩ | ⟨_, rfl⟩ <;> rfl
/-- What taking needs of a book: its sizes and its lists, not its slots. -/
def Tk (b : Bk) : Prop := (1 ≤ np b ∧ np b ≤ 6 ∧ nu b = np b * 8 ∧ 1 ≤ b.1 ∧ b.1 ≤ 4) ∧ (∀ k, k < 4 → (hd b k).length ≤ nu b) ∧ ∀ k : Nat, k < 4 → ∀ x ∈ hd b k, 0 ≤ x ∧ x < nu b ∧ pg b (x / 8).toNat = (k : Int) + 1
theorem Tk.dims {b : Bk} (h : Tk b) : 1 ≤ np b ∧ np b ≤ 6 ∧ nu b = np b * 8 ∧ 1 ≤ b.1 ∧ b.1 ≤ 4 := h.1
theorem Tk.hd_len {b : Bk} (h : Tk b) {k : Nat} (hk : k < 4) : (hd b k).length ≤ nu b := h.2.1 k hk
theorem Tk.mem {b : Bk} (h : Tk b) {k : Nat} (hk : k < 4) {x : Int} (hx : x ∈ hd b k) : 0 ≤ x ∧ x < nu b ∧ pg b (x / 8).toNat = k + 1 := h.2.2 k hk x hx
theorem BookP.tk {b : Bk} (h : BookP b) : Tk b := ⟨h.dims, fun k hk => h.hd_len hk, fun k hk x hx => h.mem hk hx⟩
theorem spec_l3Take_eq (N : Nat) (hN : Fuel N) {b : Bk} (h : Tk b) (s : Int) (hs : 0 ≤ s ∧ s ≤ 10) (u : Int) :
    spec_l3Take N (b.1, (), ((), (), (), ()), (), (), ()) s u b.2.1 b.2.2.1.1 b.2.2.1.2.1 b.2.2.1.2.2.1 b.2.2.1.2.2.2 b.2.2.2.1 b.2.2.2.2.1 b.2.2.2.2.2 = out (takeP b s u) := by
  have hdim := h.dims
  have hnp : np b = b.2.1.length := rfl
  have hnu : nu b = b.2.2.2.1.length := rfl
  obtain ⟨m, hm⟩ := fuel3 hN
  unfold spec_l3Take takeP
  rw [spec_BookKind_eq N hN]
  simp only [Option.bind_some]
  rcases kindOf_cases u with hk | ⟨hk, hu1, hu2⟩ | ⟨k, hk4, hk⟩
  · rw [hk, ct (by omega), if_pos (by omega)]
    have : ∀ j, spec_l3Take.l0 N (j + 1) 1 0 (b.1, (), ((), (), (), ()), (), (), ()) b.2.1 b.2.2.1.1 b.2.2.1.2.1 b.2.2.1.2.2.1 b.2.2.1.2.2.2 b.2.2.2.1 b.2.2.2.2.1 b.2.2.2.2.2 = out (b, 1, 0) := fun j => by rw [spec_l3Take.l0]
    have := this (m + 1 + 1)
    rwa [← hm] at this
  · rw [hk, cf (by omega), beqD, ct (by omega), if_neg (by omega), if_pos rfl]
    have hn : IntKind.i64.wrap (Int.tdiv (IntKind.i64.wrap (IntKind.i64.wrap (u + 8) - 1)) 8) = (((u + 7) / 8).toNat : Int) := by
      rw [w64 (n := u + 8) (by omega) (by omega), w64 (n := u + 8 - 1) (by omega) (by omega), td (by omega), w64 (by omega) (by omega)]; omega
    rw [hn, spec_l3Pages_eq N hN b s (by omega) _ (by omega) (by omega) (by omega) (by omega)]
    simp only [Option.bind_some]
    generalize pagesP b s ((u + 7) / 8).toNat = r
    have : ∀ j, spec_l3Take.l1 N (j + 1) r.2.1 r.2.2 (r.1.1, (), ((), (), (), ()), (), (), ()) r.1.2.1 r.1.2.2.1.1 r.1.2.2.1.2.1 r.1.2.2.1.2.2.1 r.1.2.2.1.2.2.2 r.1.2.2.2.1 r.1.2.2.2.2.1 r.1.2.2.2.2.2 = out r := fun j => by rw [spec_l3Take.l1]
    have := this (m + 1 + 1)
    rwa [← hm] at this
  · rw [hk, cf (by omega), beqD, cf (by omega), if_neg (by omega), if_neg (by omega)]
    have hl := h.hd_len hk4
    have hrun : spec_l3Run N (b.1, b.2.1, (b.2.2.1.1, b.2.2.1.2.1, b.2.2.1.2.2.1, b.2.2.1.2.2.2), b.2.2.2.1, b.2.2.2.2.1, b.2.2.2.2.2) 1 = some (runOf b.2.1 1, ()) := spec_l3Run_eq N hN b 1 hdim.2.1 (by omega)
    have full : ∀ j, spec_l3Take.l2 N (j + 1) 2 0 (b.1, (), ((), (), (), ()), (), (), ()) b.2.1 b.2.2.1.1 b.2.2.1.2.1 b.2.2.1.2.2.1 b.2.2.1.2.2.2 b.2.2.2.1 b.2.2.2.2.1 b.2.2.2.2.2 = out (b, 2, 0) := fun j => by rw [spec_l3Take.l2]
    have full := full (m + 1 + 1)
    rw [← hm] at full
    have q0 := h.hd_len (k := 0) (by omega)
    have q1 := h.hd_len (k := 1) (by omega)
    have q2 := h.hd_len (k := 2) (by omega)
    have q3 := h.hd_len (k := 3) (by omega)
    have carve : ∀ p : Nat, p < np b → spec_l3Carve N (b.1, (), ((), (), (), ()), (), (), ()) p k b.2.1 b.2.2.1.1 b.2.2.1.2.1 b.2.2.1.2.2.1 b.2.2.1.2.2.2 b.2.2.2.1 b.2.2.2.2.1 b.2.2.2.2.2 = outB (carveP b p k) := fun p hp =>
      spec_l3Carve_eq N hN b p k hp hdim.2.1 hk4 (by show (hd b 0).length ≤ 100; omega) (by show (hd b 1).length ≤ 100; omega) (by show (hd b 2).length ≤ 100; omega) (by show (hd b 3).length ≤ 100; omega)
    have tail : ∀ (a : Int) (x y : Int) (ps os is es h0 h1 h2 h3 : List Int), 0 ≤ a ∧ a < os.length → spec_l3Take.l3 N N s a (x, (), ((), (), (), ()), (), (), ()) (y, (), ((), (), (), ()), (), (), ()) ps os is es h0 h1 h2 h3 =
      some (((x, (), ((), (), (), ()), (), (), ()), 0, a), (ps, h0, h1, h2, h3, os.set a.toNat (s + 1), is, es)) := by
      have := take_tail N m s
      intro a x y ps os is es h0 h1 h2 h3 ha
      have := this x y (by omega) a ps os is es h0 h1 h2 h3 ha
      rwa [← hm] at this
    have head : (hd b k).length ≠ 0 → 0 ≤ (hd b k).getD 0 0 ∧ (hd b k).getD 0 0 < b.2.2.2.1.length := by
      intro hne
      have hmem : (hd b k).getD 0 0 ∈ hd b k := by rw [List.getD_eq_getElem?_getD, List.getElem?_eq_getElem (by omega)]; exact List.getElem_mem _
      have := h.mem hk4 hmem
      omega
    clear hm
    have ek : (k : Int).toNat = k := Int.toNat_natCast k
    simp only [ek]
    rcases usz_vals hk4 with ⟨hz, rfl⟩ | ⟨hz, rfl⟩ | ⟨hz, rfl⟩ | ⟨hz, rfl⟩
    · have hh : hd b 0 = b.2.2.1.1 := rfl
      rw [hh] at head ⊢
      simp (disch := omega) only [cf, ct, beqD]
      by_cases c : (b.2.2.1.1.length : Int) = 0
      · rw [ct c, if_pos (by omega), hrun]
        simp only [Option.bind_some]
        by_cases c2 : runOf b.2.1 1 < 0
        · rw [ct c2, if_pos c2]; exact full
        rw [cf c2, if_neg c2]
        obtain ⟨p, hp, hpl, _⟩ := runOf_lt b.2.1 1 (by omega) c2
        have hnil : b.2.2.1.1 = [] := List.eq_nil_of_length_eq_zero (by omega)
        rw [hp, carve p (by omega), Int.toNat_natCast]
        simp only [Option.bind_some]
        have hl2 : hd (carveP b p 0) 0 = roomsOf 0 (8 / usz 0) (8 * p) := by unfold carveP; rw [hh, hnil, List.nil_append]; exact hd_hset _ _ _ _ (by omega) _
        have hl3 : (carveP b p 0).2.2.1.1 = roomsOf 0 (8 / usz 0) (8 * p) := hl2
        have hlen : (roomsOf 0 (8 / usz 0) (8 * p)).length = 8 / usz 0 := roomsOf_len _ _ _
        obtain ⟨r, hr⟩ := runOf_rooms (k := 0) (by omega) p
        have ho : (carveP b p 0).2.2.2.1 = b.2.2.2.1 := rfl
        have h8 : (8 / usz 0 : Nat) = 8 := rfl
        rw [h8] at hlen hl2 hl3 hr
        unfold popP
        rw [hl2, hl3]
        simp (disch := omega) only [ct, hlen]
        have ht : ((roomsOf 0 8 (8 * p)).drop 1).take (8 - 1) = (roomsOf 0 8 (8 * p)).drop 1 := by have := tail_eq (roomsOf 0 8 (8 * p)); rwa [hlen] at this
        have hg : (roomsOf 0 8 (8 * p)).getD 0 0 = ((8 * p : Nat) : Int) := by rw [hr]; rfl
        rw [ht, hg, tail _ _ _ _ _ _ _ _ _ _ _ (by rw [ho]; omega)]
        rfl
      · rw [cf c, if_neg (by omega)]
        have hg := head (by omega)
        unfold popP
        rw [hh, tail_eq]
        simp (disch := omega) only [ct]
        rw [tail _ _ _ _ _ _ _ _ _ _ _ hg]
        rfl
    · have hh : hd b 1 = b.2.2.1.2.1 := rfl
      rw [hh] at head ⊢
      simp (disch := omega) only [cf, ct, beqD]
      by_cases c : (b.2.2.1.2.1.length : Int) = 0
      · rw [ct c, if_pos (by omega), hrun]
        simp only [Option.bind_some]
        by_cases c2 : runOf b.2.1 1 < 0
        · rw [ct c2, if_pos c2]; exact full
        rw [cf c2, if_neg c2]
        obtain ⟨p, hp, hpl, _⟩ := runOf_lt b.2.1 1 (by omega) c2
        have hnil : b.2.2.1.2.1 = [] := List.eq_nil_of_length_eq_zero (by omega)
        rw [hp, carve p (by omega), Int.toNat_natCast]
        simp only [Option.bind_some]
        have hl2 : hd (carveP b p 1) 1 = roomsOf 1 (8 / usz 1) (8 * p) := by unfold carveP; rw [hh, hnil, List.nil_append]; exact hd_hset _ _ _ _ (by omega) _
        have hl3 : (carveP b p 1).2.2.1.2.1 = roomsOf 1 (8 / usz 1) (8 * p) := hl2
        have hlen : (roomsOf 1 (8 / usz 1) (8 * p)).length = 8 / usz 1 := roomsOf_len _ _ _
        obtain ⟨r, hr⟩ := runOf_rooms (k := 1) (by omega) p
        have ho : (carveP b p 1).2.2.2.1 = b.2.2.2.1 := rfl
        have h8 : (8 / usz 1 : Nat) = 4 := rfl
        rw [h8] at hlen hl2 hl3 hr
        unfold popP
        rw [hl2, hl3]
        simp (disch := omega) only [ct, hlen]
        have ht : ((roomsOf 1 4 (8 * p)).drop 1).take (4 - 1) = (roomsOf 1 4 (8 * p)).drop 1 := by have := tail_eq (roomsOf 1 4 (8 * p)); rwa [hlen] at this
        have hg : (roomsOf 1 4 (8 * p)).getD 0 0 = ((8 * p : Nat) : Int) := by rw [hr]; rfl
        rw [ht, hg, tail _ _ _ _ _ _ _ _ _ _ _ (by rw [ho]; omega)]
        rfl
      · rw [cf c, if_neg (by omega)]
        have hg := head (by omega)
        unfold popP
        rw [hh, tail_eq]
        simp (disch := omega) only [ct]
        rw [tail _ _ _ _ _ _ _ _ _ _ _ hg]
        rfl
    · have hh : hd b 2 = b.2.2.1.2.2.1 := rfl
      rw [hh] at head ⊢
      simp (disch := omega) only [cf, ct, beqD]
      by_cases c : (b.2.2.1.2.2.1.length : Int) = 0
      · rw [ct c, if_pos (by omega), hrun]
        simp only [Option.bind_some]
        by_cases c2 : runOf b.2.1 1 < 0
        · rw [ct c2, if_pos c2]; exact full
        rw [cf c2, if_neg c2]
        obtain ⟨p, hp, hpl, _⟩ := runOf_lt b.2.1 1 (by omega) c2
        have hnil : b.2.2.1.2.2.1 = [] := List.eq_nil_of_length_eq_zero (by omega)
        rw [hp, carve p (by omega), Int.toNat_natCast]
        simp only [Option.bind_some]
        have hl2 : hd (carveP b p 2) 2 = roomsOf 2 (8 / usz 2) (8 * p) := by unfold carveP; rw [hh, hnil, List.nil_append]; exact hd_hset _ _ _ _ (by omega) _
        have hl3 : (carveP b p 2).2.2.1.2.2.1 = roomsOf 2 (8 / usz 2) (8 * p) := hl2
        have hlen : (roomsOf 2 (8 / usz 2) (8 * p)).length = 8 / usz 2 := roomsOf_len _ _ _
        obtain ⟨r, hr⟩ := runOf_rooms (k := 2) (by omega) p
        have ho : (carveP b p 2).2.2.2.1 = b.2.2.2.1 := rfl
        have h8 : (8 / usz 2 : Nat) = 2 := rfl
        rw [h8] at hlen hl2 hl3 hr
        unfold popP
        rw [hl2, hl3]
        simp (disch := omega) only [ct, hlen]
        have ht : ((roomsOf 2 2 (8 * p)).drop 1).take (2 - 1) = (roomsOf 2 2 (8 * p)).drop 1 := by have := tail_eq (roomsOf 2 2 (8 * p)); rwa [hlen] at this
        have hg : (roomsOf 2 2 (8 * p)).getD 0 0 = ((8 * p : Nat) : Int) := by rw [hr]; rfl
        rw [ht, hg, tail _ _ _ _ _ _ _ _ _ _ _ (by rw [ho]; omega)]
        rfl
      · rw [cf c, if_neg (by omega)]
        have hg := head (by omega)
        unfold popP
        rw [hh, tail_eq]
        simp (disch := omega) only [ct]
        rw [tail _ _ _ _ _ _ _ _ _ _ _ hg]
        rfl
    · have hh : hd b 3 = b.2.2.1.2.2.2 := rfl
      rw [hh] at head ⊢
      simp (disch := omega) only [cf, ct, beqD]
      by_cases c : (b.2.2.1.2.2.2.length : Int) = 0
      · rw [ct c, if_pos (by omega), hrun]
        simp only [Option.bind_some]
        by_cases c2 : runOf b.2.1 1 < 0
        · rw [ct c2, if_pos c2]; exact full
        rw [cf c2, if_neg c2]
        obtain ⟨p, hp, hpl, _⟩ := runOf_lt b.2.1 1 (by omega) c2
        have hnil : b.2.2.1.2.2.2 = [] := List.eq_nil_of_length_eq_zero (by omega)
        rw [hp, carve p (by omega), Int.toNat_natCast]
        simp only [Option.bind_some]
        have hl2 : hd (carveP b p 3) 3 = roomsOf 3 (8 / usz 3) (8 * p) := by unfold carveP; rw [hh, hnil, List.nil_append]; exact hd_hset _ _ _ _ (by omega) _
        have hl3 : (carveP b p 3).2.2.1.2.2.2 = roomsOf 3 (8 / usz 3) (8 * p) := hl2
        have hlen : (roomsOf 3 (8 / usz 3) (8 * p)).length = 8 / usz 3 := roomsOf_len _ _ _
        obtain ⟨r, hr⟩ := runOf_rooms (k := 3) (by omega) p
        have ho : (carveP b p 3).2.2.2.1 = b.2.2.2.1 := rfl
        have h8 : (8 / usz 3 : Nat) = 1 := rfl
        rw [h8] at hlen hl2 hl3 hr
        unfold popP
        rw [hl2, hl3]
        simp (disch := omega) only [ct, hlen]
        have ht : ((roomsOf 3 1 (8 * p)).drop 1).take (1 - 1) = (roomsOf 3 1 (8 * p)).drop 1 := by have := tail_eq (roomsOf 3 1 (8 * p)); rwa [hlen] at this
        have hg : (roomsOf 3 1 (8 * p)).getD 0 0 = ((8 * p : Nat) : Int) := by rw [hr]; rfl
        rw [ht, hg, tail _ _ _ _ _ _ _ _ _ _ _ (by rw [ho]; omega)]
        rfl
      · rw [cf c, if_neg (by omega)]
        have hg := head (by omega)
        unfold popP
        rw [hh, tail_eq]
        simp (disch := omega) only [ct]
        rw [tail _ _ _ _ _ _ _ _ _ _ _ hg]
        rfl
def firstOf (b : Bk) (s : Int) : Int := (blksOf b s (nu b) 0).headD (-1)
theorem spec_l3First_loop (N : Nat) {b : Bk} (h : BookP b) (s : Int) (hs : -10 ≤ s ∧ s ≤ 10) : ∀ d i k, i + d = nu b → d < k →
    spec_l3First.l0 N k s (i : Int) b = some ((blksOf b s d i).headD (-1), ())
  | 0, i, k, e, hk => by
    obtain ⟨k, rfl⟩ : ∃ j, k = j + 1 := ⟨k - 1, by omega⟩
    have hnu : nu b = b.2.2.2.1.length := rfl
    rw [spec_l3First.l0, cf (by omega), blksOf]; rfl
  | d + 1, i, k, e, hk => by
    obtain ⟨k, rfl⟩ : ∃ j, k = j + 1 := ⟨k - 1, by omega⟩
    have hnu : nu b = b.2.2.2.1.length := rfl
    have hd := h.dims
    rw [spec_l3First.l0]
    simp (disch := omega) only [ct, bnd, Int.toNat_natCast, fold_ow, w64, cndb, blksOf]
    rw [show (i : Int) + 1 = ((i + 1 : Nat) : Int) by omega]
    by_cases c : ow b i = s + 1
    · rw [if_pos c, if_pos c]; rfl
    · rw [if_neg c, if_neg c, spec_l3First_loop N h s hs d (i + 1) k (by omega) (by omega)]
theorem spec_l3First_eq (N : Nat) (hN : Fuel N) {b : Bk} (h : BookP b) (s : Int) (hs : -10 ≤ s ∧ s ≤ 10) : spec_l3First N b s = some (firstOf b s, ()) := by
  have hd := h.dims
  unfold Fuel at hN
  exact spec_l3First_loop N h s hs (nu b) 0 N (by omega) (by omega)
def roomAt (b : Bk) (a : Int) : Int := if 0 ≤ a ∧ a < nu b then room b a.toNat else 0
def whoseP (b : Bk) (s a : Int) : Int := if roomAt b a = 0 then 3 else if ow b a.toNat = s + 1 then 0 else 4
theorem spec_l3Room_at (N : Nat) {b : Bk} (h : BookP b) (a : Int) : spec_l3Room N b a = some (roomAt b a, ()) := by
  have hnu : nu b = b.2.2.2.1.length := rfl
  unfold roomAt
  by_cases c : 0 ≤ a ∧ a < nu b
  · have := spec_l3Room_eq N h a.toNat (by omega)
    rw [Int.toNat_of_nonneg c.1] at this
    rw [if_pos c, this]
  · rw [if_neg c, spec_l3Room]
    by_cases c2 : a < 0
    · rw [ct c2]
    · rw [cf c2, ct (by omega)]
theorem roomAt_in {b : Bk} {a : Int} (h : roomAt b a ≠ 0) : 0 ≤ a ∧ a < nu b ∧ ow b a.toNat ≠ 0 := by
  unfold roomAt at h
  by_cases c : 0 ≤ a ∧ a < nu b
  · rw [if_pos c] at h
    refine ⟨c.1, c.2, fun e => h ?_⟩
    unfold room; rw [if_pos e]
  · rw [if_neg c] at h; exact (h rfl).elim
theorem spec_l3Whose_eq (N : Nat) {b : Bk} (h : BookP b) (s a : Int) (hs : -10 ≤ s ∧ s ≤ 10) : spec_l3Whose N b s a = some (whoseP b s a, ()) := by
  have hnu : nu b = b.2.2.2.1.length := rfl
  unfold spec_l3Whose whoseP
  rw [spec_l3Room_at N h]
  simp only [Option.bind_some, cndb]
  by_cases c : roomAt b a = 0
  · rw [if_pos c, if_pos c]
  · obtain ⟨h1, h2, h3⟩ := roomAt_in c
    rw [if_neg c, if_neg c, bnd h1 (by omega), w64 (by omega) (by omega), cndn, fold_ow]
    split <;> rfl
theorem back_wide (N : Nat) (p : Nat) (sv : Int) (hsv : 8 ≤ sv ∧ sv ≤ 20) (hp : p ≤ 100) (x y : Int) (h0 h1 h2 h3 os is es : List Int) :
    ∀ (d i k : Nat) (ps : List Int), (i : Int) + d = sv - 8 → (p : Int) + (sv - 8) ≤ ps.length → spec_l3Back.l1 N (k + 2 * d + 2) p sv i (x, (), ((), (), (), ()), (), (), ()) (y, (), ((), (), (), ()), (), (), ()) ps h0 h1 h2 h3 os is es =
      outB (x, setRow ps 0 d (p + i), (h0, h1, h2, h3), os, is, es)
  | 0, i, k, ps, e, hl => by
    rw [show k + 2 * 0 + 2 = k + 1 + 1 by omega, spec_l3Back.l1, w64 (n := sv - 8) (by omega) (by omega), cf (by omega), spec_l3Back.l4]; rfl
  | d + 1, i, k, ps, e, hl => by
    rw [show k + 2 * (d + 1) + 2 = (k + 2 * d + 2) + 1 + 1 by omega, spec_l3Back.l1, w64 (n := sv - 8) (by omega) (by omega), ct (by omega), w64 (n := (p : Int) + i) (by omega) (by omega), bnd (by omega) (by omega), spec_l3Back.l3, w64 (n := (i : Int) + 1) (by omega) (by omega), show ((p : Int) + i).toNat = p + i by omega, show (i : Int) + 1 = ((i + 1 : Nat) : Int) by omega]
    rw [back_wide N p sv hsv hp x y h0 h1 h2 h3 os is es d (i + 1) k _ (by omega) (by rw [List.length_set]; exact hl)]
    rfl
/-- The rooms of other pages. -/
def others (l : List Int) (p : Nat) : List Int := l.filter fun z => z / 8 != (p : Int)
theorem others_step (l : List Int) (p i : Nat) (hi : i < l.length) : others (l.drop i) p = (if l.getD i 0 / 8 = (p : Int) then [] else [l.getD i 0]) ++ others (l.drop (i + 1)) p := by
  rw [drop_at 0 hi]
  unfold others
  rw [List.filter_cons]
  by_cases c : l.getD i 0 / 8 = (p : Int)
  · rw [if_pos c, if_neg (by rw [c]; simp)]; rfl
  · rw [if_neg c, if_pos (bne_iff_ne.2 c)]; rfl
theorem back_filter (N : Nat) (p kk : Nat) (hk : kk < 4) (h : H4) (hs : ∀ j, j < 4 → ∀ z ∈ hd (0, [], h, [], [], []) j, 0 ≤ z ∧ z ≤ 1000) (hl : ∀ j, j < 4 → (hd (0, [], h, [], [], []) j).length ≤ 1000) (x y : Int) (ps os is es : List Int) :
    ∀ d i k (acc : List Int), i + d = (hd (0, [], h, [], [], []) kk).length → acc.length ≤ i → spec_l3Back.l7 N (k + 2 * d + 2) p kk i (x, (), ((), (), (), ()), (), (), ()) (y, (), ((), (), (), ()), (), (), ()) acc ps os is es h.1 h.2.1 h.2.2.1 h.2.2.2 =
      outB (x, ps, hset h kk (acc ++ others ((hd (0, [], h, [], [], []) kk).drop i) p), os, is, es)
  | 0, i, k, acc, e, ha => by
    rw [show k + 2 * 0 + 2 = k + 1 + 1 by omega, List.drop_eq_nil_of_le (by omega), spec_l3Back.l7]
    rcases usz_vals hk with ⟨_, rfl⟩ | ⟨_, rfl⟩ | ⟨_, rfl⟩ | ⟨_, rfl⟩
    · have e' : i + 0 = h.1.length := e
      simp (disch := omega) only [ct, cf]
      rw [spec_l3Back.l6]
      simp only [others, List.filter_nil, List.append_nil, hset]
    · have e' : i + 0 = h.2.1.length := e
      simp (disch := omega) only [ct, cf]
      rw [spec_l3Back.l6]
      simp only [others, List.filter_nil, List.append_nil, hset]
    · have e' : i + 0 = h.2.2.1.length := e
      simp (disch := omega) only [ct, cf]
      rw [spec_l3Back.l6]
      simp only [others, List.filter_nil, List.append_nil, hset]
    · have e' : i + 0 = h.2.2.2.length := e
      simp (disch := omega) only [ct, cf]
      rw [spec_l3Back.l6]
      simp only [others, List.filter_nil, List.append_nil, hset]
  | d + 1, i, k, acc, e, ha => by
    have hz := hs kk hk ((hd (0, [], h, [], [], []) kk).getD i 0) (by rw [List.getD_eq_getElem?_getD, List.getElem?_eq_getElem (by omega)]; exact List.getElem_mem _)
    have hlk := hl kk hk
    have hn : ∀ z : Int, [z].length = 1 := fun _ => rfl
    rw [others_step _ _ _ (by omega), show k + 2 * (d + 1) + 2 = (k + 2 * d + 2) + 1 + 1 by omega, spec_l3Back.l7]
    have ih := fun acc' h' => back_filter N p kk hk h hs hl x y ps os is es d (i + 1) k acc' (by omega) h'
    rcases usz_vals hk with ⟨_, rfl⟩ | ⟨_, rfl⟩ | ⟨_, rfl⟩ | ⟨_, rfl⟩
    · have e' : i + (d + 1) = h.1.length := e
      have hlk' : h.1.length ≤ 1000 := hlk
      have hz' : 0 ≤ h.1.getD i 0 ∧ h.1.getD i 0 ≤ 1000 := hz
      simp (disch := omega) only [ct, cf, bnd, Int.toNat_natCast, td, w64, cndn, hn, spec_l3Back.l8]
      rw [show (i : Int) + 1 = ((i + 1 : Nat) : Int) by omega]
      show _ = outB (x, ps, hset h 0 (acc ++ ((if h.1.getD i 0 / 8 = (p : Int) then [] else [h.1.getD i 0]) ++ _)), os, is, es)
      by_cases c : h.1.getD i 0 / 8 = (p : Int)
      · rw [if_pos c, if_pos c, List.nil_append, ih acc (by omega)]
      · rw [if_neg c, if_neg c, ih _ (by simp only [List.length_append, hn]; omega), List.append_assoc]
    · have e' : i + (d + 1) = h.2.1.length := e
      have hlk' : h.2.1.length ≤ 1000 := hlk
      have hz' : 0 ≤ h.2.1.getD i 0 ∧ h.2.1.getD i 0 ≤ 1000 := hz
      simp (disch := omega) only [ct, cf, bnd, Int.toNat_natCast, td, w64, cndn, hn, spec_l3Back.l8]
      rw [show (i : Int) + 1 = ((i + 1 : Nat) : Int) by omega]
      show _ = outB (x, ps, hset h 1 (acc ++ ((if h.2.1.getD i 0 / 8 = (p : Int) then [] else [h.2.1.getD i 0]) ++ _)), os, is, es)
      by_cases c : h.2.1.getD i 0 / 8 = (p : Int)
      · rw [if_pos c, if_pos c, List.nil_append, ih acc (by omega)]
      · rw [if_neg c, if_neg c, ih _ (by simp only [List.length_append, hn]; omega), List.append_assoc]
    · have e' : i + (d + 1) = h.2.2.1.length := e
      have hlk' : h.2.2.1.length ≤ 1000 := hlk
      have hz' : 0 ≤ h.2.2.1.getD i 0 ∧ h.2.2.1.getD i 0 ≤ 1000 := hz
      simp (disch := omega) only [ct, cf, bnd, Int.toNat_natCast, td, w64, cndn, hn, spec_l3Back.l8]
      rw [show (i : Int) + 1 = ((i + 1 : Nat) : Int) by omega]
      show _ = outB (x, ps, hset h 2 (acc ++ ((if h.2.2.1.getD i 0 / 8 = (p : Int) then [] else [h.2.2.1.getD i 0]) ++ _)), os, is, es)
      by_cases c : h.2.2.1.getD i 0 / 8 = (p : Int)
      · rw [if_pos c, if_pos c, List.nil_append, ih acc (by omega)]
      · rw [if_neg c, if_neg c, ih _ (by simp only [List.length_append, hn]; omega), List.append_assoc]
    · have e' : i + (d + 1) = h.2.2.2.length := e
      have hlk' : h.2.2.2.length ≤ 1000 := hlk
      have hz' : 0 ≤ h.2.2.2.getD i 0 ∧ h.2.2.2.getD i 0 ≤ 1000 := hz
      simp (disch := omega) only [ct, cf, bnd, Int.toNat_natCast, td, w64, cndn, hn, spec_l3Back.l8]
      rw [show (i : Int) + 1 = ((i + 1 : Nat) : Int) by omega]
      show _ = outB (x, ps, hset h 3 (acc ++ ((if h.2.2.2.getD i 0 / 8 = (p : Int) then [] else [h.2.2.2.getD i 0]) ++ _)), os, is, es)
      by_cases c : h.2.2.2.getD i 0 / 8 = (p : Int)
      · rw [if_pos c, if_pos c, List.nil_append, ih acc (by omega)]
      · rw [if_neg c, if_neg c, ih _ (by simp only [List.length_append, hn]; omega), List.append_assoc]
theorem hset_hset (h : H4) {k : Nat} (hk : k < 4) (l m : List Int) : hset (hset h k l) k m = hset h k m := by
  rcases usz_vals hk with ⟨_, rfl⟩ | ⟨_, rfl⟩ | ⟨_, rfl⟩ | ⟨_, rfl⟩ <;> rfl
theorem hd_heads (b b' : Bk) (h : b.2.2.1 = b'.2.2.1) (k : Nat) : hd b k = hd b' k := by
  obtain ⟨x, ps, hh, o⟩ := b
  obtain ⟨x', ps', hh', o'⟩ := b'
  simp only at h
  subst h
  unfold hd
  rfl
theorem hd_other (x : Int) (ps : List Int) (h : H4) (o : List Int × List Int × List Int) {k j : Nat} (hk : k < 4) (hj : j < 4) (hne : j ≠ k) (l : List Int) : hd (x, ps, hset h k l, o) j = hd (x, ps, h, o) j := by
  rcases usz_vals hk with ⟨_, rfl⟩ | ⟨_, rfl⟩ | ⟨_, rfl⟩ | ⟨_, rfl⟩ <;> rcases usz_vals hj with ⟨_, rfl⟩ | ⟨_, rfl⟩ | ⟨_, rfl⟩ | ⟨_, rfl⟩ <;> first | rfl | exact (hne rfl).elim
theorem BookP.sizes_set {b : Bk} (h : BookP b) (ps : List Int) (hh : H4) (u : Nat) (x : Int) (hps : ps.length = np b) : Sizes (b.1, ps, hh, b.2.2.2.1.set u x, b.2.2.2.2) := by
  have hs := h.sizes
  have e1 : np b = b.2.1.length := rfl
  have e2 : nu b = b.2.2.2.1.length := rfl
  unfold Sizes at hs ⊢
  refine ⟨hs.1, hs.2.1, hs.2.2.1, hs.2.2.2.1, ?_, ?_, ?_⟩
  · show 1 ≤ ps.length; omega
  · show ps.length ≤ 6; omega
  · show (b.2.2.2.1.set u x).length = ps.length * 8
    rw [List.length_set]; omega
theorem getD_set (l : List Int) (u v : Nat) (x : Int) (hu : u < l.length) : (l.set u x).getD v 0 = if v = u then x else l.getD v 0 := by
  simp only [List.getD_eq_getElem?_getD, List.getElem?_set]
  by_cases c : v = u
  · subst c; simp [hu]
  · rw [if_neg c, if_neg (fun e => c e.symm)]
theorem BookP.owners_set {b : Bk} (h : BookP b) (ps : List Int) (hh : H4) {u : Nat} (hu : u < nu b) (x : Int) (hx : 0 ≤ x) : Owners (b.1, ps, hh, b.2.2.2.1.set u x, b.2.2.2.2) := by
  intro v hv
  show 0 ≤ (b.2.2.2.1.set u x).getD v 0
  have hv : v < (b.2.2.2.1.set u x).length := hv
  rw [List.length_set] at hv
  rw [getD_set _ _ _ _ hu]
  split
  · exact hx
  · exact h.ow_nn hv
theorem spec_l3Back_eq (N : Nat) (hN : Fuel N) {b : Bk} (h : BookP b) (u : Nat) (hu : u < nu b) (ho : ow b u ≠ 0) :
    spec_l3Back N (b.1, (), ((), (), (), ()), (), (), ()) u b.2.1 b.2.2.1.1 b.2.2.1.2.1 b.2.2.1.2.2.1 b.2.2.1.2.2.2 b.2.2.2.1 b.2.2.2.2.1 b.2.2.2.2.2 = outB (freeP b u) := by
  have hdim := h.dims
  have hnp : np b = b.2.1.length := rfl
  have hnu : nu b = b.2.2.2.1.length := rfl
  obtain ⟨p, hp8, hp, hcase⟩ := h.owned hu ho
  have e8 : ((u : Int) / 8) = (p : Int) := by omega
  unfold spec_l3Back
  rw [td (by omega), e8, w64 (n := (p : Int)) (by omega) (by omega), bnd (by omega) (by omega), bnd (by omega) (by omega), Int.toNat_natCast, Int.toNat_natCast, fold_pg]
  unfold freeP
  rw [hp8]
  obtain ⟨m, hm⟩ : ∃ m, N = m + 1 := ⟨N - 1, by unfold Fuel at hN; omega⟩
  have hm' : 1099511627775 < m := by unfold Fuel at hN; omega
  suffices hh : spec_l3Back.l0 N (m + 1) u p (pg b p) (b.1, (), ((), (), (), ()), (), (), ()) (0, (), ((), (), (), ()), (), (), ()) b.2.1 b.2.2.1.1 b.2.2.1.2.1 b.2.2.1.2.2.1 b.2.2.1.2.2.2 (b.2.2.2.1.set u 0) b.2.2.2.2.1 b.2.2.2.2.2 = outB (freeP b u) by
    unfold freeP at hh
    rw [hp8] at hh
    rwa [← hm] at hh
  unfold freeP
  rw [hp8, spec_l3Back.l0, spec_l3Kind_eq]
  simp only [Option.bind_some]
  rcases hcase with ⟨c1, c2, c3⟩ | ⟨c1, c2, c3⟩
  · -- a page that is split
    obtain ⟨k, hk⟩ : ∃ k : Nat, pg b p = k + 1 := ⟨(pg b p - 1).toNat, by omega⟩
    have hk4 : k < 4 := by omega
    have ek : (pg b p - 1).toNat = k := by omega
    have ek2 : pg b p - 1 = (k : Int) := by omega
    rw [if_pos ⟨c1, c2⟩, if_pos ⟨c1, c2⟩, cf (by omega), ek, ek2]
    have q0 := h.hd_len (k := 0) (by omega)
    have q1 := h.hd_len (k := 1) (by omega)
    have q2 := h.hd_len (k := 2) (by omega)
    have q3 := h.hd_len (k := 3) (by omega)
    have r0 : b.2.2.1.1.length ≤ 48 := by show (hd b 0).length ≤ 48; omega
    have r1 : b.2.2.1.2.1.length ≤ 48 := by show (hd b 1).length ≤ 48; omega
    have r2 : b.2.2.1.2.2.1.length ≤ 48 := by show (hd b 2).length ≤ 48; omega
    have r3 : b.2.2.1.2.2.2.length ≤ 48 := by show (hd b 3).length ≤ 48; omega
    -- what follows
    have key : spec_l3Back.l2 N m p k (b.1, (), ((), (), (), ()), (), (), ()) (0, (), ((), (), (), ()), (), (), ()) b.2.1 (b.2.2.2.1.set u 0) b.2.2.2.2.1 b.2.2.2.2.2 (hset b.2.2.1 k ((u : Int) :: hd b k)).1 (hset b.2.2.1 k ((u : Int) :: hd b k)).2.1 (hset b.2.2.1 k ((u : Int) :: hd b k)).2.2.1 (hset b.2.2.1 k ((u : Int) :: hd b k)).2.2.2 =
        outB (cond (tf (FreeP (wHd (wOw b u 0) k ((u : Int) :: hd b k)) p 0)) (wHd (wPg (wHd (wOw b u 0) k ((u : Int) :: hd b k)) (b.2.1.set p 0)) k (((u : Int) :: hd b k).filter fun x => x / 8 != (p : Int))) (wHd (wOw b u 0) k ((u : Int) :: hd b k))) := by
      have hfree := spec_l3Free_eq N hN (wHd (wOw b u 0) k ((u : Int) :: hd b k)) (h.sizes_set b.2.1 _ u 0 rfl) (h.owners_set b.2.1 _ hu 0 (by omega)) p 0 (show p < b.2.1.length by omega) (by omega)
      obtain ⟨m2, hm2⟩ : ∃ m2, m = m2 + 1 + 1 := ⟨m - 2, by omega⟩
      rw [hm2, spec_l3Back.l2]
      have hfree' : spec_l3Free N (b.1, b.2.1, ((hset b.2.2.1 k ((u : Int) :: hd b k)).1, (hset b.2.2.1 k ((u : Int) :: hd b k)).2.1, (hset b.2.2.1 k ((u : Int) :: hd b k)).2.2.1, (hset b.2.2.1 k ((u : Int) :: hd b k)).2.2.2), b.2.2.2.1.set u 0, b.2.2.2.2.1, b.2.2.2.2.2) p 0 = some (tf (FreeP (wHd (wOw b u 0) k ((u : Int) :: hd b k)) p 0), ()) := hfree
      rw [hfree']
      simp only [Option.bind_some]
      cases hf : tf (FreeP (wHd (wOw b u 0) k ((u : Int) :: hd b k)) p 0)
      · rw [cond_false, cond_false, spec_l3Back.l6]
        rfl
      · rw [cond_true, cond_true, bnd (by omega) (by omega), Int.toNat_natCast, spec_l3Back.l5]
        have hin : ∀ j, j < 4 → ∀ z ∈ hd (0, [], hset b.2.2.1 k ((u : Int) :: hd b k), [], [], []) j, 0 ≤ z ∧ z ≤ 1000 := by
          intro j hj z hz
          have hbj : ∀ z ∈ hd b j, 0 ≤ z ∧ z ≤ 1000 := fun z hz => by have := h.mem hj hz; omega
          by_cases e : j = k
          · subst e
            rw [hd_hset _ _ _ _ hj] at hz
            rcases List.mem_cons.1 hz with rfl | hz
            · omega
            · exact hbj z hz
          · rw [hd_other _ _ _ _ hk4 hj e, hd_heads (0, [], b.2.2.1, [], [], []) b rfl] at hz
            exact hbj z hz
        have hln : ∀ j, j < 4 → (hd (0, [], hset b.2.2.1 k ((u : Int) :: hd b k), [], [], []) j).length ≤ 1000 := by
          intro j hj
          have := h.hd_len hj
          by_cases e : j = k
          · subst e
            rw [hd_hset _ _ _ _ hj, List.length_cons]; omega
          · rw [hd_other _ _ _ _ hk4 hj e, hd_heads (0, [], b.2.2.1, [], [], []) b rfl]; omega
        have := back_filter N p k hk4 (hset b.2.2.1 k ((u : Int) :: hd b k)) hin hln b.1 0 (b.2.1.set p 0) (b.2.2.2.1.set u 0) b.2.2.2.2.1 b.2.2.2.2.2 (((u : Int) :: hd b k)).length 0 (m2 - 2 * ((u : Int) :: hd b k).length - 2) []
          (by rw [hd_hset _ _ _ _ hk4]; omega) (by simp)
        have hlk := h.hd_len hk4
        rw [show m2 - 2 * ((u : Int) :: hd b k).length - 2 + 2 * ((u : Int) :: hd b k).length + 2 = m2 by rw [List.length_cons]; omega, hd_hset _ _ _ _ hk4, hset_hset _ hk4, List.nil_append, List.drop_zero, show ((0 : Nat) : Int) = 0 from rfl] at this
        rw [this]
        unfold wHd wPg wOw
        rw [hset_hset _ hk4]
        rfl
    have hn : ∀ z : Int, [z].length = 1 := fun _ => rfl
    rcases usz_vals hk4 with ⟨hz, rfl⟩ | ⟨hz, rfl⟩ | ⟨hz, rfl⟩ | ⟨hz, rfl⟩
    all_goals
      simp (disch := omega) only [ct, cf, hn, List.singleton_append]
      exact key
  · -- a wide one
    rw [if_neg (by omega), if_neg (by omega), ct (by omega)]
    have hw := (h.wide hp c1).2.2.1
    have := back_wide N p (pg b p) (by omega) (by omega) b.1 0 b.2.2.1.1 b.2.2.1.2.1 b.2.2.1.2.2.1 b.2.2.1.2.2.2 (b.2.2.2.1.set u 0) b.2.2.2.2.1 b.2.2.2.2.2 (pg b p - 8).toNat 0 (m - 2 * (pg b p - 8).toNat - 2) b.2.1 (by omega) (by omega)
    rw [show m - 2 * (pg b p - 8).toNat - 2 + 2 * (pg b p - 8).toNat + 2 = m by omega, show ((0 : Nat) : Int) = 0 from rfl, Nat.add_zero] at this
    rw [this]
    rfl
noncomputable def reapP (b : Bk) (s : Int) : Bk × Int × Int :=
  if s < 0 ∨ s ≥ b.1 ∨ inn b s.toNat = 0 then (b, 9, 0) else if inn b s.toNat = 1 then (b, 8, 0) else
    if firstOf b s < 0 then (wIn b s.toNat 0, 0, 0) else (freeP b (firstOf b s).toNat, 10, firstOf b s)
noncomputable def ownP (b : Bk) (op : Op) : Bk × Int × Int :=
  if op.1 = 2 then takeP b op.2.1 op.2.2.1
  else if op.1 = 3 then (if whoseP b op.2.1 op.2.2.1 > 0 then (b, whoseP b op.2.1 op.2.2.1, 0) else (freeP b op.2.2.1.toNat, 0, 0))
  else if op.1 = 4 then (if whoseP b op.2.1 op.2.2.1 > 0 then (b, whoseP b op.2.1 op.2.2.1, 0) else
    if op.2.2.2 < 0 ∨ op.2.2.2 ≥ b.1 ∨ inn b op.2.2.2.toNat = 0 then (b, 5, 0) else (wOw b op.2.2.1.toNat (op.2.2.2 + 1), 0, 0))
  else if op.1 = 5 then (if firstOf b op.2.1 ≥ 0 then (b, 7, 0) else (wIn b op.2.1.toNat 0, 0, 0))
  else if op.1 = 6 then reapP b op.2.2.1 else (b, 13, 0)
noncomputable def doP (b : Bk) (op : Op) : Bk × Int × Int :=
  if op.2.1 < 0 ∨ op.2.1 ≥ b.1 then (b, 13, 0) else
    if op.1 = 1 then enterP b op.2.1.toNat else if inn b op.2.1.toNat = 0 then (b, 9, 0) else ownP b op
theorem firstOf_cases {b : Bk} (s : Int) : firstOf b s = -1 ∨ ∃ u : Nat, firstOf b s = u ∧ u < nu b ∧ ow b u = s + 1 := by
  unfold firstOf
  cases hl : blksOf b s (nu b) 0 with
  | nil => exact .inl rfl
  | cons x r =>
    obtain ⟨u, e, h1, h2, h3⟩ := blks_mem b s (nu b) 0 x (by rw [hl]; exact List.mem_cons_self)
    exact .inr ⟨u, by rw [← e]; rfl, by omega, h3⟩
theorem whose_in {b : Bk} {s a : Int} (h : ¬ whoseP b s a > 0) : 0 ≤ a ∧ a < nu b ∧ ow b a.toNat ≠ 0 ∧ ow b a.toNat = s + 1 := by
  unfold whoseP at h
  by_cases c : roomAt b a = 0
  · rw [if_pos c] at h; omega
  · rw [if_neg c] at h
    obtain ⟨h1, h2, h3⟩ := roomAt_in c
    by_cases c2 : ow b a.toNat = s + 1
    · exact ⟨h1, h2, h3, c2⟩
    · rw [if_neg c2] at h; omega
theorem BookP.slots {b : Bk} (h : BookP b) : (b.2.2.2.2.1.length : Int) = b.1 ∧ (b.2.2.2.2.2.length : Int) = b.1 := ⟨h.sizes.2.2.1, h.sizes.2.2.2.1⟩
theorem spec_l3Reap_eq (N : Nat) (hN : Fuel N) {b : Bk} (h : BookP b) (s : Int) :
    spec_l3Reap N (b.1, (), ((), (), (), ()), (), (), ()) s b.2.1 b.2.2.1.1 b.2.2.1.2.1 b.2.2.1.2.2.1 b.2.2.1.2.2.2 b.2.2.2.1 b.2.2.2.2.1 b.2.2.2.2.2 = out (reapP b s) := by
  have hdim := h.dims
  have hsl := h.slots
  unfold spec_l3Reap reapP
  by_cases c : s < 0
  · rw [ct c, if_pos (.inl c)]
  rw [cf c]
  by_cases c2 : s ≥ b.1
  · rw [ct c2, if_pos (.inr (.inl c2))]
  rw [cf c2, bnd (by omega) (by omega), fold_in, cndb]
  by_cases c3 : inn b s.toNat = 0
  · rw [if_pos c3, if_pos (.inr (.inr c3))]
  rw [if_neg c3, if_neg (by omega), bnd (by omega) (by omega), cndb]
  by_cases c4 : inn b s.toNat = 1
  · rw [if_pos c4, if_pos c4]
  rw [if_neg c4, if_neg c4]
  have hf : spec_l3First N (b.1, b.2.1, (b.2.2.1.1, b.2.2.1.2.1, b.2.2.1.2.2.1, b.2.2.1.2.2.2), b.2.2.2.1, b.2.2.2.2.1, b.2.2.2.2.2) s = some (firstOf b s, ()) := spec_l3First_eq N hN h s (by omega)
  rw [hf]
  simp only [Option.bind_some]
  by_cases c5 : firstOf b s < 0
  · rw [ct c5, if_pos c5, bnd (by omega) (by omega)]; rfl
  rw [cf c5, if_neg c5]
  rcases firstOf_cases (b := b) s with e | ⟨u, e, h1, h2⟩
  · exact absurd (show firstOf b s < 0 by omega) c5
  rw [e, Int.toNat_natCast, spec_l3Back_eq N hN h u h1 (by omega)]
  rfl
theorem spec_l3Own_eq (N : Nat) (hN : Fuel N) {b : Bk} (h : BookP b) (op : Op) (hs : 0 ≤ op.2.1 ∧ op.2.1 < b.1) :
    spec_l3Own N (b.1, (), ((), (), (), ()), (), (), ()) op b.2.1 b.2.2.1.1 b.2.2.1.2.1 b.2.2.1.2.2.1 b.2.2.1.2.2.2 b.2.2.2.1 b.2.2.2.2.1 b.2.2.2.2.2 = out (ownP b op) := by
  have hdim := h.dims
  have hsl := h.slots
  have hnu : nu b = b.2.2.2.1.length := rfl
  have hw : spec_l3Whose N (b.1, b.2.1, (b.2.2.1.1, b.2.2.1.2.1, b.2.2.1.2.2.1, b.2.2.1.2.2.2), b.2.2.2.1, b.2.2.2.2.1, b.2.2.2.2.2) op.2.1 op.2.2.1 = some (whoseP b op.2.1 op.2.2.1, ()) := spec_l3Whose_eq N h _ _ (by omega)
  have hf : spec_l3First N (b.1, b.2.1, (b.2.2.1.1, b.2.2.1.2.1, b.2.2.1.2.2.1, b.2.2.1.2.2.2), b.2.2.2.1, b.2.2.2.2.1, b.2.2.2.2.2) op.2.1 = some (firstOf b op.2.1, ()) := spec_l3First_eq N hN h _ (by omega)
  unfold spec_l3Own ownP
  simp only [cndb]
  by_cases c2 : op.1 = 2
  · rw [if_pos c2, if_pos c2, spec_l3Take_eq N hN h.tk _ (by omega)]; rfl
  rw [if_neg c2, if_neg c2]
  by_cases c3 : op.1 = 3
  · rw [if_pos c3, if_pos c3, hw]
    simp only [Option.bind_some]
    by_cases c : whoseP b op.2.1 op.2.2.1 > 0
    · rw [ct c, if_pos c]
    obtain ⟨h1, h2, h3, _⟩ := whose_in c
    have := spec_l3Back_eq N hN h op.2.2.1.toNat (by omega) h3
    rw [Int.toNat_of_nonneg h1] at this
    rw [cf c, if_neg c, this]
    rfl
  rw [if_neg c3, if_neg c3]
  by_cases c4 : op.1 = 4
  · rw [if_pos c4, if_pos c4, hw]
    simp only [Option.bind_some]
    by_cases c : whoseP b op.2.1 op.2.2.1 > 0
    · rw [ct c, if_pos c]
    obtain ⟨h1, h2, h3, _⟩ := whose_in c
    rw [cf c, if_neg c]
    by_cases d1 : op.2.2.2 < 0
    · rw [ct d1, if_pos (.inl d1)]
    rw [cf d1]
    by_cases d2 : op.2.2.2 ≥ b.1
    · rw [ct d2, if_pos (.inr (.inl d2))]
    rw [cf d2, bnd (by omega) (by omega), fold_in]
    by_cases d3 : inn b op.2.2.2.toNat = 0
    · rw [if_pos d3, if_pos (.inr (.inr d3))]
    rw [if_neg d3, if_neg (by omega), bnd h1 (by omega), w64 (by omega) (by omega)]
    rfl
  rw [if_neg c4, if_neg c4]
  by_cases c5 : op.1 = 5
  · rw [if_pos c5, if_pos c5, hf]
    simp only [Option.bind_some]
    by_cases c : firstOf b op.2.1 ≥ 0
    · rw [ct c, if_pos c]
    · rw [cf c, if_neg c, bnd (by omega) (by omega)]; rfl
  rw [if_neg c5, if_neg c5]
  by_cases c6 : op.1 = 6
  · rw [if_pos c6, if_pos c6, spec_l3Reap_eq N hN h]; rfl
  · rw [if_neg c6, if_neg c6]
theorem spec_l3Do_eq (N : Nat) (hN : Fuel N) {b : Bk} (h : BookP b) (hi : Bi b) (op : Op) :
    spec_l3Do N (b.1, (), ((), (), (), ()), (), (), ()) op b.2.1 b.2.2.1.1 b.2.2.1.2.1 b.2.2.1.2.2.1 b.2.2.1.2.2.2 b.2.2.2.1 b.2.2.2.2.1 b.2.2.2.2.2 = out (doP b op) := by
  have hdim := h.dims
  have hsl := h.slots
  unfold spec_l3Do doP
  by_cases c : op.2.1 < 0
  · rw [ct c, if_pos (.inl c)]
  rw [cf c]
  by_cases c2 : op.2.1 ≥ b.1
  · rw [ct c2, if_pos (.inr c2)]
  rw [cf c2, if_neg (by omega), cndb]
  by_cases c1 : op.1 = 1
  · rw [if_pos c1, if_pos c1]
    unfold enterP
    have he : 0 ≤ ep b op.2.1.toNat ∧ ep b op.2.1.toNat ≤ 4095 := by
      have h1 := h.1
      unfold slotsB at h1
      rw [Bool.and_eq_true, Bool.and_eq_true] at h1
      have := of_decide_eq_true ((allB_iff _ _ _).1 h1.2.1 op.2.1.toNat (by omega) (by omega))
      exact ⟨this.2.2.1, this.2.2.2.1⟩
    have hgs : ∀ x : Int, (b.2.2.2.2.2.set op.2.1.toNat x).getD op.2.1.toNat 0 = x := fun x => by rw [getD_set _ _ _ _ (by omega), if_pos rfl]
    simp (disch := omega) only [bnd, fold_in, fold_ep, w64, cndn, cndb, List.length_set, hgs]
    by_cases d : inn b op.2.1.toNat = 0
    · rw [if_pos d, if_neg (show ¬ inn b op.2.1.toNat ≠ 0 from fun g => g d)]
      by_cases d2 : ep b op.2.1.toNat = 4095
      · rw [if_pos d2, if_pos d2]
      · rw [if_neg d2, if_neg d2]; rfl
    · rw [if_neg d, if_pos d]
  rw [if_neg c1, if_neg c1, bnd (by omega) (by omega), fold_in, cndb]
  by_cases d : inn b op.2.1.toNat = 0
  · rw [if_pos d, if_pos d]
  · rw [if_neg d, if_neg d, spec_l3Own_eq N hN h op (by omega)]; rfl
theorem mem_getD {l : List Int} {z : Int} (h : z ∈ l) : ∃ j, j < l.length ∧ l.getD j 0 = z := by
  obtain ⟨j, hj, e⟩ := List.getElem_of_mem h
  exact ⟨j, hj, by rw [List.getD_eq_getElem?_getD, List.getElem?_eq_getElem hj, e]; rfl⟩
def PageW (b : Bk) (p : Nat) : Prop :=
  (pg b p = 0 ∧ FreeP b p 0) ∨ (1 ≤ pg b p ∧ pg b p ≤ 4 ∧ RoomsP b p (pg b p - 1).toNat) ∨
  (pg b p = 7 ∧ FreeP b p 0 ∧ ∃ q, q < p ∧ 10 ≤ pg b q ∧ (p : Int) < q + (pg b q - 8)) ∨ WideP b p
theorem BookP.pageW {b : Bk} (h : BookP b) {p : Nat} (hp : p < np b) : PageW b p := by
  have hP := h.page hp
  rcases h.cases hp with h0 | h1 | h7 | h8
  · exact .inl ⟨h0, hP.1 h0⟩
  · exact .inr (.inl ⟨h1.1, h1.2, hP.2.1 h1⟩)
  · have hR := hP.2.2.1 h7
    have hbl := back_le b p
    have hb : back b p < np b := by omega
    have hne : back b p ≠ p := by
      intro e
      have h1 := hR.1
      rw [e] at h1
      omega
    refine .inr (.inr (.inl ⟨h7, hR.2.2, back b p, by omega, ?_, ?_⟩))
    · rcases h.cases hb with g | g | g | g
      · have := hR.1; omega
      · have := hR.1; omega
      · have := hR.1; omega
      · exact g.1
    · have := hR.2.1; omega
  · exact .inr (.inr (.inr (h.wide hp h8.1)))
theorem pageP_of {b : Bk} (h : ∀ p, p < np b → PageW b p) {p : Nat} (hp : p < np b) : PageP b p := by
  rcases h p hp with ⟨h0, hf⟩ | ⟨h1, h2, hr⟩ | ⟨h7, hf, q, hq, hq10, hqp⟩ | hw
  · exact ⟨fun _ => hf, fun g => by omega, fun g => by omega, fun g => (g h0).elim⟩
  · exact ⟨fun g => by omega, fun _ => hr, fun g => by omega, fun _ g => (g ⟨h1, h2⟩).elim⟩
  · refine ⟨fun g => by omega, fun g => by omega, fun _ => ?_, fun _ _ g => (g h7).elim⟩
    have hw : WideP b q := by
      rcases h q (by omega) with ⟨g, _⟩ | ⟨_, g, _⟩ | ⟨g, _⟩ | g
      · omega
      · omega
      · omega
      · exact g
    have hb : back b p = q := by
      have := back_run (b := b) (p := q) (by omega) (p - q) (fun j g1 g2 => hw.2.2.2.2.2 j g1 (by omega))
      rwa [show q + (p - q) = p by omega] at this
    unfold RestP
    rw [hb]
    exact ⟨by omega, by omega, hf⟩
  · have := hw.1
    exact ⟨fun g => by omega, fun g => by omega, fun g => by omega, fun _ _ _ => hw⟩
theorem BookP.slot {b : Bk} (h : BookP b) {i : Nat} (hi : i < b.1.toNat) : slotB b i = true := by
  have h1 := h.1
  unfold slotsB at h1
  rw [Bool.and_eq_true, Bool.and_eq_true] at h1
  exact (allB_iff _ _ _).1 h1.2.1 i (by omega) (by omega)
theorem BookP.own {b : Bk} (h : BookP b) {u : Nat} (hu : u < nu b) : ownB b u = true := by
  have h1 := h.1
  unfold slotsB at h1
  rw [Bool.and_eq_true, Bool.and_eq_true] at h1
  exact (allB_iff _ _ _).1 h1.2.2 u (by omega) (by omega)
theorem BookP.list {b : Bk} (h : BookP b) {k : Nat} (hk : k < 4) {x : Int} (hx : x ∈ hd b k) : memB b k x = true := lists_mem h.2.1 hk hx
theorem page_count {b : Bk} (hs : Sizes b) (h3 : ∀ k, k < 4 → ∀ x ∈ hd b k, memB b k x = true) (h4 : ∀ p, p < np b → PageW b p) {k : Nat} (hk : k < 4) {u : Nat} (hu : u < nu b) :
    (hd b k).count ((u : Nat) : Int) ≤ 1 := by
  unfold Sizes at hs
  by_cases c : ((u : Nat) : Int) ∈ hd b k
  · have hm := of_decide_eq_true (h3 k hk _ c)
    have hpg : pg b (u / 8) = (k : Int) + 1 := by
      have := hm.2.2.1
      rwa [show (((u : Nat) : Int) / 8).toNat = u / 8 by omega] at this
    rcases h4 (u / 8) (by omega) with ⟨g, _⟩ | ⟨_, _, hr⟩ | ⟨g, _⟩ | g
    · omega
    · rw [hpg, show ((k : Int) + 1 - 1).toNat = k by omega] at hr
      have := hr.1 (u % 8) (by omega)
      unfold RoomP at this
      rw [show 8 * (u / 8) + u % 8 = u by omega] at this
      by_cases c2 : u % 8 % usz k = 0
      · rcases this.2 c2 with g | g <;> omega
      · have := (this.1 c2).2; omega
    · omega
    · have := g.1; omega
  · rw [List.count_eq_zero.2 c]; omega
theorem BookP.mk' {b : Bk} (hs : Sizes b) (h1 : ∀ i, i < b.1.toNat → slotB b i = true) (h2 : ∀ u, u < nu b → ownB b u = true)
    (h3 : ∀ k, k < 4 → ∀ x ∈ hd b k, memB b k x = true) (h4 : ∀ p, p < np b → PageW b p) : BookP b := by
  refine ⟨?_, ?_, fun p hp => pageP_of h4 hp⟩
  · unfold slotsB
    rw [dt hs, Bool.true_and, Bool.and_eq_true]
    exact ⟨(allB_iff _ _ _).2 fun j _ hj => h1 j (by omega), (allB_iff _ _ _).2 fun j _ hj => h2 j (by omega)⟩
  · unfold listsB
    refine (allB_iff _ _ _).2 fun k _ hk => ?_
    have hk : k < 4 := by omega
    rw [listB, Bool.and_eq_true, List.all_eq_true]
    refine ⟨decide_eq_true ?_, h3 k hk⟩
    have := count_sm (nu b) (hd b k) (fun x hx => by have := of_decide_eq_true (h3 k hk x hx); omega)
    have h5 := sm_le (fun u => ((hd b k).count ((u : Nat) : Int) : Int)) 1 (nu b) (fun u hu => by
      have := page_count hs h3 h4 hk hu
      omega)
    omega
/-- A page that nothing touches. -/
theorem PageW.same {b b' : Bk} {p : Nat} (h : PageW b p) (hn : np b' = np b) (hp : pg b' p = pg b p) (ho : ∀ u, u < 8 → (ow b' (8 * p + u) = 0 ↔ ow b (8 * p + u) = 0) ∧ (0 < ow b' (8 * p + u) ↔ 0 < ow b (8 * p + u)))
    (hc : ∀ k : Nat, k < 4 → pg b p = (k : Int) + 1 → ∀ u, u < 8 → (hd b' k).count ((8 * p + u : Nat) : Int) = (hd b k).count ((8 * p + u : Nat) : Int))
    (h7 : pg b p = 7 → ∀ q, q < p → 10 ≤ pg b q → (p : Int) < q + (pg b q - 8) → pg b' q = pg b q)
    (hw : 10 ≤ pg b p → ∀ i : Nat, 1 ≤ i → (i : Int) < pg b p - 8 → pg b' (p + i) = pg b (p + i)) : PageW b' p := by
  have hf : ∀ f, FreeP b p f → FreeP b' p f := fun f g u h1 h2 => (ho u h2).1.2 (g u h1 h2)
  rcases h with ⟨h0, hfr⟩ | ⟨h1, h2, hr⟩ | ⟨g7, hfr, q, hq, hq10, hqp⟩ | g
  · exact .inl ⟨by rw [hp]; exact h0, hf 0 hfr⟩
  · refine .inr (.inl ?_)
    rw [hp]
    refine ⟨h1, h2, fun u hu => ?_, ?_⟩
    · have := hr.1 u hu
      unfold RoomP at this ⊢
      rw [propext (ho u hu).1, propext (ho u hu).2, hc (pg b p - 1).toNat (by omega) (by omega) u hu]
      exact this
    · obtain ⟨u, hu, g⟩ := hr.2
      exact ⟨u, hu, (ho u hu).2.2 g⟩
  · have := h7 g7 q hq hq10 hqp
    exact .inr (.inr (.inl ⟨by rw [hp]; exact g7, hf 0 hfr, q, hq, by rw [this]; exact hq10, by rw [this]; exact hqp⟩))
  · refine .inr (.inr (.inr ?_))
    obtain ⟨w1, w2, w3, w4, w5, w6⟩ := g
    have h80 := ho 0 (by omega)
    rw [Nat.add_zero] at h80
    unfold WideP
    rw [hp, hn]
    exact ⟨w1, w2, w3, fun e => w4 (h80.1.1 e), hf 1 w5, fun i g1 g2 => by rw [hw w1 i g1 g2]; exact w6 i g1 g2⟩
theorem setRow_getD (x : Int) : ∀ n p (l : List Int) (v : Nat), p + n ≤ l.length → (setRow l x n p).getD v 0 = if p ≤ v ∧ v < p + n then x else l.getD v 0
  | 0, p, l, v, h => by rw [setRow, if_neg (by omega)]
  | n + 1, p, l, v, h => by
    rw [setRow, setRow_getD x n (p + 1) _ v (by rw [List.length_set]; omega), getD_set _ _ _ _ (by omega)]
    by_cases c : p + 1 ≤ v ∧ v < p + 1 + n
    · rw [if_pos c, if_pos (by omega)]
    · rw [if_neg c]
      by_cases c2 : v = p
      · rw [if_pos c2, if_pos (by omega)]
      · rw [if_neg c2, if_neg (by omega)]
theorem ieq {a c : Int} (h : a = c) : (a = 0 ↔ c = 0) ∧ (0 < a ↔ 0 < c) := by rw [h]; exact ⟨Iff.rfl, Iff.rfl⟩
theorem memB_iff {b : Bk} {k : Nat} {x : Int} : memB b k x = true ↔ 0 ≤ x ∧ x < nu b ∧ pg b (x / 8).toNat = k + 1 ∧ x % (usz k : Int) = 0 := by
  unfold memB; exact decide_eq_true_iff
theorem ownB_iff {b : Bk} {u : Nat} : ownB b u = true ↔ 0 ≤ ow b u ∧ ow b u ≤ b.1 ∧ (0 < ow b u → inn b (ow b u - 1).toNat ≠ 0) := by
  unfold ownB; exact decide_eq_true_iff
/-- A change that leaves the slots alone. -/
theorem book_change {b b' : Bk} (hs : Sizes b) (hsl : ∀ i, i < b.1.toNat → slotB b i = true) (hob : ∀ u, u < nu b → ownB b u = true) (h1 : b'.1 = b.1) (hi : b'.2.2.2.2 = b.2.2.2.2) (hp : np b' = np b) (hu : nu b' = nu b)
    (ho : ∀ u, u < nu b → ow b' u = ow b u ∨ ow b' u = 0 ∨ (1 ≤ ow b' u ∧ ow b' u ≤ b.1 ∧ inn b (ow b' u - 1).toNat ≠ 0))
    (hl : ∀ k, k < 4 → ∀ x ∈ hd b' k, memB b' k x = true) (hpg : ∀ p, p < np b → PageW b' p) : BookP b' := by
  have hin : ∀ i, inn b' i = inn b i := fun i => by unfold inn; rw [hi]
  have hep : ∀ i, ep b' i = ep b i := fun i => by unfold ep; rw [hi]
  refine BookP.mk' ?_ (fun i h => ?_) (fun u h => ?_) hl (fun p h => hpg p (by omega))
  · unfold Sizes at hs ⊢
    rw [h1, hi, hp, hu]
    exact hs
  · rw [h1] at h
    have := hsl i h
    unfold slotB at this ⊢
    rw [hin, hep]
    exact this
  · rw [hu] at h
    have := ownB_iff.1 (hob u h)
    refine ownB_iff.2 ?_
    rw [hin, h1]
    rcases ho u h with e | e | e
    · rw [e]; exact this
    · rw [e]; unfold Sizes at hs; exact ⟨by omega, by omega, fun g => by omega⟩
    · exact ⟨by omega, e.2.1, fun _ => e.2.2⟩
/-- A free room of a page is taken. -/
theorem pop_ok {c : Bk} (hs : Sizes c) (hsl : ∀ i, i < c.1.toNat → slotB c i = true) (hob : ∀ u, u < nu c → ownB c u = true) (h3 : ∀ k, k < 4 → ∀ x ∈ hd c k, memB c k x = true)
    {k p0 : Nat} (hk : k < 4) (hpg : pg c p0 = (k : Int) + 1) (hr : ∀ u, u < 8 → RoomP c p0 k u) (h4 : ∀ p, p < np c → p ≠ p0 → PageW c p)
    {x : Int} {r : List Int} (hx : hd c k = x :: r) (hxp : (x / 8).toNat = p0) {s : Int} (hs0 : 0 ≤ s) (hs1 : s < c.1) (hin : inn c s.toNat ≠ 0) : BookP (popP c s k).1 := by
  have hm := memB_iff.1 (h3 k hk x (by rw [hx]; exact List.mem_cons_self))
  obtain ⟨u0, rfl⟩ : ∃ u : Nat, x = u := ⟨x.toNat, by omega⟩
  have hb' : (popP c s k).1 = wOw (wHd c k r) u0 (s + 1) := by unfold popP; rw [hx]; rfl
  rw [hb']
  have hu0 : u0 < nu c := by omega
  have hu0' : u0 < c.2.2.2.1.length := hu0
  have ho : ∀ v, ow (wOw (wHd c k r) u0 (s + 1)) v = if v = u0 then s + 1 else ow c v := fun v => getD_set _ _ _ _ hu0'
  have hk1 : hd (wOw (wHd c k r) u0 (s + 1)) k = r := hd_hset _ _ _ _ hk _
  have hk2 : ∀ j, j < 4 → j ≠ k → hd (wOw (wHd c k r) u0 (s + 1)) j = hd c j := fun j hj hne => hd_other _ _ _ _ hk hj hne _
  have hnu : nu (wOw (wHd c k r) u0 (s + 1)) = nu c := by show (c.2.2.2.1.set u0 (s + 1)).length = _; rw [List.length_set]; rfl
  have hcount : ∀ v : Nat, v ≠ u0 → (hd c k).count (v : Int) = r.count (v : Int) := fun v hv => by
    rw [hx, List.count_cons, beq_eq_false_iff_ne.2 (by omega), if_neg (by decide)]; rfl
  refine book_change hs hsl hob rfl rfl rfl hnu (fun v hv => ?_) (fun j hj y hy => ?_) (fun p hp => ?_)
  · rw [ho]
    by_cases e : v = u0
    · rw [if_pos e]
      refine .inr (.inr ⟨by omega, by omega, ?_⟩)
      rw [show s + 1 - 1 = s by omega]; exact hin
    · rw [if_neg e]; exact .inl rfl
  · have hy' : y ∈ hd c j := by
      by_cases e : j = k
      · subst e; rw [hk1] at hy; rw [hx]; exact List.mem_cons_of_mem _ hy
      · rwa [hk2 j hj e] at hy
    have := memB_iff.1 (h3 j hj y hy')
    refine memB_iff.2 ?_
    rw [hnu]
    exact this
  · by_cases e : p = p0
    · subst e
      refine .inr (.inl ⟨?_, ?_, ?_, ?_⟩)
      · show 1 ≤ pg c p; omega
      · show pg c p ≤ 4; omega
      · have e2 : (pg (wOw (wHd c k r) u0 (s + 1)) p - 1).toNat = k := by show (pg c p - 1).toNat = k; omega
        rw [e2]
        intro u hu
        have hru := hr u hu
        unfold RoomP at hru ⊢
        rw [hk1, ho]
        by_cases e3 : 8 * p + u = u0
        · rw [if_pos e3]
          rw [hx, e3, List.count_cons, beq_iff_eq.2 rfl, if_pos rfl] at hru
          have hz : r.count (u0 : Int) = 0 ∧ u % usz k = 0 := by
            by_cases g : u % usz k = 0
            · refine ⟨?_, g⟩
              rcases hru.2 g with g2 | g2 <;> omega
            · have := (hru.1 g).2; omega
          rw [e3, hz.1]
          exact ⟨fun g => (g hz.2).elim, fun _ => .inl ⟨by omega, rfl⟩⟩
        · rw [if_neg e3, ← hcount _ e3]; exact hru
      · refine ⟨u0 % 8, by omega, ?_⟩
        rw [ho, if_pos (by omega)]; omega
    · refine (h4 p hp e).same rfl rfl (fun u hu => ieq ?_) (fun j hj _ u hu => ?_) (fun _ _ _ _ _ => rfl) (fun _ _ _ _ => rfl)
      · rw [ho, if_neg (by omega)]
      · by_cases e2 : j = k
        · subst e2; rw [hk1, hcount _ (by omega)]
        · rw [hk2 j hj e2]
theorem roomsOf_mem {k : Nat} (hk : k < 4) : ∀ n u, ∀ x ∈ roomsOf k n u, ∃ v : Nat, x = v ∧ u ≤ v ∧ v < u + n * usz k ∧ (v - u) % usz k = 0
  | 0, u, x, h => by cases h
  | n + 1, u, x, h => by
    have hz := usz_vals hk
    rw [roomsOf] at h
    rcases List.mem_cons.1 h with e | h
    · refine ⟨u, e, Nat.le_refl _, ?_, by rw [Nat.sub_self, Nat.zero_mod]⟩
      rw [Nat.add_mul]; omega
    · obtain ⟨v, e, h1, h2, h3⟩ := roomsOf_mem hk n _ x h
      refine ⟨v, e, by omega, by rw [Nat.add_mul]; omega, ?_⟩
      rcases hz with ⟨hz, _⟩ | ⟨hz, _⟩ | ⟨hz, _⟩ | ⟨hz, _⟩ <;> rw [hz] at h3 h1 ⊢ <;> omega
theorem roomsOf_count {k : Nat} (hk : k < 4) : ∀ n u (v : Nat), (roomsOf k n u).count (v : Int) = if u ≤ v ∧ v < u + n * usz k ∧ (v - u) % usz k = 0 then 1 else 0
  | 0, u, v => by rw [roomsOf, List.count_nil, if_neg (by omega)]
  | n + 1, u, v => by
    have hz := usz_vals hk
    rw [roomsOf, List.count_cons, roomsOf_count hk n _ v]
    by_cases e : v = u
    · subst e
      rw [beq_iff_eq.2 rfl, if_pos rfl, if_neg (by omega), if_pos]
      refine ⟨Nat.le_refl _, ?_, by rw [Nat.sub_self, Nat.zero_mod]⟩
      rw [Nat.add_mul]; omega
    · rw [beq_eq_false_iff_ne.2 (by omega), if_neg (c := false = true) (by decide), Nat.add_zero, Nat.add_mul]
      by_cases c : u + usz k ≤ v ∧ v < u + usz k + n * usz k ∧ (v - (u + usz k)) % usz k = 0
      · rw [if_pos c, if_pos]
        obtain ⟨c1, c2, c3⟩ := c
        refine ⟨by omega, by omega, ?_⟩
        rcases hz with ⟨hz, _⟩ | ⟨hz, _⟩ | ⟨hz, _⟩ | ⟨hz, _⟩ <;> rw [hz] at c1 c3 ⊢ <;> omega
      · rw [if_neg c, if_neg]
        intro ⟨c1, c2, c3⟩
        refine c ?_
        rcases hz with ⟨hz, _⟩ | ⟨hz, _⟩ | ⟨hz, _⟩ | ⟨hz, _⟩ <;> rw [hz] at c2 c3 ⊢ <;> exact ⟨by omega, by omega, by omega⟩
theorem usz_div {k : Nat} (hk : k < 4) : 8 / usz k * usz k = 8 := by
  rcases usz_vals hk with ⟨hz, _⟩ | ⟨hz, _⟩ | ⟨hz, _⟩ | ⟨hz, _⟩ <;> rw [hz]
/-- A page is split and its first room taken. -/
theorem carve_ok {b : Bk} (h : BookP b) {k p : Nat} (hk : k < 4) (hp : p < np b) (h0 : pg b p = 0) (hnil : hd b k = []) {s : Int} (hs0 : 0 ≤ s) (hs1 : s < b.1) (hin : inn b s.toNat ≠ 0) : BookP (popP (carveP b p k) s k).1 := by
  have hp' : p < b.2.1.length := hp
  have hdim := h.dims
  have hpgc : ∀ q, pg (carveP b p k) q = if q = p then (k : Int) + 1 else pg b q := fun q => getD_set _ _ _ _ hp'
  have hk1 : hd (carveP b p k) k = roomsOf k (8 / usz k) (8 * p) := by
    have : hd (carveP b p k) k = hd b k ++ roomsOf k (8 / usz k) (8 * p) := hd_hset _ _ _ _ hk _
    rw [this, hnil]; rfl
  have hk2 : ∀ j, j < 4 → j ≠ k → hd (carveP b p k) j = hd b j := fun j hj hne => hd_other _ _ _ _ hk hj hne _
  have hnp : np (carveP b p k) = np b := by show (b.2.1.set p ((k : Int) + 1)).length = _; rw [List.length_set]; rfl
  have hd8 := usz_div hk
  obtain ⟨r, hr⟩ := runOf_rooms hk p
  have hfree : FreeP b p 0 := (h.page hp).1 h0
  refine pop_ok (c := carveP b p k) (p0 := p) (x := ((8 * p : Nat) : Int)) (r := r) ?_ (fun i hi => h.slot hi) (fun u hu => h.own hu) (fun j hj x hx => ?_) hk (by rw [hpgc, if_pos rfl]) (fun u hu => ?_) (fun q hq hne => ?_) (by rw [hk1, hr]) (by omega) hs0 hs1 hin
  · have := h.sizes
    unfold Sizes at this ⊢
    rw [hnp]
    exact this
  · refine memB_iff.2 ?_
    have e : nu (carveP b p k) = nu b := rfl
    rw [e]
    by_cases c : j = k
    · subst c
      rw [hk1] at hx
      obtain ⟨v, e, h1, h2, h3⟩ := roomsOf_mem hk _ _ x hx
      rw [hd8] at h2
      refine ⟨by omega, by omega, ?_, ?_⟩
      · rw [hpgc, if_pos (by omega)]
      · rw [e]
        have := usz_dvd hk p (v - 8 * p)
        rw [show 8 * p + (v - 8 * p) = v by omega] at this
        omega
    · rw [hk2 j hj c] at hx
      have := memB_iff.1 (h.list hj hx)
      refine ⟨this.1, this.2.1, ?_, this.2.2.2⟩
      rw [hpgc, if_neg, this.2.2.1]
      intro e
      have := this.2.2.1
      rw [e] at this
      omega
  · unfold RoomP
    have ho : ow (carveP b p k) (8 * p + u) = 0 := hfree u (by omega) hu
    rw [hk1, roomsOf_count hk, hd8, ho, show 8 * p + u - 8 * p = u by omega]
    by_cases c : u % usz k = 0
    · rw [if_pos ⟨by omega, by omega, c⟩]; exact ⟨fun g => (g c).elim, fun _ => .inr ⟨rfl, rfl⟩⟩
    · rw [if_neg (fun g => c g.2.2)]; exact ⟨fun _ => ⟨rfl, rfl⟩, fun g => (c g).elim⟩
  · rw [hnp] at hq
    refine (h.pageW hq).same hnp (by rw [hpgc, if_neg hne]) (fun u hu => ieq rfl) (fun j hj hj2 u hu => ?_) (fun _ q' _ h10 _ => ?_) (fun h10 i h1 h2 => ?_)
    · by_cases c : j = k
      · subst c; rw [hk1, hnil, roomsOf_count hk, hd8, if_neg (by omega), List.count_nil]
      · rw [hk2 j hj c]
    · rw [hpgc, if_neg]; intro e; rw [e] at h10; omega
    · have := (h.wide hq h10).2.2.2.2.2 i h1 h2
      rw [hpgc, if_neg]; intro e; rw [e] at this; omega
theorem runOf_in {b : Bk} {n : Nat} (hn : 1 ≤ n) (h : ¬ runOf b.2.1 n < 0) : ∃ p : Nat, runOf b.2.1 n = p ∧ p + n ≤ np b ∧ ∀ i, i < n → pg b (p + i) = 0 := by
  unfold runOf at h ⊢
  rcases runFrom_spec b.2.1 n (b.2.1.length + 1 - n) 0 with e | ⟨q, e, h1, h2, h3⟩
  · rw [e] at h; omega
  · refine ⟨q, e, by unfold np; omega, fun i hi => ?_⟩
    have := (allB_iff _ _ _).1 h3 i (by omega) (by omega)
    exact of_decide_eq_true this
/-- A row of pages is taken. -/
theorem pages_ok {b : Bk} (h : BookP b) {n : Nat} (hn : 2 ≤ n) (hn4 : n ≤ 4) {s : Int} (hs0 : 0 ≤ s) (hs1 : s < b.1) (hin : inn b s.toNat ≠ 0) : BookP (pagesP b s n).1 := by
  unfold pagesP
  by_cases c : runOf b.2.1 n < 0
  · rw [if_pos c]; exact h
  rw [if_neg c]
  obtain ⟨p, e, hp, hz⟩ := runOf_in (by omega) c
  rw [e]
  dsimp only
  rw [Int.toNat_natCast]
  have hdim := h.dims
  have hl : b.2.1.length = np b := rfl
  have hlu : b.2.2.2.1.length = nu b := rfl
  generalize hb' : wOw (wPg b (setRow (b.2.1.set p (8 + (n : Int))) 7 (n - 1) (p + 1))) (8 * p) (s + 1) = b'
  have hpg : ∀ q, pg b' q = if q = p then 8 + (n : Int) else if p < q ∧ q < p + n then 7 else pg b q := fun q => by
    rw [← hb']
    show (setRow (b.2.1.set p (8 + (n : Int))) 7 (n - 1) (p + 1)).getD q 0 = _
    rw [setRow_getD _ _ _ _ _ (by rw [List.length_set]; omega), getD_set _ _ _ _ (by omega)]
    by_cases c1 : q = p
    · rw [if_pos c1, if_pos c1, if_neg (by omega)]
    · rw [if_neg c1, if_neg c1]
      by_cases c2 : p < q ∧ q < p + n
      · rw [if_pos c2, if_pos (by omega)]
      · rw [if_neg c2, if_neg (by omega)]; rfl
  have ho : ∀ v, ow b' v = if v = 8 * p then s + 1 else ow b v := fun v => by
    rw [← hb']; exact getD_set b.2.2.2.1 _ _ _ (by omega)
  have hnp : np b' = np b := by
    rw [← hb']
    show (setRow (b.2.1.set p (8 + (n : Int))) 7 (n - 1) (p + 1)).length = _
    rw [setRow_len, List.length_set]; rfl
  have hnu : nu b' = nu b := by rw [← hb']; show (b.2.2.2.1.set (8 * p) (s + 1)).length = _; rw [List.length_set]; rfl
  have hhd : ∀ k, hd b' k = hd b k := fun k => by rw [← hb']; exact hd_heads _ _ rfl k
  have hzero : ∀ q, p ≤ q → q < p + n → pg b q = 0 := fun q h1 h2 => by have := hz (q - p) (by omega); rwa [show p + (q - p) = q by omega] at this
  have hout : ∀ q, pg b q ≠ 0 → pg b' q = pg b q := fun q hq => by
    rw [hpg]
    by_cases c1 : p ≤ q ∧ q < p + n
    · exact (hq (hzero q c1.1 c1.2)).elim
    · rw [if_neg (by omega), if_neg (by omega)]
  refine book_change h.sizes (fun i hi => h.slot hi) (fun u hu => h.own hu) (by rw [← hb']; rfl) (by rw [← hb']; rfl) hnp hnu (fun v hv => ?_) (fun j hj x hx => ?_) (fun q hq => ?_)
  · rw [ho]
    by_cases e : v = 8 * p
    · rw [if_pos e]
      refine .inr (.inr ⟨by omega, by omega, ?_⟩)
      rw [show s + 1 - 1 = s by omega]; exact hin
    · rw [if_neg e]; exact .inl rfl
  · rw [hhd] at hx
    have := memB_iff.1 (h.list hj hx)
    refine memB_iff.2 ?_
    rw [hnu]
    refine ⟨this.1, this.2.1, ?_, this.2.2.2⟩
    rw [hout _ (by omega)]; exact this.2.2.1
  · by_cases c1 : q = p
    · subst c1
      have hf : FreeP b q 0 := (h.page (p := q) (by omega)).1 (hzero q (by omega) (by omega))
      refine .inr (.inr (.inr ?_))
      have e1 : pg b' q = 8 + (n : Int) := by rw [hpg, if_pos rfl]
      unfold WideP
      rw [e1, hnp]
      refine ⟨by omega, by omega, by omega, by rw [ho, if_pos rfl]; omega, fun u h1 h2 => ?_, fun i h1 h2 => ?_⟩
      · rw [ho, if_neg (by omega)]; exact hf u (by omega) h2
      · rw [hpg, if_neg (by omega), if_pos (by omega)]
    · by_cases c2 : p < q ∧ q < p + n
      · have hf : FreeP b q 0 := (h.page (p := q) (by omega)).1 (hzero q (by omega) (by omega))
        refine .inr (.inr (.inl ⟨by rw [hpg, if_neg c1, if_pos c2], fun u h1 h2 => ?_, p, by omega, by rw [hpg, if_pos rfl]; omega, by rw [hpg, if_pos rfl]; omega⟩))
        rw [ho, if_neg (by omega)]; exact hf u h1 h2
      · refine (h.pageW hq).same hnp (by rw [hpg, if_neg c1, if_neg c2]) (fun u hu => ieq ?_) (fun j hj hj2 u hu => by rw [hhd]) (fun _ q' _ h10 _ => hout _ (by omega)) (fun h10 i h1 h2 => hout _ ?_)
        · rw [ho, if_neg (by omega)]
        · have := (h.wide hq h10).2.2.2.2.2 i h1 h2; omega
theorem take_ok {b : Bk} (h : BookP b) {s : Int} (hs0 : 0 ≤ s) (hs1 : s < b.1) (hin : inn b s.toNat ≠ 0) (u : Int) : BookP (takeP b s u).1 := by
  unfold takeP
  rcases kindOf_cases u with hk | ⟨hk, hu1, hu2⟩ | ⟨k, hk4, hk⟩
  · rw [hk, if_pos (by omega)]; exact h
  · rw [hk, if_neg (by omega), if_pos rfl]; exact pages_ok h (by omega) (by omega) hs0 hs1 hin
  · rw [hk, if_neg (by omega), if_neg (by omega)]
    dsimp only
    rw [Int.toNat_natCast]
    by_cases c : (hd b k).length = 0
    · rw [if_pos c]
      by_cases c2 : runOf b.2.1 1 < 0
      · rw [if_pos c2]; exact h
      · rw [if_neg c2]
        obtain ⟨p, e, hp, hz⟩ := runOf_in (by omega) c2
        rw [e, Int.toNat_natCast]
        exact carve_ok h hk4 (by omega) (by have := hz 0 (by omega); rwa [Nat.add_zero] at this) (List.eq_nil_of_length_eq_zero c) hs0 hs1 hin
    · rw [if_neg c]
      cases hl : hd b k with
      | nil => rw [hl] at c; exact (c rfl).elim
      | cons x r =>
        have hm := memB_iff.1 (h.list hk4 (x := x) (by rw [hl]; exact List.mem_cons_self))
        have hdim := h.dims
        refine pop_ok h.sizes (fun i hi => h.slot hi) (fun u hu => h.own hu) (fun j hj y hy => h.list hj hy) hk4 (p0 := (x / 8).toNat) hm.2.2.1 ?_ (fun p hp _ => h.pageW hp) hl rfl hs0 hs1 hin
        have := ((h.page (p := (x / 8).toNat) (by omega)).2.1 (by omega)).1
        rwa [hm.2.2.1, show ((k : Int) + 1 - 1).toNat = k by omega] at this
theorem free_ok {b : Bk} (h : BookP b) {u : Nat} (hu : u < nu b) (hou : ow b u ≠ 0) : BookP (freeP b u) := by
  have hdim := h.dims
  have hl : b.2.1.length = np b := rfl
  have hlu : b.2.2.2.1.length = nu b := rfl
  obtain ⟨p, e8, hp, hc⟩ := h.owned hu hou
  unfold freeP
  rw [e8]
  dsimp only
  rcases hc with ⟨c1, c2, c3⟩ | ⟨c1, c2, c3⟩
  · rw [if_pos ⟨c1, c2⟩]
    obtain ⟨k, hkk⟩ : ∃ k : Nat, pg b p = (k : Int) + 1 := ⟨(pg b p - 1).toNat, by omega⟩
    have hk : k < 4 := by omega
    rw [show (pg b p - 1).toNat = k by omega] at c3 ⊢
    have hrooms := (h.page hp).2.1 ⟨c1, c2⟩
    rw [show (pg b p - 1).toNat = k by omega] at hrooms
    have hru := hrooms.1 (u % 8) (by omega)
    unfold RoomP at hru
    rw [show 8 * p + u % 8 = u by omega] at hru
    have hmod : u % 8 % usz k = 0 := by
      have := usz_dvd hk p (u % 8)
      rw [show 8 * p + u % 8 = u by omega] at this
      omega
    have hcu : (hd b k).count ((u : Nat) : Int) = 0 := by
      rcases hru.2 hmod with g | g
      · exact g.2
      · exact (hou g.1).elim
    by_cases cf : FreeP (wHd (wOw b u 0) k ((u : Int) :: hd b k)) p 0
    · -- the page becomes empty
      rw [tf_t cf, cond_true]
      generalize hb' : wHd (wPg (wHd (wOw b u 0) k ((u : Int) :: hd b k)) (b.2.1.set p 0)) k (((u : Int) :: hd b k).filter fun x => x / 8 != (p : Int)) = b'
      have hpg : ∀ q, pg b' q = if q = p then 0 else pg b q := fun q => by rw [← hb']; exact getD_set b.2.1 _ _ _ (by omega)
      have ho : ∀ v, ow b' v = if v = u then 0 else ow b v := fun v => by rw [← hb']; exact getD_set b.2.2.2.1 _ _ _ (by omega)
      have hnp : np b' = np b := by rw [← hb']; show (b.2.1.set p 0).length = _; rw [List.length_set]; rfl
      have hnu : nu b' = nu b := by rw [← hb']; show (b.2.2.2.1.set u 0).length = _; rw [List.length_set]; rfl
      have hk1 : hd b' k = ((u : Int) :: hd b k).filter fun x => x / 8 != (p : Int) := by rw [← hb']; exact hd_hset _ _ _ _ hk _
      have hk2 : ∀ j, j < 4 → j ≠ k → hd b' j = hd b j := fun j hj hne => by
        rw [← hb']
        have e1 := hd_other b.1 (b.2.1.set p 0) (hset b.2.2.1 k ((u : Int) :: hd b k)) (b.2.2.2.1.set u 0, b.2.2.2.2) hk hj hne (((u : Int) :: hd b k).filter fun x => x / 8 != (p : Int))
        have e2 := hd_other b.1 (b.2.1.set p 0) b.2.2.1 (b.2.2.2.1.set u 0, b.2.2.2.2) hk hj hne ((u : Int) :: hd b k)
        exact e1.trans (e2.trans (hd_heads _ _ rfl j))
      refine book_change h.sizes (fun i hi => h.slot hi) (fun u hu => h.own hu) (by rw [← hb']; rfl) (by rw [← hb']; rfl) hnp hnu (fun v hv => ?_) (fun j hj x hx => ?_) (fun q hq => ?_)
      · rw [ho]
        by_cases e : v = u
        · rw [if_pos e]; exact .inr (.inl rfl)
        · rw [if_neg e]; exact .inl rfl
      · refine memB_iff.2 ?_
        rw [hnu, hpg]
        by_cases c : j = k
        · subst c
          rw [hk1, List.mem_filter] at hx
          have hne : x / 8 ≠ (p : Int) := by have := hx.2; rwa [bne_iff_ne] at this
          have hx1 : x ∈ hd b j := by
            rcases List.mem_cons.1 hx.1 with g | g
            · rw [g] at hne; exact (hne (by omega)).elim
            · exact g
          have := memB_iff.1 (h.list hj hx1)
          rw [if_neg (by omega)]
          exact this
        · rw [hk2 j hj c] at hx
          have := memB_iff.1 (h.list hj hx)
          rw [if_neg]
          · exact this
          · intro e
            have g := this.2.2.1
            rw [e, hkk] at g
            omega
      · by_cases c : q = p
        · subst c
          refine .inl ⟨by rw [hpg, if_pos rfl], fun v h1 h2 => ?_⟩
          have := cf v h1 h2
          rw [← hb']
          exact this
        · refine (h.pageW hq).same hnp (by rw [hpg, if_neg c]) (fun v hv => ieq ?_) (fun j hj hj2 v hv => ?_) (fun _ q' _ h10 _ => ?_) (fun h10 i h1 h2 => ?_)
          · rw [ho, if_neg (by omega)]
          · by_cases e : j = k
            · subst e
              rw [hk1, List.count_filter (by rw [bne_iff_ne]; omega), List.count_cons, beq_eq_false_iff_ne.2 (by omega), if_neg (by decide)]; rfl
            · rw [hk2 j hj e]
          · rw [hpg, if_neg]; intro e; rw [e] at h10; omega
          · have := (h.wide hq h10).2.2.2.2.2 i h1 h2
            rw [hpg, if_neg]; intro e; rw [e] at this; omega
    · rw [tf_f cf, cond_false]
      generalize hb' : wHd (wOw b u 0) k ((u : Int) :: hd b k) = b' at cf ⊢
      have hpg : ∀ q, pg b' q = pg b q := fun q => by rw [← hb']; rfl
      have ho : ∀ v, ow b' v = if v = u then 0 else ow b v := fun v => by rw [← hb']; exact getD_set b.2.2.2.1 _ _ _ (by omega)
      have hnp : np b' = np b := by rw [← hb']; rfl
      have hnu : nu b' = nu b := by rw [← hb']; show (b.2.2.2.1.set u 0).length = _; rw [List.length_set]; rfl
      have hk1 : hd b' k = (u : Int) :: hd b k := by rw [← hb']; exact hd_hset _ _ _ _ hk _
      have hk2 : ∀ j, j < 4 → j ≠ k → hd b' j = hd b j := fun j hj hne => by rw [← hb']; exact hd_other _ _ _ _ hk hj hne _
      refine book_change h.sizes (fun i hi => h.slot hi) (fun u hu => h.own hu) (by rw [← hb']; rfl) (by rw [← hb']; rfl) hnp hnu (fun v hv => ?_) (fun j hj x hx => ?_) (fun q hq => ?_)
      · rw [ho]
        by_cases e : v = u
        · rw [if_pos e]; exact .inr (.inl rfl)
        · rw [if_neg e]; exact .inl rfl
      · refine memB_iff.2 ?_
        rw [hnu, hpg]
        by_cases c : j = k
        · subst c
          rw [hk1] at hx
          rcases List.mem_cons.1 hx with g | g
          · rw [g, show ((u : Int) / 8).toNat = p by omega]
            exact ⟨by omega, by omega, hkk, by omega⟩
          · exact memB_iff.1 (h.list hj g)
        · rw [hk2 j hj c] at hx
          exact memB_iff.1 (h.list hj hx)
      · by_cases c : q = p
        · subst c
          refine .inr (.inl ⟨by rw [hpg]; exact c1, by rw [hpg]; exact c2, ?_⟩)
          rw [hpg, show (pg b q - 1).toNat = k by omega]
          refine ⟨fun v hv => ?_, ?_⟩
          · have hrv := hrooms.1 v hv
            unfold RoomP at hrv ⊢
            rw [hk1, ho, List.count_cons]
            by_cases e : 8 * q + v = u
            · rw [if_pos e, e, hcu, beq_iff_eq.2 rfl, if_pos rfl]
              have e2 : v = u % 8 := by omega
              rw [e2]
              exact ⟨fun g => (g hmod).elim, fun _ => .inr ⟨rfl, rfl⟩⟩
            · rw [if_neg e, beq_eq_false_iff_ne.2 (by omega), if_neg (c := false = true) (by decide)]
              exact hrv
          · apply Classical.byContradiction
            intro g
            apply cf
            intro v h1 h2
            apply Classical.byContradiction
            intro g2
            refine g ⟨v, h2, ?_⟩
            have h3 := h.ow_nn (u := 8 * q + v) (by omega)
            rw [ho] at g2 ⊢
            by_cases e : 8 * q + v = u
            · rw [if_pos e] at g2; exact (g2 rfl).elim
            · rw [if_neg e] at g2 ⊢; omega
        · refine (h.pageW hq).same hnp (by rw [hpg]) (fun v hv => ieq ?_) (fun j hj hj2 v hv => ?_) (fun _ q' _ h10 _ => hpg _) (fun h10 i h1 h2 => hpg _)
          · rw [ho, if_neg (by omega)]
          · by_cases e : j = k
            · subst e
              rw [hk1, List.count_cons, beq_eq_false_iff_ne.2 (by omega), if_neg (by decide)]; rfl
            · rw [hk2 j hj e]
  · rw [if_neg (by omega)]
    obtain ⟨n, hn⟩ : ∃ n : Nat, pg b p = 8 + (n : Int) := ⟨(pg b p - 8).toNat, by omega⟩
    rw [show (pg b p - 8).toNat = n by omega]
    have hw := h.wide hp c1
    have hw3 := hw.2.2.1
    have hrest : ∀ q, p < q → q < p + n → pg b q = 7 := fun q h1 h2 => by
      have := hw.2.2.2.2.2 (q - p) (by omega) (by omega)
      rwa [show p + (q - p) = q by omega] at this
    generalize hb' : wPg (wOw b u 0) (setRow b.2.1 0 n p) = b'
    have hpg : ∀ q, pg b' q = if p ≤ q ∧ q < p + n then 0 else pg b q := fun q => by rw [← hb']; exact setRow_getD _ _ _ b.2.1 _ (by omega)
    have ho : ∀ v, ow b' v = if v = u then 0 else ow b v := fun v => by rw [← hb']; exact getD_set b.2.2.2.1 _ _ _ (by omega)
    have hnp : np b' = np b := by rw [← hb']; show (setRow b.2.1 0 n p).length = _; rw [setRow_len]; rfl
    have hnu : nu b' = nu b := by rw [← hb']; show (b.2.2.2.1.set u 0).length = _; rw [List.length_set]; rfl
    have hhd : ∀ k, hd b' k = hd b k := fun k => by rw [← hb']; exact hd_heads _ _ rfl k
    refine book_change h.sizes (fun i hi => h.slot hi) (fun u hu => h.own hu) (by rw [← hb']; rfl) (by rw [← hb']; rfl) hnp hnu (fun v hv => ?_) (fun j hj x hx => ?_) (fun q hq => ?_)
    · rw [ho]
      by_cases e : v = u
      · rw [if_pos e]; exact .inr (.inl rfl)
      · rw [if_neg e]; exact .inl rfl
    · rw [hhd] at hx
      have := memB_iff.1 (h.list hj hx)
      refine memB_iff.2 ?_
      rw [hnu, hpg, if_neg]
      · exact this
      · intro ⟨g1, g2⟩
        have g := this.2.2.1
        by_cases e : (x / 8).toNat = p
        · rw [e] at g; omega
        · rw [hrest _ (by omega) g2] at g; omega
    · by_cases c : p ≤ q ∧ q < p + n
      · refine .inl ⟨by rw [hpg, if_pos c], fun v h1 h2 => ?_⟩
        rw [ho]
        by_cases e : 8 * q + v = u
        · rw [if_pos e]
        · rw [if_neg e]
          by_cases e2 : q = p
          · rw [e2]; exact hw.2.2.2.2.1 v (by omega) h2
          · exact ((h.page hq).2.2.1 (hrest q (by omega) c.2)).2.2 v h1 h2
      · refine (h.pageW hq).same hnp (by rw [hpg, if_neg c]) (fun v hv => ieq ?_) (fun j hj hj2 v hv => by rw [hhd]) (fun g7 q' h1 h10 h2 => ?_) (fun h10 i h1 h2 => ?_)
        · rw [ho, if_neg (by omega)]
        · rw [hpg, if_neg]
          intro ⟨g1, g2⟩
          by_cases e : q' = p
          · subst e; omega
          · have := hrest q' (by omega) g2; omega
        · have := (h.wide hq h10).2.2.2.2.2 i h1 h2
          rw [hpg, if_neg]
          intro ⟨g1, g2⟩
          by_cases e : q + i = p
          · rw [e] at this; omega
          · by_cases e2 : q < p
            · have := (h.wide hq h10).2.2.2.2.2 (p - q) (by omega) (by omega)
              rw [show q + (p - q) = p by omega] at this
              omega
            · have := hrest q (by omega) (by omega); omega
theorem hand_ok {b : Bk} (h : BookP b) {u : Nat} (hu : u < nu b) (hou : ow b u ≠ 0) {s : Int} (hs0 : 0 ≤ s) (hs1 : s < b.1) (hin : inn b s.toNat ≠ 0) : BookP (wOw b u (s + 1)) := by
  have hlu : b.2.2.2.1.length = nu b := rfl
  have ho : ∀ v, ow (wOw b u (s + 1)) v = if v = u then s + 1 else ow b v := fun v => getD_set _ _ _ _ (by omega)
  have hnu : nu (wOw b u (s + 1)) = nu b := by show (b.2.2.2.1.set u (s + 1)).length = _; rw [List.length_set]; rfl
  have hpos := h.ow_nn hu
  refine book_change h.sizes (fun i hi => h.slot hi) (fun u hu => h.own hu) rfl rfl rfl hnu (fun v hv => ?_) (fun j hj x hx => ?_) (fun q hq => ?_)
  · rw [ho]
    by_cases e : v = u
    · rw [if_pos e]
      refine .inr (.inr ⟨by omega, by omega, ?_⟩)
      rw [show s + 1 - 1 = s by omega]; exact hin
    · rw [if_neg e]; exact .inl rfl
  · have := memB_iff.1 (h.list hj hx)
    refine memB_iff.2 ?_
    rw [hnu]
    exact this
  · refine (h.pageW hq).same rfl rfl (fun v hv => ?_) (fun j hj hj2 v hv => rfl) (fun _ _ _ _ _ => rfl) (fun _ _ _ _ => rfl)
    rw [ho]
    by_cases e : 8 * q + v = u
    · rw [if_pos e, e]; omega
    · rw [if_neg e]; exact ⟨Iff.rfl, Iff.rfl⟩
/-- A change of the slots alone. -/
theorem slots_ok {b b' : Bk} (h : BookP b) (h1 : b'.1 = b.1) (h2 : b'.2.1 = b.2.1) (h3 : b'.2.2.1 = b.2.2.1) (h4 : b'.2.2.2.1 = b.2.2.2.1) (h5 : b'.2.2.2.2.1.length = b.2.2.2.2.1.length) (h6 : b'.2.2.2.2.2.length = b.2.2.2.2.2.length)
    (hsl : ∀ i, i < b.1.toNat → slotB b' i = true) (hob : ∀ u, u < nu b → ow b u ≠ 0 → inn b' (ow b u - 1).toNat ≠ 0) : BookP b' := by
  have hpg : ∀ q, pg b' q = pg b q := fun q => by unfold pg; rw [h2]
  have ho : ∀ v, ow b' v = ow b v := fun v => by unfold ow; rw [h4]
  have hnp : np b' = np b := by unfold np; rw [h2]
  have hnu : nu b' = nu b := by unfold nu; rw [h4]
  have hhd : ∀ k, hd b' k = hd b k := fun k => hd_heads _ _ h3 k
  refine BookP.mk' ?_ (fun i hi => hsl i (by omega)) (fun u hu => ?_) (fun j hj x hx => ?_) (fun q hq => ?_)
  · have := h.sizes
    unfold Sizes at this ⊢
    rw [h1, h5, h6, hnp, hnu]
    exact this
  · rw [hnu] at hu
    have := ownB_iff.1 (h.own hu)
    refine ownB_iff.2 ?_
    rw [ho, h1]
    exact ⟨this.1, this.2.1, fun g => hob u hu (by omega)⟩
  · rw [hhd] at hx
    have := memB_iff.1 (h.list hj hx)
    refine memB_iff.2 ?_
    rw [hnu, hpg]
    exact this
  · exact (h.pageW (by omega)).same hnp (hpg q) (fun v hv => ieq (ho _)) (fun j hj hj2 v hv => by rw [hhd]) (fun _ _ _ _ _ => hpg _) (fun _ _ _ _ => hpg _)
theorem slotB_iff {b : Bk} {i : Nat} : slotB b i = true ↔ 0 ≤ inn b i ∧ inn b i ≤ 2 ∧ 0 ≤ ep b i ∧ ep b i ≤ 4095 ∧ (ep b i = 0 → inn b i = 0) := by
  unfold slotB; exact decide_eq_true_iff
theorem out_ok {b : Bk} (h : BookP b) {s : Nat} (hs : (s : Int) < b.1) (hno : firstOf b s < 0) : BookP (wIn b s 0) := by
  have hdim := h.dims
  have hsl := h.slots
  have hi : ∀ i, inn (wIn b s 0) i = if i = s then 0 else inn b i := fun i => getD_set _ _ _ _ (by omega)
  refine slots_ok h rfl rfl rfl rfl (List.length_set ..) rfl (fun i hi2 => ?_) (fun u hu hne => ?_)
  · have := slotB_iff.1 (h.slot hi2)
    refine slotB_iff.2 ?_
    have e : ep (wIn b s 0) i = ep b i := rfl
    rw [hi, e]
    split
    · exact ⟨by omega, by omega, this.2.2.1, this.2.2.2.1, fun _ => rfl⟩
    · exact this
  · have hob := ownB_iff.1 (h.own hu)
    rw [hi, if_neg]
    · exact hob.2.2 (by omega)
    · intro e
      have e2 : ow b u = (s : Int) + 1 := by omega
      unfold firstOf at hno
      have hmem : ∀ d i, i ≤ u → u < i + d → ∃ x r, blksOf b s d i = x :: r := by
        intro d
        induction d with
        | zero => intro i g1 g2; omega
        | succ d ih =>
          intro i g1 g2
          rw [blksOf]
          by_cases c : ow b i = (s : Int) + 1
          · rw [if_pos c]; exact ⟨_, _, rfl⟩
          · rw [if_neg c]
            refine ih (i + 1) ?_ (by omega)
            by_cases e3 : i = u
            · rw [e3] at c; exact (c e2).elim
            · omega
      obtain ⟨x, r, hl⟩ := hmem (nu b) 0 (by omega) (by omega)
      obtain ⟨v, e3, _⟩ := blks_mem b s (nu b) 0 x (by rw [hl]; exact List.mem_cons_self)
      rw [hl] at hno
      have : x < 0 := hno
      omega
theorem enter_ok {b : Bk} (h : BookP b) {s : Nat} (hs : (s : Int) < b.1) : BookP (enterP b s).1 := by
  have hdim := h.dims
  have hsl := h.slots
  unfold enterP
  by_cases c : inn b s ≠ 0
  · rw [if_pos c]; exact h
  rw [if_neg c]
  by_cases c2 : ep b s = 4095
  · rw [if_pos c2]; exact h
  rw [if_neg c2]
  have hi : ∀ i, inn (wEp (wIn b s 1) s (ep b s + 1)) i = if i = s then 1 else inn b i := fun i => getD_set b.2.2.2.2.1 _ _ _ (by omega)
  have he : ∀ i, ep (wEp (wIn b s 1) s (ep b s + 1)) i = if i = s then ep b s + 1 else ep b i := fun i => getD_set b.2.2.2.2.2 _ _ _ (by omega)
  refine slots_ok h rfl rfl rfl rfl (List.length_set ..) (List.length_set ..) (fun i hi2 => ?_) (fun u hu hne => ?_)
  · have := slotB_iff.1 (h.slot hi2)
    refine slotB_iff.2 ?_
    rw [hi, he]
    by_cases e : i = s
    · rw [if_pos e, if_pos e]
      rw [e] at this
      omega
    · rw [if_neg e, if_neg e]
      exact this
  · have hob := ownB_iff.1 (h.own hu)
    have := h.ow_nn hu
    rw [hi]
    split
    · omega
    · exact hob.2.2 (by omega)
theorem reap_ok {b : Bk} (h : BookP b) (s : Int) : BookP (reapP b s).1 := by
  unfold reapP
  by_cases c : s < 0 ∨ s ≥ b.1 ∨ inn b s.toNat = 0
  · rw [if_pos c]; exact h
  rw [if_neg c]
  by_cases c2 : inn b s.toNat = 1
  · rw [if_pos c2]; exact h
  rw [if_neg c2]
  by_cases c3 : firstOf b s < 0
  · rw [if_pos c3]
    refine out_ok h (by omega) ?_
    rw [Int.toNat_of_nonneg (by omega)]; exact c3
  · rw [if_neg c3]
    rcases firstOf_cases (b := b) s with e | ⟨u, e, h1, h2⟩
    · omega
    · rw [e, Int.toNat_natCast]; exact free_ok h h1 (by omega)
theorem do_ok {b : Bk} (h : BookP b) (op : Op) : BookP (doP b op).1 := by
  unfold doP
  by_cases c : op.2.1 < 0 ∨ op.2.1 ≥ b.1
  · rw [if_pos c]; exact h
  rw [if_neg c]
  by_cases c1 : op.1 = 1
  · rw [if_pos c1]; exact enter_ok h (by omega)
  rw [if_neg c1]
  by_cases c2 : inn b op.2.1.toNat = 0
  · rw [if_pos c2]; exact h
  rw [if_neg c2]
  unfold ownP
  by_cases d2 : op.1 = 2
  · rw [if_pos d2]; exact take_ok h (by omega) (by omega) c2 _
  rw [if_neg d2]
  by_cases d3 : op.1 = 3
  · rw [if_pos d3]
    by_cases w : whoseP b op.2.1 op.2.2.1 > 0
    · rw [if_pos w]; exact h
    · rw [if_neg w]
      obtain ⟨w1, w2, w3, w4⟩ := whose_in w
      exact free_ok h (by omega) w3
  rw [if_neg d3]
  by_cases d4 : op.1 = 4
  · rw [if_pos d4]
    by_cases w : whoseP b op.2.1 op.2.2.1 > 0
    · rw [if_pos w]; exact h
    · rw [if_neg w]
      obtain ⟨w1, w2, w3, w4⟩ := whose_in w
      by_cases g : op.2.2.2 < 0 ∨ op.2.2.2 ≥ b.1 ∨ inn b op.2.2.2.toNat = 0
      · rw [if_pos g]; exact h
      · rw [if_neg g]
        exact hand_ok h (by omega) w3 (by omega) (by omega) (fun e => g (.inr (.inr e)))
  rw [if_neg d4]
  by_cases d5 : op.1 = 5
  · rw [if_pos d5]
    by_cases g : firstOf b op.2.1 ≥ 0
    · rw [if_pos g]; exact h
    · rw [if_neg g]
      refine out_ok h (by omega) ?_
      rw [Int.toNat_of_nonneg (by omega)]; omega
  rw [if_neg d5]
  by_cases d6 : op.1 = 6
  · rw [if_pos d6]; exact reap_ok h _
  · rw [if_neg d6]; exact h
/-- A valid book's rows are short and its numbers are Go's. -/
theorem BookP.short {b : Bk} (h : BookP b) : Bshort b := by
  have hdim := h.dims
  have hsl := h.slots
  have e1 : np b = b.2.1.length := rfl
  have e2 : nu b = b.2.2.2.1.length := rfl
  have key : ∀ j, j < 4 → (hd b j).length ≤ 4194304 := fun j hj => by have := h.hd_len hj; omega
  refine ⟨?_, fun j => ?_, ?_, ?_, ?_⟩
  · show b.2.1.length ≤ 4194304; omega
  · by_cases c : j < 4
    · exact key j c
    · obtain ⟨q, rfl⟩ : ∃ q, j = q + 3 := ⟨j - 3, by omega⟩
      exact key 3 (by omega)
  · show b.2.2.2.1.length ≤ 4194304; omega
  · show b.2.2.2.2.1.length ≤ 4194304; omega
  · show b.2.2.2.2.2.length ≤ 4194304; omega
theorem ints_of {l : List Int} (h : ∀ i, i < l.length → -100000 ≤ l.getD i 0 ∧ l.getD i 0 ≤ 100000) : Ints l := by
  intro x hx
  obtain ⟨j, hj, e⟩ := mem_getD hx
  have := h j hj
  rw [e] at this
  exact ⟨by omega, by omega⟩
theorem BookP.ints {b : Bk} (h : BookP b) : Bi b := by
  have hdim := h.dims
  have hsl := h.slots
  have key : ∀ j, j < 4 → Ints (hd b j) := fun j hj x hx => by have := h.mem hj hx; exact ⟨by omega, by omega⟩
  refine ⟨⟨by omega, by omega⟩, ints_of fun i hi => ?_, fun j => ?_, ints_of fun i hi => ?_, ints_of fun i hi => ?_, ints_of fun i hi => ?_⟩
  · have := h.cases (p := i) hi
    rw [fold_pg]; omega
  · by_cases c : j < 4
    · exact key j c
    · obtain ⟨q, rfl⟩ : ∃ q, j = q + 3 := ⟨j - 3, by omega⟩
      exact key 3 (by omega)
  · have := ownB_iff.1 (h.own (u := i) hi)
    rw [fold_ow]; omega
  · have := slotB_iff.1 (h.slot (i := i) (by omega))
    rw [fold_in]; omega
  · have := slotB_iff.1 (h.slot (i := i) (by omega))
    rw [fold_ep]; omega
def bk0 : Bk := (0, [], ([], [], [], []), [], [], [])
noncomputable def cutP (b : Bk) (s : Int) : Bk := if 0 ≤ s ∧ s < b.1 ∧ inn b s.toNat = 1 then wIn b s.toNat 2 else b
noncomputable def bookCut (b : Bk) (s : Int) : Bk := @ite _ (BookP b) (Classical.propDecidable _) (cutP b s) bk0
theorem spec_BookCut_eq (N : Nat) (hN : Fuel N) (b : Bk) (hi : Bi b) (hb : Bshort b) (s : Int) : spec_BookCut N b s = outB (bookCut b s) := by
  unfold spec_BookCut bookCut
  rw [spec_BookOk_eq N hN b hi hb]
  simp only [Option.bind_some]
  by_cases h : BookP b
  rotate_left
  · rw [bookOk, tf_f h, if_neg h]; rfl
  have hsl := h.slots
  rw [bookOk, tf_t h, Bool.not_true, cond_false, if_pos h, l3Copy_eq N hN b hb]
  simp only [Option.bind_some, cndb]
  unfold cutP
  by_cases c1 : s ≥ 0
  rotate_left
  · rw [cf c1, if_neg (by omega)]
  rw [ct c1]
  by_cases c2 : s < b.1
  rotate_left
  · rw [cf c2, if_neg (by omega)]
  rw [ct c2, bnd (by omega) (by omega), fold_in, bnd (by omega) (by omega)]
  by_cases c3 : inn b s.toNat = 1
  · rw [if_pos c3, if_pos ⟨c1, c2, c3⟩]; rfl
  · rw [if_neg c3, if_neg (fun g => c3 g.2.2)]
theorem cut_ok {b : Bk} (h : BookP b) (s : Int) : BookP (cutP b s) := by
  unfold cutP
  by_cases c : 0 ≤ s ∧ s < b.1 ∧ inn b s.toNat = 1
  rotate_left
  · rw [if_neg c]; exact h
  rw [if_pos c]
  have hsl := h.slots
  have hi : ∀ i, inn (wIn b s.toNat 2) i = if i = s.toNat then 2 else inn b i := fun i => getD_set _ _ _ _ (by omega)
  refine slots_ok h rfl rfl rfl rfl (List.length_set ..) rfl (fun i hi2 => ?_) (fun u hu hne => ?_)
  · have := slotB_iff.1 (h.slot hi2)
    refine slotB_iff.2 ?_
    have e : ep (wIn b s.toNat 2) i = ep b i := rfl
    rw [hi, e]
    split
    · rename_i e2
      rw [e2] at this ⊢
      refine ⟨by omega, by omega, this.2.2.1, this.2.2.2.1, fun g => ?_⟩
      have := this.2.2.2.2 g
      omega
    · exact this
  · have hob := ownB_iff.1 (h.own hu)
    have := h.ow_nn hu
    rw [hi]
    split
    · omega
    · exact hob.2.2 (by omega)
/-- A book with other slots. -/
def wIE (b : Bk) (is es : List Int) : Bk := (b.1, b.2.1, b.2.2.1, b.2.2.2.1, is, es)
theorem hd_wIE (b : Bk) (is es : List Int) (k : Nat) : hd (wIE b is es) k = hd b k := hd_heads _ _ rfl k
theorem popP_wIE (b : Bk) (s : Int) (k : Nat) (is es : List Int) : popP (wIE b is es) s k = (wIE (popP b s k).1 is es, (popP b s k).2) := by
  unfold popP
  rw [hd_wIE]
  rfl
end Go.Proofs.YtdkinmgpclbedaaDoor.Pv
