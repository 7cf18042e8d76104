/- The plain law of FnExactTidyMap: what the functions compute, over numbers and lists. -/
import Derived.Test.YtdkinmgpclbedaaDoorTmF
import Derived.Test.YtdkinmgpclbedaaDoorPvRow
namespace Go.Proofs.YtdkinmgpclbedaaDoor.Pv
open Go Go.Pv Go.Proofs
set_option linter.unusedVariables false
set_option linter.unusedSimpArgs false
theorem w64 {n : Int} (h : -9223372036854775808 ≤ n) (h2 : n ≤ 9223372036854775807) : IntKind.i64.wrap n = n := by rw [IntKind.wrap_i64]; omega
theorem tm {a b : Int} (h : 0 ≤ a) : Int.tmod a b = a % b := Int.tmod_eq_emod_of_nonneg h
theorem td {a b : Int} (h : 0 ≤ a) : Int.tdiv a b = a / b := Int.tdiv_eq_ediv_of_nonneg h
theorem dt {p : Prop} [Decidable p] (h : p) : decide p = true := decide_eq_true h
theorem df {p : Prop} [Decidable p] (h : ¬ p) : decide p = false := decide_eq_false h
theorem ct {α : Type _} {p : Prop} [Decidable p] {a b : α} (h : p) : cond (decide p) a b = a := by rw [decide_eq_true h]; rfl
theorem cf {α : Type _} {p : Prop} [Decidable p] {a b : α} (h : ¬ p) : cond (decide p) a b = b := by rw [decide_eq_false h]; rfl
theorem cnd {α : Type _} {p : Prop} [Decidable p] {a b : α} : cond (decide p) a b = if p then a else b := by by_cases h : p <;> simp [h]
/-- The test that a place lies in a row. -/
theorem bnd {α : Type _} {i : Int} {n : Nat} {a b : α} (h : 0 ≤ i) (h2 : i < (n : Int)) : cond (cond (decide (0 ≤ i)) (decide (i < (n : Int))) false) a b = a := by rw [dt h, dt h2]; rfl
theorem getD_lt {α : Type _} {l : List α} {i : Nat} {d : α} (h : i < l.length) : l.getD i d = l[i] := by simp [h]
theorem drop_at {α : Type _} {l : List α} {i : Nat} (d : α) (h : i < l.length) : l.drop i = l.getD i d :: l.drop (i + 1) := by
  rw [List.drop_eq_getElem_cons h, getD_lt h]
theorem fuel {n k : Nat} (h : n < k) : ∃ j, k = j + 1 := ⟨k - 1, by omega⟩
/-- A loop over the places below a length, with a state. -/
theorem loop_idx {A : Type _} {R : Type _} (len : Nat) (L : Nat → Int → A → R) (F : Nat → A → R) (I : Nat → A → Prop)
    (hend : ∀ k a, I len a → L (k + 1) (len : Int) a = F len a)
    (hstep : ∀ k i a, i < len → I i a → (∀ a', I (i + 1) a' → L k ((i : Int) + 1) a' = F (i + 1) a') → L (k + 1) (i : Int) a = F i a) :
    ∀ n k i a, i + n = len → n < k → I i a → L k (i : Int) a = F i a := by
  intro n
  induction n with
  | zero =>
    intro k i a h1 h2 h3
    obtain ⟨k, rfl⟩ := fuel h2
    obtain rfl : i = len := by omega
    exact hend k a h3
  | succ n ih =>
    intro k i a h1 h2 h3
    obtain ⟨k, rfl⟩ := fuel h2
    exact hstep k i a (by omega) h3 (fun a' h => by have := ih k (i + 1) a' (by omega) (by omega) h; rwa [Int.natCast_add] at this)
/-- A loop over a list by its places, with a state; what it gives, told by recursion over the list. -/
theorem loop_list {X : Type _} {A : Type _} {R : Type _} (d : X) (l : List X) (L : Nat → Int → A → R) (F : List X → A → R) (I : Nat → A → Prop)
    (hend : ∀ k a, I l.length a → L (k + 1) (l.length : Int) a = F [] a)
    (hstep : ∀ k i a x r, i < l.length → l.getD i d = x → I i a → (∀ a', I (i + 1) a' → L k ((i : Int) + 1) a' = F r a') → L (k + 1) (i : Int) a = F (x :: r) a)
    (K : Nat) (hK : l.length < K) (a : A) (ha : I 0 a) : L K 0 a = F l a := by
  have := loop_idx l.length L (fun i a => F (l.drop i) a) I
    (fun k a h => by rw [hend k a h, List.drop_eq_nil_of_le (Nat.le_refl _)])
    (fun k i a h1 h2 h3 => by
      rw [drop_at d h1]
      exact hstep k i a _ _ h1 rfl h2 h3) l.length K 0 a (by omega) hK ha
  simpa using this
/-- Lists that are short enough for every count. -/
def Short {α : Type _} (l : List α) : Prop := l.length ≤ 4194304
abbrev Fuel (N : Nat) : Prop := 1099511627776 < N
/-- The fuel with which the laws are told. -/
def N0 : Nat := 1099511627777
theorem hN0 : Fuel N0 := by unfold Fuel N0; omega
theorem wf_i64 {x : Int} (h : (Lit.int .i64 x).wf = true) : -9223372036854775808 ≤ x ∧ x ≤ 9223372036854775807 := by
  simp [Lit.wf, IntKind.min, IntKind.max, IntKind.signed, IntKind.bits] at h
  omega
theorem wf_len {e : Ty} {l : List e.D} (h : Wf (.sl .frz e) l) : (l.length : Int) ≤ 9223372036854775807 := by
  have := h.1
  unfold maxLen at this
  omega
/-- What a loop that copies has behind it. -/
theorem copy_step {α : Type _} {l m : List α} {i : Nat} {d : α} (hi : i < l.length) (hm : m.length = l.length) (h : m.take i = l.take i) : (m.set i (l.getD i d)).take (i + 1) = l.take (i + 1) := by
  rw [getD_lt hi]
  apply List.ext_getElem?
  intro j
  simp only [List.getElem?_take, List.getElem?_set]
  by_cases hj : j < i + 1
  · simp only [if_pos hj]
    by_cases e : i = j
    · subst e; simp [hm, hi]
    · simp only [if_neg e]
      have := congrArg (fun l => l[j]?) h
      simp only [List.getElem?_take, show j < i by omega, if_true] at this
      exact this
  · simp only [if_neg hj]
theorem copy_end {α : Type _} {l m : List α} (hm : m.length = l.length) (h : m.take l.length = l.take l.length) : m = l := by
  rwa [List.take_of_length_le (by omega), List.take_of_length_le (by omega)] at h
theorem eqIntS_eq (N : Nat) (hN : Fuel N) (a : List Int) (ha : Short a) : laws_eqIntS N a a = some (true, ()) := by
  unfold Short at ha
  have := loop_idx a.length (fun k i (_ : Unit) => laws_eqIntS.l0 N k a a i) (fun _ _ => some (true, ())) (fun i m => True)
    (fun k m _ => by simp (disch := omega) only [laws_eqIntS.l0, cf])
    (fun k i m hi _ ih => by simp (disch := omega) only [laws_eqIntS.l0, ct, bnd, w64, Int.toNat_natCast, bne_self_eq_false, cond_false, ih () trivial])
    a.length N 0 () (by omega) (by omega) trivial
  simp only [laws_eqIntS, bne_self_eq_false, cond_false]
  exact this
abbrev Cfg := Int × Int × Int
def W64 (x : Int) : Prop := 0 ≤ x ∧ x < 18446744073709551616
theorem impl_within_eq (N : Nat) (x lo hi : Int) : impl_within N x lo hi = some (decide (lo ≤ x ∧ x ≤ hi), ()) := by
  unfold impl_within
  by_cases h : lo ≤ x
  · by_cases h2 : x ≤ hi <;> simp [h, h2]
  · simp [h]
def size (a : Cfg) : Int := 7 + 23 * a.1 + 17 * a.2.1
abbrev Words (l : List Int) : Prop := ∀ x ∈ l, W64 x
theorem Words.at {l : List Int} (h : Words l) (i : Nat) : W64 (l.getD i 0) := by
  rw [List.getD_eq_getElem?_getD]
  cases hi : l[i]? with
  | none => exact ⟨by decide, by decide⟩
  | some x => exact h x (List.mem_of_getElem? hi)
/-- A count against which lists are held: the rest, or -1. -/
def rest (left n : Int) : Int := if left - n < 0 then -1 else left - n
abbrev Gst := Bool × Int × Int × Bool × (Int × Int × Int × Int) × Int × Int × Int × Int × Int × Int × Int × Bool × Int × Int × Int × Int × Int × List Int × List Int × Int × Int × Int
abbrev Wld := List Int × List Gst
def gSnap (g : Gst) : List Int := g.2.2.2.2.2.2.2.2.2.2.2.2.2.2.2.2.2.2.1
def gPlan (g : Gst) : List Int := g.2.2.2.2.2.2.2.2.2.2.2.2.2.2.2.2.2.2.2.1
/-- How much a guest and a world hold. -/
def szG (g : Gst) : Int := (gSnap g).length + (gPlan g).length
def szGs : List Gst → Int
  | [] => 0
  | g :: r => szG g + szGs r
theorem szGs_ge : ∀ l : List Gst, 0 ≤ szGs l
  | [] => Int.le_refl _
  | g :: r => by have := szGs_ge r; simp only [szGs, szG]; omega
def szW (w : Wld) : Int := w.1.length + (w.2.length + szGs w.2)
/-- All lists of a guest, of a world, are short. -/
def GShort (g : Gst) : Prop := Short (gSnap g) ∧ Short (gPlan g)
def WShort (w : Wld) : Prop := Short w.1 ∧ Short w.2 ∧ ∀ g ∈ w.2, GShort g
theorem szGs_mem : ∀ (l : List Gst) (g : Gst), g ∈ l → szG g ≤ szGs l
  | [], g, h => by simp at h
  | x :: r, g, h => by
    have := szGs_ge r
    rcases List.mem_cons.1 h with rfl | h
    · simp only [szGs]; omega
    · have := szGs_mem r g h
      have : 0 ≤ szG x := by unfold szG; omega
      simp only [szGs]; omega
theorem WShort.of {w : Wld} (h : szW w ≤ 1048576) : WShort w := by
  have h1 := szGs_ge w.2
  unfold szW at h
  refine ⟨by unfold Short; omega, by unfold Short; omega, fun g hg => ?_⟩
  have := szGs_mem w.2 g hg
  unfold szG at this
  exact ⟨by unfold Short; omega, by unfold Short; omega⟩
abbrev Bk := Int × List Int × (List Int × List Int × List Int × List Int) × List Int × List Int × List Int
def I64 (x : Int) : Prop := -9223372036854775808 ≤ x ∧ x ≤ 9223372036854775807
abbrev Ints (l : List Int) : Prop := ∀ x ∈ l, I64 x
theorem Ints.at {l : List Int} (h : Ints l) (i : Nat) : I64 (l.getD i 0) := by
  rw [List.getD_eq_getElem?_getD]
  cases hi : l[i]? with
  | none => exact ⟨by decide, by decide⟩
  | some x => exact h x (List.mem_of_getElem? hi)
def pg (b : Bk) (p : Nat) : Int := b.2.1.getD p 0
def ow (b : Bk) (u : Nat) : Int := b.2.2.2.1.getD u 0
def inn (b : Bk) (i : Nat) : Int := b.2.2.2.2.1.getD i 0
def ep (b : Bk) (i : Nat) : Int := b.2.2.2.2.2.getD i 0
def hd (b : Bk) : Nat → List Int
  | 0 => b.2.2.1.1
  | 1 => b.2.2.1.2.1
  | 2 => b.2.2.1.2.2.1
  | _ => b.2.2.1.2.2.2
theorem fold_pg (b : Bk) (i : Nat) : b.2.1.getD i 0 = pg b i := (rfl)
theorem fold_ow (b : Bk) (i : Nat) : b.2.2.2.1.getD i 0 = ow b i := (rfl)
theorem fold_in (b : Bk) (i : Nat) : b.2.2.2.2.1.getD i 0 = inn b i := (rfl)
theorem fold_ep (b : Bk) (i : Nat) : b.2.2.2.2.2.getD i 0 = ep b i := (rfl)
def np (b : Bk) : Nat := b.2.1.length
def nu (b : Bk) : Nat := b.2.2.2.1.length
/-- All numbers are numbers of Go. -/
def Bi (b : Bk) : Prop := I64 b.1 ∧ Ints b.2.1 ∧ (∀ k, Ints (hd b k)) ∧ Ints b.2.2.2.1 ∧ Ints b.2.2.2.2.1 ∧ Ints b.2.2.2.2.2
def Bshort (b : Bk) : Prop := Short b.2.1 ∧ (∀ k, Short (hd b k)) ∧ Short b.2.2.2.1 ∧ Short b.2.2.2.2.1 ∧ Short b.2.2.2.2.2
theorem cndb {α : Type _} {x y : Int} {a b : α} : cond (x == y) a b = if x = y then a else b := by
  by_cases h : x = y
  · rw [if_pos h, beq_iff_eq.2 h]; rfl
  · rw [if_neg h, beq_eq_false_iff_ne.2 h]; rfl
theorem cndn {α : Type _} {x y : Int} {a b : α} : cond (x != y) a b = if x = y then b else a := by
  by_cases h : x = y
  · rw [if_pos h, bne_eq_false_iff_eq.2 h]; rfl
  · rw [if_neg h, bne_iff_ne.2 h]; rfl
/-- Does it hold at m places from i on? -/
def allB (P : Nat → Bool) : Nat → Nat → Bool
  | 0, _ => true
  | m + 1, i => P i && allB P m (i + 1)
theorem allB_iff (P : Nat → Bool) : ∀ m i, allB P m i = true ↔ ∀ j, i ≤ j → j < i + m → P j = true
  | 0, i => by simp [allB]; intro j h1 h2; omega
  | m + 1, i => by
    rw [allB, Bool.and_eq_true, allB_iff P m (i + 1)]
    constructor
    · intro ⟨h1, h2⟩ j h3 h4
      by_cases e : j = i
      · rw [e]; exact h1
      · exact h2 j (by omega) (by omega)
    · intro h
      exact ⟨h i (Nat.le_refl _) (by omega), fun j h1 h2 => h j (by omega) (by omega)⟩
/-- A loop that ends at the first place where something does not hold. -/
theorem loop_all (n m : Nat) (L : Nat → Int → Option (Bool × Unit)) (P : Nat → Bool) (r : Bool) (hend : ∀ k, m < k → L k n = some (r, ()))
    (hstep : ∀ k i, i < n → L (k + 1) (i : Int) = cond (P i) (L k ((i : Int) + 1)) (some (false, ()))) :
    ∀ d i k, i + d = n → d + m < k → L k (i : Int) = some (allB P d i && r, ()) := by
  intro d
  induction d with
  | zero =>
    intro i k h1 h2
    obtain rfl : i = n := by omega
    rw [hend k (by omega)]; rfl
  | succ d ih =>
    intro i k h1 h2
    obtain ⟨k, rfl⟩ : ∃ j, k = j + 1 := ⟨k - 1, by omega⟩
    rw [hstep k i (by omega), allB]
    cases hp : P i
    · rfl
    · have := ih (i + 1) k (by omega) (by omega)
      rw [cond_true, Bool.true_and]
      rwa [Int.natCast_add] at this
/-- The same, with what follows at the end; a round takes c of the fuel. -/
theorem loop_allk (c : Nat) (hc : 0 < c) {R : Type _} (z : R) (n : Nat) (L : Nat → Int → R) (P : Nat → Bool) (E : Nat → R) (hend : ∀ k, L (k + 1) n = E k)
    (hstep : ∀ k i, i < n → L (k + c) (i : Int) = cond (P i) (L k ((i : Int) + 1)) z) :
    ∀ d i k, i + d = n → L (k + d * c + 1) (i : Int) = cond (allB P d i) (E k) z := by
  intro d
  induction d with
  | zero =>
    intro i k h1
    obtain rfl : i = n := by omega
    simp only [Nat.zero_mul, Nat.add_zero, allB, cond_true]
    exact hend k
  | succ d ih =>
    intro i k h1
    have := hstep (k + d * c + 1) i (by omega)
    rw [show k + (d + 1) * c + 1 = k + d * c + 1 + c by rw [Nat.succ_mul]; omega, this, allB]
    cases hp : P i
    · rfl
    · have := ih (i + 1) k (by omega)
      rw [cond_true, Bool.true_and]
      rwa [Int.natCast_add] at this
def slotB (b : Bk) (i : Nat) : Bool := decide (0 ≤ inn b i ∧ inn b i ≤ 2 ∧ 0 ≤ ep b i ∧ ep b i ≤ 4095 ∧ (ep b i = 0 → inn b i = 0))
def ownB (b : Bk) (u : Nat) : Bool := decide (0 ≤ ow b u ∧ ow b u ≤ b.1 ∧ (0 < ow b u → inn b (ow b u - 1).toNat ≠ 0))
def Sizes (b : Bk) : Prop := 1 ≤ b.1 ∧ b.1 ≤ 4 ∧ (b.2.2.2.2.1.length : Int) = b.1 ∧ (b.2.2.2.2.2.length : Int) = b.1 ∧ 1 ≤ np b ∧ np b ≤ 6 ∧ nu b = np b * 8
instance (b : Bk) : Decidable (Sizes b) := inferInstanceAs (Decidable (_ ∧ _))
def slotsB (b : Bk) : Bool := decide (Sizes b) && (allB (slotB b) b.1.toNat 0 && allB (ownB b) (nu b) 0)
theorem spec_l3Slots_eq (N : Nat) (hN : Fuel N) (b : Bk) : spec_l3Slots N b = some (slotsB b, ()) := by
  have hlt : (b.2.1.length : Int) * 8 < 9223372036854775807 ∨ 6 < (b.2.1.length : Int) := by omega
  by_cases hs : Sizes b
  rotate_left
  · rw [slotsB, df hs]
    unfold Sizes np nu at hs
    simp only [spec_l3Slots, cnd, cndn]
    repeat' split
    all_goals first | rfl | skip
    rw [w64 (by omega) (by omega)] at *
    exfalso
    omega
  have hs' := hs
  unfold Sizes np nu at hs'
  rw [slotsB, dt hs, Bool.true_and]
  have e1 : ((b.2.2.2.2.1.length : Int) != b.1) = false := bne_eq_false_iff_eq.2 (by omega)
  have e2 : ((b.2.2.2.2.2.length : Int) != b.1) = false := bne_eq_false_iff_eq.2 (by omega)
  have e3 : ((b.2.2.2.1.length : Int) != IntKind.i64.wrap ((b.2.1.length : Int) * 8)) = false := by rw [w64 (by omega) (by omega)]; exact bne_eq_false_iff_eq.2 (by omega)
  simp (disch := omega) only [spec_l3Slots, cf, e1, e2, e3, cond_false]
  have l1 := loop_all (nu b) 0 (fun k i => spec_l3Slots.l1 N k i b) (ownB b) true
    (fun k hk => by
      obtain ⟨k, rfl⟩ := fuel hk
      simp (disch := (unfold nu; omega)) only [spec_l3Slots.l1, cf])
    (fun k i hi => by
      have hi' : i < b.2.2.2.1.length := hi
      simp (disch := omega) only [spec_l3Slots.l1, ct, bnd, w64, Int.toNat_natCast, fold_ow]
      rw [ownB, cnd (p := _ ∧ _)]
      by_cases c : 0 ≤ ow b i ∧ ow b i ≤ b.1
      · simp (disch := omega) only [cf]
        by_cases c2 : ow b i > 0
        · simp (disch := omega) only [ct, w64, bnd, cndb, fold_in]
          by_cases c3 : inn b (ow b i - 1).toNat = 0
          · rw [if_pos c3, if_neg (fun h => h.2.2 c2 c3)]
          · rw [if_neg c3, if_pos ⟨c.1, c.2, fun _ => c3⟩]
        · rw [cf c2, if_pos ⟨c.1, c.2, fun h => (c2 h).elim⟩]
      · rw [if_neg (fun h => c ⟨h.1, h.2.1⟩)]
        simp only [cnd]
        repeat' split
        all_goals first | rfl | (exfalso; omega))
  have l0 := loop_all b.1.toNat (nu b + 1) (fun k i => spec_l3Slots.l0 N k i b) (slotB b) (allB (ownB b) (nu b) 0)
    (fun k hk => by
      obtain ⟨k, rfl⟩ : ∃ j, k = j + 1 := ⟨k - 1, by omega⟩
      have := l1 (nu b) 0 k (by omega) (by omega)
      rw [Bool.and_true] at this
      simp (disch := omega) only [spec_l3Slots.l0, cf]
      exact this)
    (fun k i hi => by
      simp (disch := omega) only [spec_l3Slots.l0, ct, bnd, w64, Int.toNat_natCast, fold_in, fold_ep]
      rw [slotB]
      simp only [cnd, cndb]
      repeat' split
      all_goals first | rfl | (exfalso; omega))
  have hnu : nu b = b.2.2.2.1.length := rfl
  have := l0 b.1.toNat 0 N (by omega) (by omega)
  exact this
theorem spec_l3Kind_eq (N : Nat) (s : Int) : spec_l3Kind N s = some (if 1 ≤ s ∧ s ≤ 4 then s - 1 else -1, ()) := by
  unfold spec_l3Kind
  by_cases h : 1 ≤ s ∧ s ≤ 4
  · simp (disch := omega) only [cf, w64, if_pos h]
  · rw [if_neg h]
    simp only [cnd]
    repeat' split
    all_goals first | rfl | (exfalso; omega)
def usz (k : Nat) : Nat := 2 ^ k
theorem usz_vals {k : Nat} (h : k < 4) : usz k = 1 ∧ k = 0 ∨ usz k = 2 ∧ k = 1 ∨ usz k = 4 ∧ k = 2 ∨ usz k = 8 ∧ k = 3 := by
  match k, h with
  | 0, _ => exact .inl ⟨rfl, rfl⟩
  | 1, _ => exact .inr (.inl ⟨rfl, rfl⟩)
  | 2, _ => exact .inr (.inr (.inl ⟨rfl, rfl⟩))
  | 3, _ => exact .inr (.inr (.inr ⟨rfl, rfl⟩))
theorem spec_l3Size_eq (N : Nat) {k : Nat} (h : k < 4) : spec_l3Size N k = some ((usz k : Int), ()) := by
  match k, h with
  | 0, _ => rfl
  | 1, _ => rfl
  | 2, _ => rfl
  | 3, _ => rfl
theorem impl_unitsOf_eq (N : Nat) {k : Nat} (h : k < 4) : impl_unitsOf N k = some ((usz k : Int), ()) := by
  match k, h with
  | 0, _ => rfl
  | 1, _ => rfl
  | 2, _ => rfl
  | 3, _ => rfl
/-- May that unit stand in the list of a kind? -/
def memB (b : Bk) (k : Nat) (x : Int) : Bool := decide (0 ≤ x ∧ x < nu b ∧ pg b (x / 8).toNat = k + 1 ∧ x % (usz k : Int) = 0)
def listB (b : Bk) (k : Nat) : Bool := decide ((hd b k).length ≤ nu b) && (hd b k).all (memB b k)
theorem allB_list (l : List Int) (P : Int → Bool) : ∀ m i, i + m = l.length → allB (fun j => P (l.getD j 0)) m i = (l.drop i).all P
  | 0, i, h => by rw [List.drop_eq_nil_of_le (by omega)]; rfl
  | m + 1, i, h => by rw [allB, allB_list l P m (i + 1) (by omega), drop_at 0 (show i < l.length by omega), List.all_cons]
def listsB (b : Bk) : Bool := allB (listB b) 4 0
theorem spec_l3Lists_step (N : Nat) (b : Bk) (hs : Sizes b) (kk : Nat) (hkk : kk < 4) (l : List Int) (i k : Nat) (hi : i < l.length) (x : Int) (hx : l.getD i 0 = x) : (bif (bif decide (0 ≤ (i : Int)) then decide ((i : Int) < (l.length : Int)) else false) then (bif decide (l.getD (i : Int).toNat 0 < 0) then some (false, ()) else (bif decide (l.getD (i : Int).toNat 0 ≥ (b.2.2.2.1.length : Int)) then some (false, ()) else (bif (bif decide (0 ≤ IntKind.i64.wrap (Int.tdiv (l.getD (i : Int).toNat 0) 8)) then decide (IntKind.i64.wrap (Int.tdiv (l.getD (i : Int).toNat 0) 8) < (b.2.1.length : Int)) else false) then (spec_l3Kind N (b.2.1.getD (IntKind.i64.wrap (Int.tdiv (l.getD (i : Int).toNat 0) 8)).toNat 0)).bind fun u31 => (bif (u31.1 != (kk : Int)) then some (false, ()) else (spec_l3Size N kk).bind fun u32 => (bif decide (u32.1 = 0) then none else (bif decide (Int.tmod (l.getD (i : Int).toNat 0) u32.1 > 0) then some (false, ()) else spec_l3Lists.l2 N (k + 1) kk i b))) else none))) else none) = cond (memB b kk x) (spec_l3Lists.l2 N (k + 1) kk i b) (some (false, ())) := by
  unfold Sizes np nu at hs
  have hsz := spec_l3Size_eq N hkk
  simp (disch := omega) only [bnd, Int.toNat_natCast, hx]
  rw [memB, cnd (p := _ ∧ _)]
  unfold nu
  by_cases c1 : 0 ≤ x ∧ x < (b.2.2.2.1.length : Int)
  rotate_left
  · rw [if_neg (fun h => c1 ⟨h.1, h.2.1⟩)]
    simp only [cnd]
    repeat' split
    all_goals first | rfl | (exfalso; omega)
  simp (disch := omega) only [cf, td, w64, bnd, spec_l3Kind_eq, hsz, Option.bind_some, fold_pg, tm]
  generalize pg b (x / 8).toNat = s
  by_cases c2 : s = (kk : Int) + 1
  rotate_left
  · rw [cndn, if_neg (by split <;> omega), if_neg (fun h => c2 h.2.2.1)]
  rw [cndn, if_pos (by rw [if_pos (by omega)]; omega)]
  have hu : (usz kk : Int) ≠ 0 := by rcases usz_vals hkk with ⟨hu, hk⟩ | ⟨hu, hk⟩ | ⟨hu, hk⟩ | ⟨hu, hk⟩ <;> omega
  rw [cf hu]
  by_cases c3 : x % (usz kk : Int) = 0
  · rw [cf (by omega), if_pos ⟨c1.1, c1.2, c2, c3⟩]
  · have := Int.emod_nonneg x hu
    rw [ct (by omega), if_neg (fun h => c3 h.2.2.2)]
theorem spec_l3Lists_eq (N : Nat) (hN : Fuel N) (b : Bk) (hs : Sizes b) (hb : Bshort b) : spec_l3Lists N b = some (listsB b, ()) := by
  have hs' := hs
  unfold Sizes np nu at hs'
  have inner : ∀ (kk : Nat), kk < 4 → ∀ (k : Nat), spec_l3Lists.l1 N (k + (hd b kk).length * 2 + 1) kk 0 b = cond ((hd b kk).all (memB b kk)) (spec_l3Lists.l3 N k kk b) (some (false, ())) := by
    intro kk hkk k
    have := loop_allk 2 (by decide) (some (false, ())) (hd b kk).length (fun k i => spec_l3Lists.l1 N k kk i b) (fun j => memB b kk ((hd b kk).getD j 0)) (fun k => spec_l3Lists.l3 N k kk b)
      (fun k => by
        rcases usz_vals hkk with ⟨hu, hk⟩ | ⟨hu, hk⟩ | ⟨hu, hk⟩ | ⟨hu, hk⟩ <;> subst hk <;>
          simp (disch := first | omega | (simp only [hd]; omega)) only [spec_l3Lists.l1, ct, cf])
      (fun k i hi => by
        have st := spec_l3Lists_step N b hs kk hkk (hd b kk) i k hi _ rfl
        have e2 : spec_l3Lists.l2 N (k + 1) kk i b = spec_l3Lists.l1 N k kk ((i : Int) + 1) b := by
          rw [spec_l3Lists.l2, w64 (by omega) (by have := hb.2.1 kk; unfold Short at this; omega)]
        rw [← e2, ← st]
        rcases usz_vals hkk with ⟨hu, hk⟩ | ⟨hu, hk⟩ | ⟨hu, hk⟩ | ⟨hu, hk⟩ <;> subst hk <;> simp only [hd] at hi ⊢ <;>
          simp (disch := first | omega | (simp only [hd]; omega)) only [spec_l3Lists.l1, ct, cf])
      (hd b kk).length 0 k (by omega)
    rw [allB_list _ _ _ _ (by omega), List.drop_zero] at this
    exact this
  have outer : ∀ (d kk : Nat), kk + d = 4 → ∀ k, 40000000 * d < k → spec_l3Lists.l0 N k kk b = some (allB (listB b) d kk, ()) := by
    intro d
    induction d with
    | zero =>
      intro kk h k hk
      obtain ⟨k, rfl⟩ := fuel hk
      simp (disch := omega) only [spec_l3Lists.l0, cf, allB]
    | succ d ih =>
      intro kk h k hk
      have hkk : kk < 4 := by omega
      have hl := hb.2.1 kk
      unfold Short at hl
      obtain ⟨k, rfl⟩ : ∃ j, k = j + 1 + (hd b kk).length * 2 + 1 + 1 := ⟨k - (hd b kk).length * 2 - 3, by omega⟩
      have h1 := inner kk hkk (k + 1)
      have h2 : spec_l3Lists.l3 N (k + 1) kk b = spec_l3Lists.l0 N k ((kk + 1 : Nat) : Int) b := by
        rw [spec_l3Lists.l3, w64 (by omega) (by omega)]; rfl
      rw [h2, ih (kk + 1) (by omega) k (by omega)] at h1
      have goal : spec_l3Lists.l0 N (k + 1 + (hd b kk).length * 2 + 1 + 1) kk b = cond (decide (((hd b kk).length : Int) > (b.2.2.2.1.length : Int))) (some (false, ())) (spec_l3Lists.l1 N (k + 1 + (hd b kk).length * 2 + 1) kk 0 b) := by
        rcases usz_vals hkk with ⟨hu, hk⟩ | ⟨hu, hk⟩ | ⟨hu, hk⟩ | ⟨hu, hk⟩ <;> subst hk <;>
          simp (disch := omega) only [spec_l3Lists.l0, ct, cf, hd]
      rw [goal, h1, allB, listB, cnd]
      unfold nu
      by_cases c : ((hd b kk).length : Int) > (b.2.2.2.1.length : Int)
      · rw [if_pos c, df (by omega)]; rfl
      · rw [if_neg c, dt (by omega), Bool.true_and]
        cases (hd b kk).all (memB b kk) <;> rfl
  have := outer 4 0 rfl N (by omega)
  exact this
noncomputable def tf (p : Prop) : Bool := @decide p (Classical.propDecidable p)
theorem tf_t {p : Prop} (h : p) : tf p = true := @decide_eq_true p (Classical.propDecidable p) h
theorem tf_f {p : Prop} (h : ¬ p) : tf p = false := @decide_eq_false p (Classical.propDecidable p) h
theorem tf_iff {p : Prop} : tf p = true ↔ p :=
  ⟨fun h => Classical.byContradiction fun c => (by rw [tf_f c] at h; cases h), tf_t⟩
theorem tf_eq {p : Prop} {b : Bool} (h : b = true ↔ p) : b = tf p := by
  by_cases c : p
  · rw [tf_t c, h.2 c]
  · rw [tf_f c]
    cases b
    · rfl
    · exact (c (h.1 rfl)).elim
theorem tf_congr {p q : Prop} (h : p ↔ q) : tf p = tf q := by rw [propext h]
/-- No unit of a page from one on has an owner. -/
def FreeP (b : Bk) (p fr : Nat) : Prop := ∀ u, fr ≤ u → u < 8 → ow b (8 * p + u) = 0
def Owners (b : Bk) : Prop := ∀ u, u < nu b → 0 ≤ ow b u
def RoomP (b : Bk) (p k u : Nat) : Prop :=
  (u % usz k ≠ 0 → ow b (8 * p + u) = 0 ∧ (hd b k).count ((8 * p + u : Nat) : Int) = 0) ∧
  (u % usz k = 0 → 0 < ow b (8 * p + u) ∧ (hd b k).count ((8 * p + u : Nat) : Int) = 0 ∨ ow b (8 * p + u) = 0 ∧ (hd b k).count ((8 * p + u : Nat) : Int) = 1)
def RoomsP (b : Bk) (p k : Nat) : Prop := (∀ u, u < 8 → RoomP b p k u) ∧ ∃ u, u < 8 ∧ 0 < ow b (8 * p + u)
/-- The last page up to one that is no further page of a room. -/
def back (b : Bk) : Nat → Nat
  | 0 => 0
  | q + 1 => if pg b (q + 1) = 7 then back b q else q + 1
def RestP (b : Bk) (p : Nat) : Prop := pg b (back b p) > 8 ∧ (back b p : Int) + pg b (back b p) - 8 > p ∧ FreeP b p 0
def WideP (b : Bk) (p : Nat) : Prop := 10 ≤ pg b p ∧ pg b p ≤ 12 ∧ (p : Int) + (pg b p - 8) ≤ np b ∧ ow b (8 * p) ≠ 0 ∧ FreeP b p 1 ∧ ∀ i : Nat, 1 ≤ i → (i : Int) < pg b p - 8 → pg b (p + i) = 7
def PageP (b : Bk) (p : Nat) : Prop :=
  (pg b p = 0 → FreeP b p 0) ∧ (1 ≤ pg b p ∧ pg b p ≤ 4 → RoomsP b p (pg b p - 1).toNat) ∧ (pg b p = 7 → RestP b p) ∧
  (pg b p ≠ 0 → ¬ (1 ≤ pg b p ∧ pg b p ≤ 4) → pg b p ≠ 7 → WideP b p)
theorem spec_l3Free_eq (N : Nat) (hN : Fuel N) (b : Bk) (hs : Sizes b) (ho : Owners b) (p fr : Nat) (hp : p < np b) (hfr : fr ≤ 8) : spec_l3Free N b p fr = some (tf (FreeP b p fr), ()) := by
  have hs' := hs
  unfold Sizes np nu at hs'
  unfold np at hp
  have := loop_all 8 0 (fun k i => spec_l3Free.l0 N k p i b) (fun u => !decide (0 < ow b (8 * p + u))) true
    (fun k hk => by
      obtain ⟨k, rfl⟩ := fuel hk
      simp (disch := omega) only [spec_l3Free.l0, cf])
    (fun k i hi => by
      have e : ((p : Int) * 8 + (i : Int)).toNat = 8 * p + i := by omega
      simp (disch := omega) only [spec_l3Free.l0, ct, w64, bnd, e, fold_ow]
      by_cases c : ow b (8 * p + i) > 0
      · rw [ct c, dt c]; rfl
      · rw [cf c, df c]; rfl)
    (8 - fr) fr N (by omega) (by omega)
  unfold spec_l3Free
  rw [this, Bool.and_true]
  congr 2
  refine tf_eq ?_
  rw [allB_iff]
  constructor
  · intro h u h1 h2
    have g := h u h1 (by omega)
    have g2 := ho (8 * p + u) (by unfold nu; omega)
    simp at g
    omega
  · intro h u h1 h2
    have := h u h1 (by omega)
    simp [this]
theorem count_drop (l : List Int) (x : Int) (i : Nat) (h : i < l.length) : (l.drop i).count x = (if l.getD i 0 = x then 1 else 0) + (l.drop (i + 1)).count x := by
  rw [drop_at 0 h, List.count_cons]
  by_cases c : l.getD i 0 = x
  · rw [beq_iff_eq.2 c, if_pos c, if_pos rfl]; omega
  · rw [beq_eq_false_iff_ne.2 c, if_neg c, if_neg (by decide)]; omega
theorem spec_l3In_eq (N : Nat) (hN : Fuel N) (l : List Int) (hl : Short l) (x : Int) : spec_l3In N l x = some ((l.count x : Int), ()) := by
  unfold Short at hl
  have := loop_idx l.length (fun k i a => spec_l3In.l0 N k l x a i) (fun i a => some (a + ((l.drop i).count x : Int), ())) (fun i a => 0 ≤ a ∧ a ≤ i)
    (fun k a h => by
      simp (disch := omega) only [spec_l3In.l0, cf, List.drop_length, List.count_nil]
      simp)
    (fun k i a hi h ih => by
      simp (disch := omega) only [spec_l3In.l0, ct, bnd, w64, Int.toNat_natCast, cndb]
      rw [count_drop l x i hi]
      by_cases c : l.getD i 0 = x
      · rw [if_pos c, if_pos c, ih _ (by omega)]
        congr 2; omega
      · rw [if_neg c, if_neg c, ih _ (by omega)]
        congr 2; omega)
    l.length N 0 0 (by omega) (by omega) (by omega)
  rw [List.drop_zero, Int.zero_add] at this
  exact this
/-- How many of m places from i on have something. -/
def cntB (P : Nat → Bool) : Nat → Nat → Nat
  | 0, _ => 0
  | m + 1, i => (if P i then 1 else 0) + cntB P m (i + 1)
theorem cntB_pos (P : Nat → Bool) : ∀ m i, 0 < cntB P m i ↔ ∃ j, i ≤ j ∧ j < i + m ∧ P j = true
  | 0, i => by simp [cntB]; intro j h1 h2; omega
  | m + 1, i => by
    rw [cntB]
    constructor
    · intro h
      by_cases c : P i = true
      · exact ⟨i, Nat.le_refl _, by omega, c⟩
      · rw [if_neg c, Nat.zero_add] at h
        obtain ⟨j, h1, h2, h3⟩ := (cntB_pos P m (i + 1)).1 h
        exact ⟨j, by omega, by omega, h3⟩
    · intro ⟨j, h1, h2, h3⟩
      by_cases c : P i = true
      · rw [if_pos c]; omega
      · have : 0 < cntB P m (i + 1) := (cntB_pos P m (i + 1)).2 ⟨j, by by_cases e : j = i; (subst e; exact (c h3).elim); omega, by omega, h3⟩
        omega
noncomputable def roomB (b : Bk) (p k u : Nat) : Bool := tf (RoomP b p k u)
def firstB (b : Bk) (p k u : Nat) : Bool := decide (u % usz k = 0 ∧ 0 < ow b (8 * p + u))
theorem usz_dvd {k : Nat} (h : k < 4) (p u : Nat) : (8 * p + u) % usz k = u % usz k := by
  rcases usz_vals h with ⟨hu, _⟩ | ⟨hu, _⟩ | ⟨hu, _⟩ | ⟨hu, _⟩ <;> rw [hu] <;> omega
theorem spec_l3Rooms_step (N : Nat) (hN : Fuel N) (b : Bk) (hs : Sizes b) (ho : Owners b) (p kk : Nat) (hp : p < np b) (hkk : kk < 4) (l : List Int) (hl : l = hd b kk) (hsh : Short l) (i : Nat) (hi : i < 8) (X Y : Option (Bool × Unit)) :
    ((spec_l3In N l (IntKind.i64.wrap (IntKind.i64.wrap ((p : Int) * 8) + (i : Int)))).bind fun u7 => (spec_l3Size N kk).bind fun u8 => (bif decide (u8.1 = 0) then none else (bif decide (Int.tmod i u8.1 > 0) then (bif (bif decide (0 ≤ IntKind.i64.wrap (IntKind.i64.wrap ((p : Int) * 8) + i)) then decide (IntKind.i64.wrap (IntKind.i64.wrap ((p : Int) * 8) + i) < (b.2.2.2.1.length : Int)) else false) then (bif decide (b.2.2.2.1.getD (IntKind.i64.wrap (IntKind.i64.wrap ((p : Int) * 8) + i)).toNat 0 > 0) then some (false, ()) else (bif decide (u7.1 > 0) then some (false, ()) else Y)) else none) else (bif (bif decide (0 ≤ IntKind.i64.wrap (IntKind.i64.wrap ((p : Int) * 8) + i)) then decide (IntKind.i64.wrap (IntKind.i64.wrap ((p : Int) * 8) + i) < (b.2.2.2.1.length : Int)) else false) then (bif (decide (b.2.2.2.1.getD (IntKind.i64.wrap (IntKind.i64.wrap ((p : Int) * 8) + i)).toNat 0 > 0) == decide (u7.1 > 0)) then some (false, ()) else (bif decide (u7.1 > 1) then some (false, ()) else (bif (bif decide (0 ≤ IntKind.i64.wrap (IntKind.i64.wrap ((p : Int) * 8) + i)) then decide (IntKind.i64.wrap (IntKind.i64.wrap ((p : Int) * 8) + i) < (b.2.2.2.1.length : Int)) else false) then (bif decide (b.2.2.2.1.getD (IntKind.i64.wrap (IntKind.i64.wrap ((p : Int) * 8) + i)).toNat 0 > 0) then X else Y) else none))) else none)))) =
      cond (roomB b p kk i) (cond (firstB b p kk i) X Y) (some (false, ())) := by
  have hs' := hs
  unfold Sizes np nu at hs'
  unfold np at hp
  have hw : IntKind.i64.wrap (IntKind.i64.wrap ((p : Int) * 8) + (i : Int)) = ((8 * p + i : Nat) : Int) := by rw [w64 (n := (p : Int) * 8) (by omega) (by omega), w64 (by omega) (by omega)]; omega
  have hu0 : (usz kk : Int) ≠ 0 := by rcases usz_vals hkk with ⟨hu, hk⟩ | ⟨hu, hk⟩ | ⟨hu, hk⟩ | ⟨hu, hk⟩ <;> omega
  have hown := ho (8 * p + i) (by unfold nu; omega)
  simp (disch := omega) only [hw, spec_l3In_eq N hN l hsh, spec_l3Size_eq N hkk, Option.bind_some, cf, tm, bnd, Int.toNat_natCast, fold_ow]
  have hm : (i : Int) % (usz kk : Int) = ((i % usz kk : Nat) : Int) := by omega
  rw [hm, hl]
  generalize hc : (hd b kk).count ((8 * p + i : Nat) : Int) = c
  have hroom : roomB b p kk i = tf ((i % usz kk ≠ 0 → ow b (8 * p + i) = 0 ∧ c = 0) ∧ (i % usz kk = 0 → 0 < ow b (8 * p + i) ∧ c = 0 ∨ ow b (8 * p + i) = 0 ∧ c = 1)) := by
    unfold roomB RoomP
    rw [hc]
  rw [hroom, firstB]
  by_cases c1 : i % usz kk = 0
  · rw [cf (by omega)]
    by_cases c2 : ow b (8 * p + i) > 0
    · by_cases c3 : c = 0
      · rw [tf_t ⟨fun h => (h c1).elim, fun _ => .inl ⟨c2, c3⟩⟩, dt c2, df (p := (c : Int) > 0) (by omega), dt (p := _ ∧ _) ⟨c1, c2⟩]
        simp (disch := omega) only [cf]
        rfl
      · rw [tf_f (fun h => by have := h.2 c1; omega), dt c2, dt (p := (c : Int) > 0) (by omega)]
        rfl
    · by_cases c3 : c = 1
      · rw [tf_t ⟨fun h => (h c1).elim, fun _ => .inr ⟨by omega, c3⟩⟩, df c2, dt (p := (c : Int) > 0) (by omega), df (p := _ ∧ _) (fun h => c2 h.2)]
        simp (disch := omega) only [cf]
        rfl
      · rw [tf_f (fun h => by have := h.2 c1; omega), df c2]
        by_cases c4 : (c : Int) > 0
        · rw [dt c4, dt (p := (c : Int) > 1) (by omega)]; rfl
        · rw [df c4]; rfl
  · rw [ct (by omega)]
    by_cases c2 : ow b (8 * p + i) > 0
    · rw [tf_f (fun h => by have := h.1 c1; omega), ct c2]; rfl
    · rw [cf c2]
      by_cases c3 : c = 0
      · rw [tf_t ⟨fun _ => ⟨by omega, c3⟩, fun h => (c1 h).elim⟩, cf (by omega), df (p := _ ∧ _) (fun h => c1 h.1)]; rfl
      · rw [tf_f (fun h => by have := h.1 c1; omega), ct (by omega)]; rfl
theorem spec_l3Rooms_eq (N : Nat) (hN : Fuel N) (b : Bk) (hs : Sizes b) (ho : Owners b) (hb : Bshort b) (p kk : Nat) (hp : p < np b) (hkk : kk < 4) : spec_l3Rooms N b p kk = some (tf (RoomsP b p kk), ()) := by
  have hsh := hb.2.1 kk
  have := loop_idx 8 (fun k i a => spec_l3Rooms.l0 N k p kk a i b) (fun i a => some (allB (roomB b p kk) (8 - i) i && decide (0 < a + (cntB (firstB b p kk) (8 - i) i : Int)), ())) (fun i a => 0 ≤ a ∧ a ≤ i)
    (fun k a h => by
      simp (disch := omega) only [spec_l3Rooms.l0, cf, Nat.sub_self, allB, cntB]
      simp)
    (fun k i a hi h ih => by
      have st := spec_l3Rooms_step N hN b hs ho p kk hp hkk (hd b kk) rfl hsh i hi (spec_l3Rooms.l0 N k p kk (a + 1) ((i : Int) + 1) b) (spec_l3Rooms.l0 N k p kk a ((i : Int) + 1) b)
      have goal : spec_l3Rooms.l0 N (k + 1) p kk a i b = cond (roomB b p kk i) (cond (firstB b p kk i) (spec_l3Rooms.l0 N k p kk (a + 1) ((i : Int) + 1) b) (spec_l3Rooms.l0 N k p kk a ((i : Int) + 1) b)) (some (false, ())) := by
        rw [← st]
        have w1 : IntKind.i64.wrap ((i : Int) + 1) = (i : Int) + 1 := w64 (by omega) (by omega)
        have w2 : IntKind.i64.wrap (a + 1) = a + 1 := w64 (by omega) (by omega)
        rcases usz_vals hkk with ⟨hu, hk⟩ | ⟨hu, hk⟩ | ⟨hu, hk⟩ | ⟨hu, hk⟩ <;> subst hk <;>
          simp (disch := omega) only [spec_l3Rooms.l0, ct, cf, hd, w1, w2]
      rw [goal, ih (a + 1) (by omega), ih a (by omega), show 8 - i = (8 - (i + 1)) + 1 by omega, allB, cntB]
      cases roomB b p kk i
      · rfl
      · cases firstB b p kk i
        · simp only [cond_true, cond_false, Bool.true_and, Bool.false_eq_true, if_false, Nat.zero_add]
        · simp only [cond_true, Bool.true_and, if_true]
          congr 3
          exact decide_eq_decide.2 (by omega))
    8 N 0 0 (by omega) (by omega) (by omega)
  unfold spec_l3Rooms
  rw [show ((0 : Nat) : Int) = 0 from rfl] at this
  rw [this, show (8 - 0 : Nat) = 8 from rfl]
  congr 2
  refine tf_eq ?_
  rw [Bool.and_eq_true, allB_iff, decide_eq_true_iff, Int.zero_add]
  have hc := cntB_pos (firstB b p kk) 8 0
  constructor
  · intro ⟨h1, h2⟩
    refine ⟨fun u hu => tf_iff.1 (h1 u (by omega) (by omega)), ?_⟩
    obtain ⟨j, g1, g2, g3⟩ := hc.1 (by omega)
    unfold firstB at g3
    exact ⟨j, by omega, (of_decide_eq_true g3).2⟩
  · intro ⟨h1, u, h2, h3⟩
    refine ⟨fun j _ hj => tf_iff.2 (h1 j (by omega)), ?_⟩
    have : 0 < cntB (firstB b p kk) 8 0 := hc.2 ⟨u, by omega, by omega, by
      unfold firstB
      refine dt ⟨?_, h3⟩
      have := (h1 u h2).1
      omega⟩
    omega
theorem back_le (b : Bk) : ∀ q, back b q ≤ q
  | 0 => Nat.le_refl _
  | q + 1 => by
    rw [back]
    split
    · have := back_le b q; omega
    · omega
theorem ww8 {a c : Int} (h : -9223372036854775808 ≤ a - c) (h2 : a - c ≤ 9223372036854775807) (h3 : -100 ≤ c) (h4 : c ≤ 100) : IntKind.i64.wrap (IntKind.i64.wrap a - c) = a - c := by
  rw [IntKind.wrap_i64, IntKind.wrap_i64]; omega
theorem spec_l3Rest_eq (N : Nat) (hN : Fuel N) (b : Bk) (hi : Bi b) (hs : Sizes b) (ho : Owners b) (p : Nat) (hp : p < np b) : spec_l3Rest N b p = some (tf (RestP b p), ()) := by
  have hs' := hs
  unfold Sizes np nu at hs'
  have hp' := hp
  unfold np at hp'
  have main : ∀ q k, q < k → q ≤ p → spec_l3Rest.l0 N k p q b = some (tf (pg b (back b q) > 8 ∧ (back b q : Int) + pg b (back b q) - 8 > p ∧ FreeP b p 0), ()) := by
    have leaf : ∀ q : Nat, q ≤ p → (X : Option (Bool × Unit)) → X = (bif decide (pg b q > 8) then (bif decide (IntKind.i64.wrap (IntKind.i64.wrap ((q : Int) + pg b q) - 8) > p) then (some (tf (FreeP b p 0), ()) : Option (Bool × Unit)) else some (false, ())) else some (false, ())) →
        X = some (tf (pg b q > 8 ∧ (q : Int) + pg b q - 8 > p ∧ FreeP b p 0), ()) := by
      intro q hq X hX
      have hr := hi.2.1.at q
      rw [fold_pg] at hr
      obtain ⟨r1, r2⟩ := hr
      rw [hX]
      by_cases c : pg b q > 8
      · rw [ct c, ww8 (by omega) (by omega) (by omega) (by omega)]
        by_cases c2 : (q : Int) + pg b q - 8 > p
        · rw [ct c2]
          congr 2
          exact tf_congr ⟨fun h => ⟨c, c2, h⟩, fun h => h.2.2⟩
        · rw [cf c2, tf_f (fun h => c2 h.2.1)]
      · rw [cf c, tf_f (fun h => c h.1)]
    intro q
    induction q with
    | zero =>
      intro k hk hq
      obtain ⟨k, rfl⟩ := fuel hk
      rw [back]
      refine leaf 0 hq _ ?_
      have e := spec_l3Free_eq N hN b hs ho p 0 hp (by omega)
      rw [show ((0 : Nat) : Int) = 0 from rfl] at e
      rw [spec_l3Rest.l0, cf (by omega), bnd (by omega) (by omega)]
      simp (disch := omega) only [bnd, e, Option.bind_some, Int.toNat_natCast, fold_pg]
    | succ q ih =>
      intro k hk hq
      obtain ⟨k, rfl⟩ := fuel hk
      have e := spec_l3Free_eq N hN b hs ho p 0 hp (by omega)
      rw [show ((0 : Nat) : Int) = 0 from rfl] at e
      have w1 : IntKind.i64.wrap (((q + 1 : Nat) : Int) - 1) = (q : Int) := by rw [w64 (by omega) (by omega)]; omega
      by_cases c : pg b (q + 1) = 7
      · rw [back, if_pos c, ← ih k (by omega) (by omega), spec_l3Rest.l0, ct (by omega), bnd (by omega) (by omega), Int.toNat_natCast, fold_pg, w1, cndb, if_pos c]
      · rw [back, if_neg c]
        refine leaf (q + 1) hq _ ?_
        rw [spec_l3Rest.l0, ct (by omega), bnd (by omega) (by omega), Int.toNat_natCast, fold_pg, cndb, if_neg c]
        simp (disch := omega) only [bnd, e, Option.bind_some, Int.toNat_natCast, fold_pg]
  exact main p N (by omega) (Nat.le_refl _)
theorem spec_l3Wide_eq (N : Nat) (hN : Fuel N) (b : Bk) (hi : Bi b) (hs : Sizes b) (ho : Owners b) (p : Nat) (hp : p < np b) : spec_l3Wide N b p = some (tf (WideP b p), ()) := by
  have hs' := hs
  unfold Sizes np nu at hs'
  have hp' := hp
  unfold np at hp'
  have hr := hi.2.1.at p
  rw [fold_pg] at hr
  obtain ⟨r1, r2⟩ := hr
  have e := spec_l3Free_eq N hN b hs ho p 1 hp (by omega)
  rw [show ((1 : Nat) : Int) = 1 from rfl] at e
  have e8 : ((p : Int) * 8).toNat = 8 * p := by omega
  unfold spec_l3Wide
  simp (disch := omega) only [bnd, Int.toNat_natCast, fold_pg, w64 (n := (p : Int) * 8), e8, fold_ow, e, Option.bind_some]
  by_cases c : 10 ≤ pg b p ∧ pg b p ≤ 12
  rotate_left
  · rw [tf_f (p := WideP b p) (fun h => c ⟨h.1, h.2.1⟩)]
    by_cases c1 : IntKind.i64.wrap (pg b p - 8) < 2
    · rw [ct c1]
    · rw [cf c1, ct]
      rw [IntKind.wrap_i64] at c1 ⊢
      omega
  have w1 : IntKind.i64.wrap (pg b p - 8) = pg b p - 8 := w64 (by omega) (by omega)
  rw [w1, cf (by omega), cf (by omega), w64 (n := (p : Int) + (pg b p - 8)) (by omega) (by omega)]
  by_cases c2 : (p : Int) + (pg b p - 8) > (b.2.1.length : Int)
  · rw [ct c2, tf_f (p := WideP b p) (fun h => by have := h.2.2.1; unfold np at this; omega)]
  rw [cf c2, cndb]
  by_cases c3 : ow b (8 * p) = 0
  · rw [if_pos c3, tf_f (p := WideP b p) (fun h => h.2.2.2.1 c3)]
  rw [if_neg c3]
  by_cases c4 : FreeP b p 1
  rotate_left
  · rw [tf_f c4, tf_f (p := WideP b p) (fun h => c4 h.2.2.2.2.1)]; rfl
  rw [tf_t c4, Bool.not_true, cond_false]
  have := loop_all (pg b p - 8).toNat 0 (fun k i => spec_l3Wide.l0 N k p (pg b p - 8) i b) (fun i => decide (pg b (p + i) = 7)) true
    (fun k hk => by
      obtain ⟨k, rfl⟩ := fuel hk
      simp (disch := omega) only [spec_l3Wide.l0, cf])
    (fun k i hi2 => by
      have e3 : ((p : Int) + (i : Int)).toNat = p + i := by omega
      simp (disch := omega) only [spec_l3Wide.l0, ct, w64, bnd, e3, fold_pg, cndn, cnd])
    ((pg b p - 8).toNat - 1) 1 N (by omega) (by omega)
  rw [show ((1 : Nat) : Int) = 1 from rfl] at this
  rw [this, Bool.and_true]
  congr 2
  refine tf_eq ?_
  rw [allB_iff]
  constructor
  · intro h
    exact ⟨c.1, c.2, by unfold np; omega, c3, c4, fun i h1 h2 => of_decide_eq_true (h i h1 (by omega))⟩
  · intro h j h1 h2
    exact dt (h.2.2.2.2.2 j h1 (by omega))
theorem spec_l3Page_eq (N : Nat) (hN : Fuel N) (b : Bk) (hi : Bi b) (hs : Sizes b) (ho : Owners b) (hb : Bshort b) (p : Nat) (hp : p < np b) : spec_l3Page N b p = some (tf (PageP b p), ()) := by
  have hp' := hp
  unfold np at hp'
  have e := spec_l3Free_eq N hN b hs ho p 0 hp (by omega)
  rw [show ((0 : Nat) : Int) = 0 from rfl] at e
  simp (disch := omega) only [spec_l3Page, bnd, Int.toNat_natCast, fold_pg, spec_l3Kind_eq, Option.bind_some, cndb, e]
  unfold PageP
  by_cases c0 : pg b p = 0
  · rw [if_pos c0]
    congr 2
    exact tf_congr ⟨fun h => ⟨fun _ => h, fun h => by omega, fun h => by omega, fun h => (h c0).elim⟩, fun h => h.1 c0⟩
  rw [if_neg c0]
  by_cases c1 : 1 ≤ pg b p ∧ pg b p ≤ 4
  · have ek : pg b p - 1 = ((pg b p - 1).toNat : Int) := by omega
    simp only [if_pos c1]
    rw [ct (by omega), ek, spec_l3Rooms_eq N hN b hs ho hb p _ hp (by omega)]
    simp only [Option.bind_some]
    congr 2
    exact tf_congr ⟨fun h => ⟨fun h => by omega, fun _ => h, fun h => by omega, fun _ h => (h c1).elim⟩, fun h => h.2.1 c1⟩
  simp only [if_neg c1]
  rw [cf (by omega)]
  by_cases c2 : pg b p = 7
  · rw [if_pos c2, spec_l3Rest_eq N hN b hi hs ho p hp]
    simp only [Option.bind_some]
    congr 2
    exact tf_congr ⟨fun h => ⟨fun h => by omega, fun h => (c1 h).elim, fun _ => h, fun _ _ h => (h c2).elim⟩, fun h => h.2.2.1 c2⟩
  · rw [if_neg c2, spec_l3Wide_eq N hN b hi hs ho p hp]
    simp only [Option.bind_some]
    congr 2
    exact tf_congr ⟨fun h => ⟨fun h => by omega, fun h => (c1 h).elim, fun h => (c2 h).elim, fun _ _ _ => h⟩, fun h => h.2.2.2 c0 c1 c2⟩
/-- The book is valid. -/
def BookP (b : Bk) : Prop := slotsB b = true ∧ listsB b = true ∧ ∀ p, p < np b → PageP b p
theorem slotsB_sizes {b : Bk} (h : slotsB b = true) : Sizes b := by
  rw [slotsB, Bool.and_eq_true] at h
  exact of_decide_eq_true h.1
theorem slotsB_owners {b : Bk} (h : slotsB b = true) : Owners b := by
  rw [slotsB, Bool.and_eq_true, Bool.and_eq_true] at h
  intro u hu
  have := (allB_iff _ _ _).1 h.2.2 u (by omega) (by omega)
  exact (of_decide_eq_true this).1
noncomputable def bookOk (b : Bk) : Bool := tf (BookP b)
theorem spec_BookOk_eq (N : Nat) (hN : Fuel N) (b : Bk) (hi : Bi b) (hb : Bshort b) : spec_BookOk N b = some (bookOk b, ()) := by
  unfold spec_BookOk bookOk BookP
  rw [spec_l3Slots_eq N hN b]
  simp only [Option.bind_some]
  cases h1 : slotsB b
  · rw [tf_f (fun h => by cases h.1)]; rfl
  have hs := slotsB_sizes h1
  have ho := slotsB_owners h1
  rw [spec_l3Lists_eq N hN b hs hb]
  simp only [Option.bind_some, Bool.not_true, cond_false]
  cases h2 : listsB b
  · rw [tf_f (fun h => by cases h.2.1)]; rfl
  have hs' := hs
  unfold Sizes np nu at hs'
  have := loop_all (np b) 0 (fun k i => spec_BookOk.l0 N k i b) (fun p => tf (PageP b p)) true
    (fun k hk => by
      obtain ⟨k, rfl⟩ := fuel hk
      unfold np
      simp (disch := omega) only [spec_BookOk.l0, cf])
    (fun k i hi2 => by
      have hi3 := hi2
      unfold np at hi3
      rw [spec_BookOk.l0, ct (by omega), spec_l3Page_eq N hN b hi hs ho hb i hi2, w64 (by omega) (by omega)]
      simp only [Option.bind_some]
      cases tf (PageP b i) <;> rfl)
    (np b) 0 N (by omega) (by unfold np; omega)
  rw [show ((0 : Nat) : Int) = 0 from rfl] at this
  rw [Bool.not_true, cond_false, this, Bool.and_true]
  congr 2
  refine tf_eq ?_
  rw [allB_iff]
  exact ⟨fun h => ⟨by trivial, by trivial, fun p hp => tf_iff.1 (h p (by omega) (by omega))⟩, fun h j _ hj => tf_iff.2 (h.2.2 j (by omega))⟩
theorem impl_isSlotB_eq (N : Nat) (b : Bk) (h1 : 1 ≤ b.1) (h2 : b.1 ≤ 4) (s : Int) : impl_Book_isSlot N b s = some (decide (0 ≤ s ∧ s < b.1), ()) := by
  simp (disch := omega) only [impl_Book_isSlot, impl_within_eq, w64, Option.bind_some]
  congr 2
  exact decide_eq_decide.2 (by omega)
theorem impl_isIn_eq (N : Nat) (b : Bk) (hs : Sizes b) (s : Int) : impl_Book_isIn N b s = some (decide (0 ≤ s ∧ s < b.1 ∧ inn b s.toNat ≠ 0), ()) := by
  unfold Sizes at hs
  simp only [impl_Book_isIn, impl_isSlotB_eq N b hs.1 hs.2.1, Option.bind_some]
  by_cases c : 0 ≤ s ∧ s < b.1
  · rw [dt c, cond_true, bnd (by omega) (by omega), fold_in]
    congr 2
    by_cases e : inn b s.toNat = 0
    · rw [bne_eq_false_iff_eq.2 e, df (fun h => h.2.2 e)]
    · rw [bne_iff_ne.2 e, dt ⟨c.1, c.2, e⟩]
  · rw [df c, cond_false, df (fun h => c ⟨h.1, h.2.1⟩)]
theorem impl_lists_step (N : Nat) (b : Bk) (hi : Bi b) (hs : Sizes b) (kk : Nat) (hkk : kk < 4) (l : List Int) (j k : Nat) (hj : j < l.length) (hll : l.length ≤ 4194304) (x : Int) (hx : l.getD j 0 = x) (hd4 : List Int × List Int × List Int × List Int) :
    impl_Book_shapeOk.l3 N (k + 1) kk hd4 kk l l.length j b = cond (memB b kk x) (impl_Book_shapeOk.l3 N k kk hd4 kk l l.length ((j : Int) + 1) b) (some (false, ())) := by
  unfold Sizes np nu at hs
  simp (disch := omega) only [impl_Book_shapeOk.l3, ct, bnd, Int.toNat_natCast, hx, impl_within_eq, Option.bind_some, impl_unitsOf_eq N hkk, w64]
  rw [memB, cnd (p := _ ∧ _)]
  unfold nu
  by_cases c1 : 0 ≤ x ∧ x < (b.2.2.2.1.length : Int)
  rotate_left
  · rw [if_neg (fun h => c1 ⟨h.1, h.2.1⟩), df (by omega)]; rfl
  have hu : (usz kk : Int) ≠ 0 := by rcases usz_vals hkk with ⟨hu, hk⟩ | ⟨hu, hk⟩ | ⟨hu, hk⟩ | ⟨hu, hk⟩ <;> omega
  rw [dt (by omega), Bool.not_true, cond_false, cf hu, tm (by omega), cndn]
  by_cases c3 : x % (usz kk : Int) = 0
  · rw [if_pos c3]
    simp (disch := omega) only [td, w64, bnd, fold_pg, cndn]
    by_cases c2 : pg b (x / 8).toNat = (kk : Int) + 1
    · rw [if_pos c2, if_pos ⟨c1.1, c1.2, c2, c3⟩]
    · rw [if_neg c2, if_neg (fun h => c2 h.2.2.1)]
  · rw [if_neg c3, if_neg (fun h => c3 h.2.2.2)]
theorem impl_shapeOk_eq (N : Nat) (hN : Fuel N) (b : Bk) (hi : Bi b) (hb : Bshort b) : impl_Book_shapeOk N b = some (slotsB b && listsB b, ()) := by
  by_cases hs : Sizes b
  rotate_left
  · rw [slotsB, df hs, Bool.false_and, Bool.false_and]
    have hp := hb.1
    unfold Short at hp
    unfold Sizes np nu at hs
    simp (disch := omega) only [impl_Book_shapeOk, impl_within_eq, Option.bind_some, w64, cndn]
    by_cases c1 : 1 ≤ b.1 ∧ b.1 ≤ 4
    rotate_left
    · rw [df c1]; rfl
    rw [dt c1, Bool.not_true, cond_false]
    by_cases c2 : 1 ≤ (b.2.1.length : Int) ∧ (b.2.1.length : Int) ≤ 6
    rotate_left
    · rw [df c2]; rfl
    rw [dt c2, Bool.not_true, cond_false]
    repeat' split
    all_goals first | rfl | (exfalso; omega)
  have hs' := hs
  unfold Sizes np nu at hs'
  rw [slotsB, dt hs, Bool.true_and]
  have lists : ∀ (d kk : Nat), kk + d = 4 → ∀ k, 40000000 * d < k → impl_Book_shapeOk.l2 N k b.2.2.1 kk b = some (allB (listB b) d kk, ()) := by
    intro d
    induction d with
    | zero =>
      intro kk h k hk
      obtain ⟨k, rfl⟩ := fuel hk
      simp (disch := omega) only [impl_Book_shapeOk.l2, cf, allB]
    | succ d ih =>
      intro kk h k hk
      have hkk : kk < 4 := by omega
      have hl := hb.2.1 kk
      unfold Short at hl
      obtain ⟨k, rfl⟩ : ∃ j, k = j + (hd b kk).length * 1 + 1 + 1 := ⟨k - (hd b kk).length - 2, by omega⟩
      have := loop_allk 1 (by decide) (some (false, ())) (hd b kk).length (fun k i => impl_Book_shapeOk.l3 N k kk b.2.2.1 kk (hd b kk) (hd b kk).length i b) (fun j => memB b kk ((hd b kk).getD j 0)) (fun k => impl_Book_shapeOk.l2 N k b.2.2.1 ((kk : Int) + 1) b)
        (fun k => by simp (disch := omega) only [impl_Book_shapeOk.l3, cf, w64])
        (fun k i hi2 => impl_lists_step N b hi hs kk hkk (hd b kk) i k hi2 hl _ rfl b.2.2.1)
        (hd b kk).length 0 k (by omega)
      rw [allB_list _ _ _ _ (by omega), List.drop_zero, show (kk : Int) + 1 = ((kk + 1 : Nat) : Int) by omega, ih (kk + 1) (by omega) k (by omega)] at this
      have goal : impl_Book_shapeOk.l2 N (k + (hd b kk).length * 1 + 1 + 1) b.2.2.1 kk b = cond (decide (((hd b kk).length : Int) > (b.2.2.2.1.length : Int))) (some (false, ())) (impl_Book_shapeOk.l3 N (k + (hd b kk).length * 1 + 1) kk b.2.2.1 kk (hd b kk) (hd b kk).length 0 b) := by
        rcases usz_vals hkk with ⟨hu, hk⟩ | ⟨hu, hk⟩ | ⟨hu, hk⟩ | ⟨hu, hk⟩ <;> subst hk <;>
          simp (disch := omega) only [impl_Book_shapeOk.l2, ct, cf, hd]
      have t0 : ((0 : Nat) : Int) = 0 := rfl
      rw [t0] at this
      rw [goal, this, allB, listB, cnd]
      unfold nu
      by_cases c : ((hd b kk).length : Int) > (b.2.2.2.1.length : Int)
      · rw [if_pos c, df (by omega)]; rfl
      · rw [if_neg c, dt (by omega), Bool.true_and]
        cases (hd b kk).all (memB b kk) <;> rfl
  have l1 := loop_all (nu b) 200000000 (fun k i => impl_Book_shapeOk.l1 N k b.2.2.2.1 b.2.2.2.1.length i b) (ownB b) (listsB b)
    (fun k hk => by
      obtain ⟨k, rfl⟩ := fuel hk
      have := lists 4 0 rfl k (by omega)
      rw [show ((0 : Nat) : Int) = 0 from rfl] at this
      unfold nu
      rw [impl_Book_shapeOk.l1, cf (by omega), this, listsB])
    (fun k i hi2 => by
      have hi' : i < b.2.2.2.1.length := hi2
      have hr := hi.2.2.2.1.at i
      rw [fold_ow] at hr
      obtain ⟨r1, r2⟩ := hr
      simp (disch := omega) only [impl_Book_shapeOk.l1, ct, bnd, w64 (n := (i : Int) + 1), Int.toNat_natCast, fold_ow, impl_isIn_eq N b hs, Option.bind_some, cndn]
      rw [ownB, cnd (p := _ ∧ _)]
      by_cases c : ow b i = 0
      · rw [if_pos c, if_pos ⟨by omega, by omega, fun h => by omega⟩]
      rw [if_neg c]
      by_cases c2 : 0 ≤ ow b i ∧ ow b i ≤ b.1
      · rw [w64 (by omega) (by omega)]
        by_cases c3 : inn b (ow b i - 1).toNat = 0
        · rw [df (fun h => h.2.2 c3), if_neg (fun h => h.2.2 (by omega) c3)]; rfl
        · rw [dt ⟨by omega, by omega, c3⟩, if_pos ⟨c2.1, c2.2, fun _ => c3⟩]; rfl
      · rw [if_neg (fun h => c2 ⟨h.1, h.2.1⟩), df]
        · rfl
        · intro h
          have h1 := h.1
          have h2 := h.2.1
          rw [IntKind.wrap_i64] at h1 h2
          omega)
  have l0 := loop_all b.1.toNat 200001000 (fun k i => impl_Book_shapeOk.l0 N k b.2.2.2.2.1 b.2.2.2.2.1.length i b) (slotB b) (allB (ownB b) (nu b) 0 && listsB b)
    (fun k hk => by
      obtain ⟨k, rfl⟩ : ∃ j, k = j + 1 := ⟨k - 1, by omega⟩
      have := l1 (nu b) 0 k (by omega) (by unfold nu; omega)
      rw [show ((0 : Nat) : Int) = 0 from rfl] at this
      rw [impl_Book_shapeOk.l0, cf (by omega), this])
    (fun k i hi => by
      simp (disch := omega) only [impl_Book_shapeOk.l0, ct, bnd, w64, Int.toNat_natCast, fold_in, fold_ep, impl_within_eq, Option.bind_some, cndn, cndb]
      rw [slotB, cnd (p := _ ∧ _)]
      by_cases c1 : 0 ≤ inn b i ∧ inn b i ≤ 2
      rotate_left
      · rw [df c1, if_neg (c := _ ∧ _) (fun h => c1 ⟨h.1, h.2.1⟩)]; rfl
      rw [dt c1, Bool.not_true, cond_false]
      by_cases c2 : 0 ≤ ep b i ∧ ep b i ≤ 4095
      rotate_left
      · rw [df c2, if_neg (c := _ ∧ _) (fun h => c2 ⟨h.2.2.1, h.2.2.2.1⟩)]; rfl
      rw [dt c2, Bool.not_true, cond_false]
      by_cases c3 : inn b i = 0
      · rw [if_pos c3, if_pos ⟨c1.1, c1.2, c2.1, c2.2, fun _ => c3⟩]
      rw [if_neg c3]
      by_cases c4 : ep b i = 0
      · rw [if_pos c4, if_neg (fun h => c3 (h.2.2.2.2 c4))]
      · rw [if_neg c4, if_pos ⟨c1.1, c1.2, c2.1, c2.2, fun h => (c4 h).elim⟩])
  have := l0 b.1.toNat 0 N (by omega) (by omega)
  rw [show ((0 : Nat) : Int) = 0 from rfl] at this
  simp (disch := omega) only [impl_Book_shapeOk, impl_within_eq, Option.bind_some, w64, cndn]
  rw [dt (by omega), Bool.not_true, cond_false, dt (by omega), Bool.not_true, cond_false, if_pos (by omega), if_pos (by omega), if_pos (by omega), this, Bool.and_assoc]
/-- n units from f on, and how many of some have an owner. -/
def seg (b : Bk) (f n : Nat) : List Int := (b.2.2.2.1.take (f + n)).drop f
def nz (l : List Int) : Nat := l.countP fun x => x != 0
theorem seg_len (b : Bk) (f n : Nat) (h : f + n ≤ nu b) : (seg b f n).length = n := by
  unfold nu at h
  simp only [seg, List.length_drop, List.length_take]; omega
theorem seg_get (b : Bk) (f n j : Nat) (h : f + n ≤ nu b) (hj : j < n) : (seg b f n).getD j 0 = ow b (f + j) := by
  unfold nu at h
  simp only [seg, ow, List.getD_eq_getElem?_getD, List.getElem?_drop, List.getElem?_take]
  rw [if_pos (by omega)]
theorem nz_zero : ∀ (l : List Int), nz l = 0 ↔ ∀ j, j < l.length → l.getD j 0 = 0
  | [] => by simp [nz]
  | x :: r => by
    have ih := nz_zero r
    unfold nz at ih ⊢
    rw [List.countP_cons]
    constructor
    · intro h j hj
      have h1 : List.countP (fun x => x != 0) r = 0 := by omega
      cases j with
      | zero =>
        by_cases c : x = 0
        · simpa using c
        · have : (x != 0) = true := bne_iff_ne.2 c
          rw [this] at h
          simp at h
      | succ j =>
        simp only [List.getD_cons_succ]
        exact ih.1 h1 j (by simpa using hj)
    · intro h
      have h0 : x = 0 := by simpa using h 0 (by simp)
      have h1 := ih.2 (fun j hj => by have := h (j + 1) (by simpa using hj); simpa using this)
      rw [h1, h0]; simp
theorem nz_seg (b : Bk) (f n : Nat) (h : f + n ≤ nu b) : nz (seg b f n) = 0 ↔ ∀ j, j < n → ow b (f + j) = 0 := by
  rw [nz_zero, seg_len b f n h]
  constructor
  · intro g j hj; rw [← seg_get b f n j h hj]; exact g j hj
  · intro g j hj; rw [seg_get b f n j h hj]; exact g j hj
theorem nz_cons (b : Bk) (f n : Nat) (h : f + (n + 1) ≤ nu b) (h0 : ow b f ≠ 0) : nz (seg b f (n + 1)) = nz (seg b (f + 1) n) + 1 := by
  have hl := seg_len b f (n + 1) h
  have e : seg b f (n + 1) = ow b f :: seg b (f + 1) n := by
    have := drop_at (l := seg b f (n + 1)) (i := 0) 0 (by omega)
    rw [List.drop_zero, seg_get b f (n + 1) 0 h (by omega)] at this
    rw [this]
    simp only [Nat.add_zero, seg, List.drop_drop, Nat.zero_add]
    rw [show f + (n + 1) = f + 1 + n by omega]
  rw [e, nz, List.countP_cons, bne_iff_ne.2 h0, if_pos rfl]
  rfl
theorem impl_owned_eq (N : Nat) (hN : Fuel N) (b : Bk) (hb : Bshort b) (f n : Nat) (h : f + n ≤ nu b) : impl_Book_owned N b f ((f + n : Nat) : Int) = some ((nz (seg b f n) : Int), ()) := by
  have hl := seg_len b f n h
  have hsh := hb.2.2.1
  unfold Short at hsh
  have h' := h
  unfold nu at h'
  have main := loop_list 0 (seg b f n) (fun k i a => impl_Book_owned.l0 N k a (seg b f n) (seg b f n).length i) (fun r a => some (a + (nz r : Int), ())) (fun i a => 0 ≤ a ∧ a ≤ i)
    (fun k a g => by
      simp (disch := omega) only [impl_Book_owned.l0, cf, nz, List.countP_nil]
      simp)
    (fun k i a x r hi hx g ih => by
      simp (disch := omega) only [impl_Book_owned.l0, ct, bnd, w64, Int.toNat_natCast, hx, cndn]
      unfold nz
      rw [List.countP_cons]
      by_cases c : x = 0
      · rw [if_pos c, bne_eq_false_iff_eq.2 c, if_neg (by decide), ih a (by omega)]
        rfl
      · rw [if_neg c, bne_iff_ne.2 c, if_pos rfl, ih (a + 1) (by omega)]
        congr 2
        unfold nz
        omega)
    N (by omega) 0 (by omega)
  unfold impl_Book_owned
  rw [dt (by omega), dt (by omega), dt (by omega), dt (by omega), Int.toNat_natCast, Int.toNat_natCast]
  simp only [cond_true]
  rw [Int.zero_add] at main
  exact main
theorem loop_count {R : Type _} (l : List Int) (x : Int) (L : Nat → Int → Int → R) (E : Nat → Int → R) (hend : ∀ k a, L (k + 1) l.length a = E k a)
    (hstep : ∀ k (j : Nat) (a : Int), j < l.length → 0 ≤ a → a ≤ j → L (k + 1) (j : Int) a = L k ((j : Int) + 1) (if l.getD j 0 = x then a + 1 else a)) :
    ∀ d j k a, j + d = l.length → 0 ≤ a → a ≤ (j : Int) → L (k + d + 1) (j : Int) a = E k (a + ((l.drop j).count x : Int)) := by
  intro d
  induction d with
  | zero =>
    intro j k a h h1 h2
    obtain rfl : j = l.length := by omega
    rw [List.drop_length, List.count_nil, Nat.add_zero, hend k a]
    congr 1
    omega
  | succ d ih =>
    intro j k a h h1 h2
    rw [show k + (d + 1) + 1 = (k + d + 1) + 1 by omega, hstep _ j a (by omega) h1 h2, count_drop l x j (by omega)]
    have := ih (j + 1) k (if l.getD j 0 = x then a + 1 else a) (by omega) (by split <;> omega) (by split <;> omega)
    rw [Int.natCast_add] at this
    rw [show ((j : Int) + 1) = (j : Int) + ((1 : Nat) : Int) by omega, this]
    congr 1
    split <;> omega
theorem lists_mem {b : Bk} (h : listsB b = true) {k : Nat} (hk : k < 4) {x : Int} (hx : x ∈ hd b k) : memB b k x = true := by
  have := (allB_iff _ _ _).1 h k (by omega) (by omega)
  rw [listB, Bool.and_eq_true, List.all_eq_true] at this
  exact this.2 x hx
theorem lists_first {b : Bk} (h : listsB b = true) {k : Nat} (hk : k < 4) {u : Nat} (hu : u % usz k ≠ 0) : (hd b k).count ((u : Nat) : Int) = 0 := by
  rw [List.count_eq_zero]
  intro hm
  have := lists_mem h hk hm
  have := (of_decide_eq_true this).2.2.2
  omega
theorem impl_kindOk_eq (N : Nat) (hN : Fuel N) (b : Bk) (hs : Sizes b) (ho : Owners b) (hl : listsB b = true) (hb : Bshort b) (p : Nat) (hp : p < np b) (hk : 1 ≤ pg b p ∧ pg b p ≤ 4) : impl_Book_kindOk N b p = some (tf (RoomsP b p (pg b p - 1).toNat), ()) := by
  have hs' := hs
  unfold Sizes np nu at hs'
  have hp' := hp
  unfold np at hp'
  generalize hkk : (pg b p - 1).toNat = kk
  have hkk4 : kk < 4 := by omega
  have hpk : pg b p - 1 = (kk : Int) := by omega
  have hsh := hb.2.1 kk
  unfold Short at hsh
  have hown := impl_owned_eq N hN b hb (8 * p) 8 (by unfold nu; omega)
  have step : ∀ (k i : Nat), i < 8 → impl_Book_kindOk.l0 N (k + ((hd b kk).length + 2)) kk ((8 * p : Nat) : Int) (((8 * p : Nat) : Int) + (i : Int)) b = cond (roomB b p kk i) (impl_Book_kindOk.l0 N k kk ((8 * p : Nat) : Int) (((8 * p : Nat) : Int) + ((i : Int) + 1)) b) (some (false, ())) := by
    intro k i hi
    have hown := ho (8 * p + i) (by unfold nu; omega)
    have e1 : ((8 * p : Nat) : Int) + (i : Int) = ((8 * p + i : Nat) : Int) := by omega
    have e2 : ((8 * p : Nat) : Int) + ((i : Int) + 1) = ((8 * p + i : Nat) : Int) + 1 := by omega
    rw [e1, e2]
    have hc := loop_count (hd b kk) ((8 * p + i : Nat) : Int) (fun k j a => impl_Book_kindOk.l1 N k kk ((8 * p : Nat) : Int) ((8 * p + i : Nat) : Int) a (hd b kk) (hd b kk).length j b)
      (fun k a => impl_Book_kindOk.l1 N (k + 1) kk ((8 * p : Nat) : Int) ((8 * p + i : Nat) : Int) a (hd b kk) (hd b kk).length (hd b kk).length b) (fun _ _ => rfl)
      (fun k j a hj h1 h2 => by
        simp (disch := omega) only [impl_Book_kindOk.l1, ct, bnd, w64, Int.toNat_natCast, cndb]
        split <;> rfl)
      (hd b kk).length 0 k 0 (by omega) (by omega) (by omega)
    rw [List.drop_zero, Int.zero_add] at hc
    have enter : impl_Book_kindOk.l0 N (k + ((hd b kk).length + 2)) kk ((8 * p : Nat) : Int) ((8 * p + i : Nat) : Int) b = impl_Book_kindOk.l1 N (k + (hd b kk).length + 1) kk ((8 * p : Nat) : Int) ((8 * p + i : Nat) : Int) 0 (hd b kk) (hd b kk).length 0 b := by
      rw [show k + ((hd b kk).length + 2) = k + (hd b kk).length + 1 + 1 by omega, impl_Book_kindOk.l0, w64 (n := ((8 * p : Nat) : Int) + 8) (by omega) (by omega), ct (by omega)]
      rcases usz_vals hkk4 with ⟨hu, hk⟩ | ⟨hu, hk⟩ | ⟨hu, hk⟩ | ⟨hu, hk⟩ <;> subst hk <;>
        simp (disch := omega) only [ct, cf, hd]
    rw [enter]
    rw [show ((0 : Nat) : Int) = 0 from rfl] at hc
    rw [hc]
    generalize hcc : (hd b kk).count ((8 * p + i : Nat) : Int) = c
    have hu0 : (usz kk : Int) ≠ 0 := by rcases usz_vals hkk4 with ⟨hu, hk⟩ | ⟨hu, hk⟩ | ⟨hu, hk⟩ | ⟨hu, hk⟩ <;> omega
    have hmod : ((8 * p + i : Nat) : Int) % (usz kk : Int) = ((i % usz kk : Nat) : Int) := by rw [← usz_dvd hkk4 p i]; omega
    simp (disch := omega) only [impl_Book_kindOk.l1, cf, impl_unitsOf_eq N hkk4, Option.bind_some, tm, hmod, bnd, Int.toNat_natCast, fold_ow, w64]
    have hroom : roomB b p kk i = tf ((i % usz kk ≠ 0 → ow b (8 * p + i) = 0 ∧ c = 0) ∧ (i % usz kk = 0 → 0 < ow b (8 * p + i) ∧ c = 0 ∨ ow b (8 * p + i) = 0 ∧ c = 1)) := by
      unfold roomB RoomP
      rw [hcc]
    rw [hroom]
    by_cases c1 : i % usz kk = 0
    · have t1 : (((i % usz kk : Nat) : Int) == 0) = true := beq_iff_eq.2 (by omega)
      rw [t1, cond_true, Bool.not_true, cond_false]
      by_cases c2 : ow b (8 * p + i) = 0
      · rw [bne_eq_false_iff_eq.2 c2]
        by_cases c3 : c = 1
        · rw [tf_t ⟨fun h => (h c1).elim, fun _ => .inr ⟨c2, c3⟩⟩, dt (p := (c : Int) > 0) (by omega), cf (by omega)]; rfl
        · rw [tf_f (fun h => by have := h.2 c1; omega)]
          by_cases c4 : (c : Int) > 0
          · rw [dt c4, ct (by omega)]; rfl
          · rw [df c4]; rfl
      · rw [bne_iff_ne.2 c2]
        by_cases c3 : c = 0
        · rw [tf_t ⟨fun h => (h c1).elim, fun _ => .inl ⟨by omega, c3⟩⟩, df (p := (c : Int) > 0) (by omega), cf (by omega)]; rfl
        · rw [tf_f (fun h => by have := h.2 c1; omega), dt (p := (c : Int) > 0) (by omega)]; rfl
    · have t1 : (((i % usz kk : Nat) : Int) == 0) = false := beq_eq_false_iff_ne.2 (by omega)
      have hc0 : c = 0 := by rw [← hcc]; exact lists_first hl hkk4 (by rw [usz_dvd hkk4]; exact c1)
      rw [t1, cond_false, Bool.not_false, cond_true, cf (by omega), cndn]
      by_cases c2 : ow b (8 * p + i) = 0
      · rw [if_pos c2, tf_t ⟨fun _ => ⟨c2, hc0⟩, fun h => (c1 h).elim⟩]; rfl
      · rw [if_neg c2, tf_f (fun h => c2 (h.1 c1).1)]; rfl
  have := loop_allk ((hd b kk).length + 2) (by omega) (some (false, ())) 8 (fun k i => impl_Book_kindOk.l0 N k kk ((8 * p : Nat) : Int) (((8 * p : Nat) : Int) + i) b) (roomB b p kk)
    (fun k => some (decide ((nz (seg b (8 * p) 8) : Int) > 0), ()))
    (fun k => by
      rw [impl_Book_kindOk.l0, w64 (by omega) (by omega), cf (by omega), show ((8 * p : Nat) : Int) + 8 = ((8 * p + 8 : Nat) : Int) by omega, hown]
      rfl)
    step 8 0 (N - 8 * ((hd b kk).length + 2) - 1) (by omega)
  rw [show N - 8 * ((hd b kk).length + 2) - 1 + 8 * ((hd b kk).length + 2) + 1 = N by omega, show ((0 : Nat) : Int) = 0 from rfl, Int.add_zero] at this
  have e8 : (p : Int) * 8 = ((8 * p : Nat) : Int) := by omega
  simp (disch := omega) only [impl_Book_kindOk, bnd, Int.toNat_natCast, fold_pg, hpk, w64, e8, this]
  have hz := nz_seg b (8 * p) 8 (by unfold nu; omega)
  unfold RoomsP
  by_cases c1 : allB (roomB b p kk) 8 0 = true
  · rw [c1, cond_true]
    congr 2
    rw [allB_iff] at c1
    refine tf_eq ?_
    rw [decide_eq_true_iff]
    constructor
    · intro h
      refine ⟨fun u hu => tf_iff.1 (c1 u (by omega) (by omega)), Classical.byContradiction fun g => ?_⟩
      have : nz (seg b (8 * p) 8) = 0 := hz.2 (fun j hj => by
        have h1 := ho (8 * p + j) (by unfold nu; omega)
        by_cases h2 : ow b (8 * p + j) = 0
        · exact h2
        · exact (g ⟨j, hj, by omega⟩).elim)
      omega
    · intro ⟨_, u, h1, h2⟩
      by_cases g : nz (seg b (8 * p) 8) = 0
      · have := hz.1 g u h1
        omega
      · omega
  · rw [tf_f]
    · cases h : allB (roomB b p kk) 8 0
      · rfl
      · exact (c1 h).elim
    · intro h
      exact c1 ((allB_iff _ _ _).2 fun j _ hj => tf_iff.2 (h.1 j (by omega)))
/-- The page at which a walk stands is no further page of a room before it. -/
def Apart (b : Bk) (p : Nat) : Prop := ∀ q, p = q + 1 → ¬ (pg b (back b q) > 8 ∧ (back b q : Int) + pg b (back b q) - 8 > p)
theorem back_self {b : Bk} {p : Nat} (h : pg b p ≠ 7) : back b p = p := by
  cases p with
  | zero => rfl
  | succ p => rw [back, if_neg h]
theorem back_run {b : Bk} {p : Nat} (h : pg b p ≠ 7) : ∀ i, (∀ j, 1 ≤ j → j ≤ i → pg b (p + j) = 7) → back b (p + i) = p
  | 0, _ => back_self h
  | i + 1, g => by
    rw [show p + (i + 1) = (p + i) + 1 by omega, back, if_pos (by have := g (i + 1) (by omega) (Nat.le_refl _); rwa [show p + (i + 1) = (p + i) + 1 by omega] at this)]
    exact back_run h i (fun j h1 h2 => g j h1 (by omega))
theorem apart_next {b : Bk} {p : Nat} (h : pg b p ≤ 8) (h7 : pg b p ≠ 7) : Apart b (p + 1) := by
  intro q hq
  obtain rfl : p = q := by omega
  rw [back_self h7]
  omega
theorem rest_not {b : Bk} {p : Nat} (h : Apart b p) (h7 : pg b p = 7) : ¬ RestP b p := by
  intro ⟨h1, h2, _⟩
  cases p with
  | zero => rw [back] at h1; omega
  | succ q =>
    rw [back, if_pos h7] at h1 h2
    exact h q rfl ⟨h1, h2⟩
/-- All pages from one on are right. -/
def From (b : Bk) (p : Nat) : Prop := ∀ q, p ≤ q → q < np b → PageP b q
theorem from_step {b : Bk} {p : Nat} (hp : p < np b) : From b p ↔ PageP b p ∧ From b (p + 1) :=
  ⟨fun h => ⟨h p (Nat.le_refl _) hp, fun q h1 h2 => h q (by omega) h2⟩, fun ⟨h1, h2⟩ q g1 g2 => by
    by_cases e : q = p
    · subst e; exact h1
    · exact h2 q (by omega) g2⟩
theorem from_end {b : Bk} {p : Nat} (hp : np b ≤ p) : From b p := fun q h1 h2 => by omega
theorem page_wide {b : Bk} {p : Nat} (h0 : pg b p ≠ 0) (h1 : ¬ (1 ≤ pg b p ∧ pg b p ≤ 4)) (h7 : pg b p ≠ 7) : PageP b p ↔ WideP b p :=
  ⟨fun h => h.2.2.2 h0 h1 h7, fun h => ⟨fun g => (h0 g).elim, fun g => (h1 g).elim, fun g => (h7 g).elim, fun _ _ _ => h⟩⟩
/-- The pages that follow in a room of whole pages are right if they have no owners. -/
theorem page_rest {b : Bk} {p : Nat} (h7 : pg b p ≠ 7) (n : Nat) (hn : pg b p = 8 + n) (i : Nat) (h1 : 1 ≤ i) (h2 : i < n) (hr : ∀ j, 1 ≤ j → j < n → pg b (p + j) = 7) : PageP b (p + i) ↔ FreeP b (p + i) 0 := by
  have e7 := hr i h1 h2
  have eb := back_run h7 i (fun j g1 g2 => hr j g1 (by omega))
  constructor
  · intro h
    exact (h.2.2.1 e7).2.2
  · intro h
    refine ⟨fun g => by omega, fun g => by omega, fun _ => ⟨?_, ?_, h⟩, fun _ _ g => (g e7).elim⟩
    · rw [eb]; omega
    · rw [eb]; omega
theorem wide_split {b : Bk} {p : Nat} (n : Nat) (hp : p + n ≤ np b) (h0 : 2 ≤ n) (h4 : n ≤ 4) (hn : pg b p = 8 + n) (ho : ow b (8 * p) ≠ 0) (hr : ∀ j, 1 ≤ j → j < n → pg b (p + j) = 7) :
    From b p ↔ (∀ j, 1 ≤ j → j < 8 * n → ow b (8 * p + j) = 0) ∧ From b (p + n) := by
  have h7 : pg b p ≠ 7 := by omega
  have hw := page_wide (b := b) (p := p) (by omega) (by omega) h7
  constructor
  · intro h
    refine ⟨fun j h1 h2 => ?_, fun q g1 g2 => h q (by omega) g2⟩
    by_cases c : j < 8
    · exact (hw.1 (h p (Nat.le_refl _) (by omega))).2.2.2.2.1 j h1 c
    · have := (page_rest h7 n hn (j / 8) (by omega) (by omega) hr).1 (h (p + j / 8) (by omega) (by omega)) (j % 8) (by omega) (by omega)
      rw [show 8 * p + j = 8 * (p + j / 8) + j % 8 by omega]
      exact this
  · intro ⟨h1, h2⟩ q g1 g2
    by_cases e : q = p
    · subst e
      exact hw.2 ⟨by omega, by omega, by omega, ho, fun u a b => h1 u a (by omega), fun i a b => hr i a (by omega)⟩
    · by_cases c : q < p + n
      · obtain ⟨i, rfl⟩ : ∃ i, q = p + i := ⟨q - p, by omega⟩
        refine (page_rest h7 n hn i (by omega) (by omega) hr).2 fun u _ hu => ?_
        rw [show 8 * (p + i) + u = 8 * p + (8 * i + u) by omega]
        exact h1 _ (by omega) (by omega)
      · exact h2 q (by omega) g2
theorem impl_BookOk_walk (N : Nat) (hN : Fuel N) (b : Bk) (hi : Bi b) (hs : Sizes b) (ho : Owners b) (hl : listsB b = true) (hb : Bshort b) :
    ∀ (d p k : Nat), p + d = np b → 100 * d < k → Apart b p → impl_BookOk.l0 N k p b = some (tf (From b p), ()) := by
  have hs' := hs
  unfold Sizes at hs'
  intro d
  induction d using Nat.strongRecOn with
  | ind d ih =>
    intro p k hpd hk ha
    obtain ⟨k, rfl⟩ := fuel hk
    by_cases hp : p < np b
    rotate_left
    · unfold np at hp
      rw [impl_BookOk.l0, cf (by omega), tf_t (from_end (by unfold np; omega))]
    have hp' := hp
    unfold np at hp'
    have hr := hi.2.1.at p
    rw [fold_pg] at hr
    obtain ⟨r1, r2⟩ := hr
    have hnp : np b = b.2.1.length := rfl
    have hnu : nu b = b.2.2.2.1.length := rfl
    have e8 : (p : Int) * 8 = ((8 * p : Nat) : Int) := by omega
    have e88 : ((8 * p : Nat) : Int) + 8 = ((8 * p + 8 : Nat) : Int) := by omega
    have e1 : (p : Int) + 1 = ((p + 1 : Nat) : Int) := by omega
    have hown := impl_owned_eq N hN b hb (8 * p) 8 (by omega)
    rw [impl_BookOk.l0, ct (by omega), bnd (by omega) (by omega), Int.toNat_natCast, fold_pg, w64 (n := (p : Int) * 8) (by omega) (by omega), w64 (n := (p : Int) * 8 + 8) (by omega) (by omega), w64 (n := (p : Int) + 1) (by omega) (by omega), e8, e88, e1, hown]
    simp only [impl_isKind, impl_within_eq, Option.bind_some]
    rw [cndb]
    by_cases c0 : pg b p = 0
    · rw [if_pos c0, ih (d - 1) (by omega) (p + 1) k (by omega) (by omega) (apart_next (by omega) (by omega))]
      have hz := nz_seg b (8 * p) 8 (by omega)
      have hst := from_step hp
      have hpp : PageP b p ↔ FreeP b p 0 := ⟨fun h => h.1 c0, fun h => ⟨fun _ => h, fun g => by omega, fun g => by omega, fun g => (g c0).elim⟩⟩
      by_cases c : nz (seg b (8 * p) 8) = 0
      · rw [cf (by omega)]
        congr 2
        exact tf_congr ⟨fun h => hst.2 ⟨hpp.2 fun u _ hu => hz.1 c u hu, h⟩, fun h => (hst.1 h).2⟩
      · rw [ct (by omega), tf_f]
        intro h
        exact c (hz.2 fun j hj => hpp.1 (hst.1 h).1 j (by omega) hj)
    rw [if_neg c0]
    by_cases c1 : 1 ≤ pg b p ∧ pg b p ≤ 4
    · rw [dt c1, cond_true, impl_kindOk_eq N hN b hs ho hl hb p hp c1, ih (d - 1) (by omega) (p + 1) k (by omega) (by omega) (apart_next (by omega) (by omega))]
      have hst := from_step hp
      have hpp : PageP b p ↔ RoomsP b p (pg b p - 1).toNat := ⟨fun h => h.2.1 c1, fun h => ⟨fun g => by omega, fun _ => h, fun g => by omega, fun _ g => (g c1).elim⟩⟩
      simp only [Option.bind_some]
      by_cases c : RoomsP b p (pg b p - 1).toNat
      · rw [tf_t c, Bool.not_true, cond_false]
        congr 2
        exact tf_congr ⟨fun h => hst.2 ⟨hpp.2 c, h⟩, fun h => (hst.1 h).2⟩
      · rw [tf_f c, tf_f (fun h => c (hpp.1 (hst.1 h).1))]; rfl
    rw [df c1, cond_false]
    by_cases c2 : 10 ≤ pg b p ∧ pg b p ≤ 12
    rotate_left
    · have hnot : ¬ From b p := by
        intro h
        have hp1 := (from_step hp).1 h |>.1
        by_cases c7 : pg b p = 7
        · exact rest_not ha c7 (hp1.2.2.1 c7)
        · have := hp1.2.2.2 c0 c1 c7
          exact c2 ⟨this.1, this.2.1⟩
      rw [tf_f hnot, df]
      · rfl
      · rw [IntKind.wrap_i64]; omega
    obtain ⟨n, hn⟩ : ∃ n : Nat, pg b p = 8 + n := ⟨(pg b p - 8).toNat, by omega⟩
    have w1 : IntKind.i64.wrap (pg b p - 8) = (n : Int) := by rw [w64 (by omega) (by omega)]; omega
    have w2 : IntKind.i64.wrap ((b.2.1.length : Int) - (p : Int)) = (b.2.1.length : Int) - (p : Int) := w64 (by omega) (by omega)
    have w3 : IntKind.i64.wrap (((8 * p : Nat) : Int) + IntKind.i64.wrap ((n : Int) * 8)) = ((8 * p + 8 * n : Nat) : Int) := by rw [w64 (n := (n : Int) * 8) (by omega) (by omega), w64 (by omega) (by omega)]; omega
    have w4 : IntKind.i64.wrap ((n : Int) - 1) = (n : Int) - 1 := w64 (by omega) (by omega)
    rw [w1, w2, w3, w4, dt (by omega), Bool.not_true, cond_false]
    have h7 : pg b p ≠ 7 := by omega
    have hw := page_wide (b := b) (p := p) c0 c1 h7
    by_cases c3 : (n : Int) > (b.2.1.length : Int) - (p : Int)
    · rw [ct c3, tf_f]
      intro h
      have := (hw.1 ((from_step hp).1 h).1).2.2.1
      omega
    rw [cf c3, bnd (by omega) (by omega), Int.toNat_natCast, fold_ow, cndb]
    by_cases c4 : ow b (8 * p) = 0
    · rw [if_pos c4, tf_f]
      intro h
      exact (hw.1 ((from_step hp).1 h).1).2.2.2.1 c4
    have hown2 := impl_owned_eq N hN b hb (8 * p) (8 * n) (by omega)
    rw [if_neg c4, hown2]
    simp only [Option.bind_some]
    -- the walk over the further pages
    have follow : ∀ (e i k : Nat), i + e = n - 1 → e < k → impl_BookOk.l1 N k ((p + i : Nat) : Int) ((n : Int) - 1) (i : Int) b = cond (allB (fun j => decide (pg b (p + 1 + j) = 7)) e i) (impl_BookOk.l0 N (k - e - 1) ((p + n : Nat) : Int) b) (some (false, ())) := by
      intro e
      induction e with
      | zero =>
        intro i k h1 h2
        obtain ⟨k, rfl⟩ := fuel h2
        rw [impl_BookOk.l1, cf (by omega), allB, cond_true, w64 (by omega) (by omega)]
        rw [show ((p + i : Nat) : Int) + 1 = ((p + n : Nat) : Int) by omega]
        rfl
      | succ e ihe =>
        intro i k h1 h2
        obtain ⟨k, rfl⟩ := fuel h2
        have w5 : IntKind.i64.wrap (((p + i : Nat) : Int) + 1) = ((p + (i + 1) : Nat) : Int) := by rw [w64 (by omega) (by omega)]; omega
        have w6 : IntKind.i64.wrap ((i : Int) + 1) = ((i + 1 : Nat) : Int) := by rw [w64 (by omega) (by omega)]; omega
        rw [impl_BookOk.l1, ct (by omega), w5, w6, bnd (by omega) (by omega), Int.toNat_natCast, fold_pg, cndn, allB, show p + (i + 1) = p + 1 + i by omega]
        by_cases c : pg b (p + 1 + i) = 7
        · rw [if_pos c, dt c, Bool.true_and, show p + 1 + i = p + (i + 1) by omega, ihe (i + 1) k (by omega) (by omega), show k + 1 - (e + 1) - 1 = k - e - 1 by omega]
        · rw [if_neg c, df c]; rfl
    have hz := nz_seg b (8 * p + 1) (8 * n - 1) (by omega)
    have hcons := nz_cons b (8 * p) (8 * n - 1) (by omega) c4
    rw [show 8 * n - 1 + 1 = 8 * n by omega] at hcons
    by_cases c7 : allB (fun j => decide (pg b (p + 1 + j) = 7)) (n - 1) 0 = true
    · have hrun : ∀ j, 1 ≤ j → j < n → pg b (p + j) = 7 := by
        intro j h1 h2
        have := of_decide_eq_true ((allB_iff _ _ _).1 c7 (j - 1) (by omega) (by omega))
        rwa [show p + 1 + (j - 1) = p + j by omega] at this
      have hsplit := wide_split n (by omega) (by omega) (by omega) hn c4 hrun
      have hap : Apart b (p + n) := by
        intro q hq
        have eb := back_run h7 (n - 1) (fun j g1 g2 => hrun j g1 (by omega))
        rw [show p + (n - 1) = q by omega] at eb
        rw [eb]
        omega
      have hf := follow (n - 1) 0 k (by omega) (by omega)
      rw [c7, cond_true, ih (d - n) (by omega) (p + n) _ (by omega) (by omega) hap, Nat.add_zero, show ((0 : Nat) : Int) = 0 from rfl] at hf
      rw [hf]
      by_cases c : nz (seg b (8 * p) (8 * n)) = 1
      · rw [cndn, if_pos (by omega)]
        congr 2
        refine tf_congr ⟨fun h => hsplit.2 ⟨fun j g1 g2 => ?_, h⟩, fun h => (hsplit.1 h).2⟩
        have := hz.1 (by omega) (j - 1) (by omega)
        rwa [show 8 * p + 1 + (j - 1) = 8 * p + j by omega] at this
      · rw [cndn, if_neg (by omega), tf_f]
        intro h
        have : nz (seg b (8 * p + 1) (8 * n - 1)) = 0 := hz.2 fun j hj => by
          have := (hsplit.1 h).1 (j + 1) (by omega) (by omega)
          rwa [show 8 * p + 1 + j = 8 * p + (j + 1) by omega]
        omega
    · have hf := follow (n - 1) 0 k (by omega) (by omega)
      have c7' : allB (fun j => decide (pg b (p + 1 + j) = 7)) (n - 1) 0 = false := by
        cases h : allB (fun j => decide (pg b (p + 1 + j) = 7)) (n - 1) 0
        · rfl
        · exact (c7 h).elim
      rw [c7', cond_false, Nat.add_zero, show ((0 : Nat) : Int) = 0 from rfl] at hf
      rw [hf, tf_f]
      · cases ((nz (seg b (8 * p) (8 * n)) : Int) != 1) <;> rfl
      · intro h
        refine c7 ((allB_iff _ _ _).2 fun j h1 h2 => dt ?_)
        have := (hw.1 ((from_step hp).1 h).1).2.2.2.2.2 (j + 1) (by omega) (by omega)
        rwa [show p + (j + 1) = p + 1 + j by omega] at this
theorem impl_BookOk_eq (N : Nat) (hN : Fuel N) (b : Bk) (hi : Bi b) (hb : Bshort b) : impl_BookOk N b = some (bookOk b, ()) := by
  unfold impl_BookOk bookOk BookP
  rw [impl_shapeOk_eq N hN b hi hb]
  simp only [Option.bind_some]
  cases h1 : slotsB b
  · rw [tf_f (fun h => by cases h.1)]; rfl
  have hs := slotsB_sizes h1
  have ho := slotsB_owners h1
  cases h2 : listsB b
  · rw [tf_f (fun h => by cases h.2.1)]; rfl
  have hs' := hs
  unfold Sizes at hs'
  have := impl_BookOk_walk N hN b hi hs ho h2 hb (np b) 0 N (by omega) (by omega) (fun q h => by omega)
  rw [show ((0 : Nat) : Int) = 0 from rfl] at this
  rw [Bool.and_self, Bool.not_true, cond_false, this]
  congr 2
  exact tf_congr ⟨fun h => ⟨by trivial, by trivial, fun p hp => h p (by omega) hp⟩, fun h q _ hq => h.2.2 q hq⟩
abbrev H4 := List Int × List Int × List Int × List Int
theorem sz_bind (left n m : Int) (hn : 0 ≤ n) (hm : 0 ≤ m) (K : Int × Unit → Option (Int × Unit)) (hK : 0 ≤ left - n → K (left - n, ()) = some (rest (left - n) m, ())) :
    (some (rest left n, ())).bind (fun u => cond (decide (u.1 < 0)) (some (-1, ())) (K u)) = some (rest left (n + m), ()) := by
  simp only [Option.bind_some]
  by_cases c : left - n < 0
  · rw [rest, if_pos c, ct (by decide), rest, if_pos (by omega)]
  · rw [rest, if_neg c, cf c, hK (by omega), rest, rest]
    congr 2
    by_cases c2 : left - n - m < 0
    · rw [if_pos c2, if_pos (by omega)]
    · rw [if_neg c2, if_neg (by omega)]; omega
theorem szIntS_eq (N : Nat) (a : List Int) (left : Int) (h : 0 ≤ left) (h2 : left ≤ 1048576) (h3 : (a.length : Int) ≤ 9223372036854775807) : laws_szIntS N a left = some (rest left a.length, ()) := by
  simp (disch := omega) only [laws_szIntS, w64, cnd, rest]
  split <;> rfl
def LLen (a : List Int) : Prop := (a.length : Int) ≤ 9223372036854775807
def sz4 (h : H4) : Int := h.1.length + (h.2.1.length + (h.2.2.1.length + (h.2.2.2.length + 0)))
theorem rest_zero (left : Int) (h : 0 ≤ left) : rest left 0 = left := by unfold rest; split <;> omega
theorem szIntSA4_eq (N : Nat) (hN : Fuel N) (a : H4) (left : Int) (h : 0 ≤ left) (h2 : left ≤ 1048576) (g0 : LLen a.1) (g1 : LLen a.2.1) (g2 : LLen a.2.2.1) (g3 : LLen a.2.2.2) : laws_szIntSA4 N a left = some (rest left (sz4 a), ()) := by
  obtain ⟨k, rfl⟩ : ∃ k, N = k + 5 := ⟨N - 5, by unfold Fuel at hN; omega⟩
  unfold LLen at *
  unfold laws_szIntSA4 sz4
  simp (disch := omega) only [laws_szIntSA4.l0, ct, cf, w64, decide_true, decide_false, cond_true, cond_false]
  rw [szIntS_eq _ _ _ h h2 g0]
  refine sz_bind left _ _ (by omega) (by omega) _ fun h3 => ?_
  dsimp only
  rw [szIntS_eq _ _ _ (by omega) (by omega) g1]
  refine sz_bind _ _ _ (by omega) (by omega) _ fun h4 => ?_
  dsimp only
  rw [szIntS_eq _ _ _ (by omega) (by omega) g2]
  refine sz_bind _ _ _ (by omega) (by omega) _ fun h5 => ?_
  dsimp only
  rw [szIntS_eq _ _ _ (by omega) (by omega) g3]
  refine sz_bind _ _ _ (by omega) (by omega) _ fun h6 => ?_
  dsimp only
  rw [rest_zero _ h6]
def BLens (b : Bk) : Prop := LLen b.2.1 ∧ LLen b.2.2.1.1 ∧ LLen b.2.2.1.2.1 ∧ LLen b.2.2.1.2.2.1 ∧ LLen b.2.2.1.2.2.2 ∧ LLen b.2.2.2.1 ∧ LLen b.2.2.2.2.1 ∧ LLen b.2.2.2.2.2
def szB (b : Bk) : Int := b.2.1.length + (sz4 b.2.2.1 + (b.2.2.2.1.length + (b.2.2.2.2.1.length + (b.2.2.2.2.2.length + 0))))
theorem sz4_ge (a : H4) : 0 ≤ sz4 a := by unfold sz4; omega
theorem szBook_eq (N : Nat) (hN : Fuel N) (b : Bk) (left : Int) (h : 0 ≤ left) (h2 : left ≤ 1048576) (hl : BLens b) : laws_szBook N b left = some (rest left (szB b), ()) := by
  obtain ⟨g0, g1, g2, g3, g4, g5, g6, g7⟩ := hl
  have h4 := sz4_ge b.2.2.1
  unfold laws_szBook szB
  rw [szIntS_eq _ _ _ h h2 g0]
  refine sz_bind left _ _ (by omega) (by omega) _ fun h3 => ?_
  dsimp only
  rw [szIntSA4_eq N hN _ _ (by omega) (by omega) g1 g2 g3 g4]
  refine sz_bind _ _ _ h4 (by omega) _ fun h5 => ?_
  dsimp only
  rw [szIntS_eq _ _ _ (by omega) (by omega) g5]
  refine sz_bind _ _ _ (by omega) (by omega) _ fun h6 => ?_
  dsimp only
  rw [szIntS_eq _ _ _ (by omega) (by omega) g6]
  refine sz_bind _ _ _ (by omega) (by omega) _ fun h7 => ?_
  dsimp only
  rw [szIntS_eq _ _ _ (by omega) (by omega) g7]
  refine sz_bind _ _ _ (by omega) (by omega) _ fun h8 => ?_
  dsimp only
  rw [rest_zero _ h8]
theorem hd_len (b : Bk) (k : Nat) : (hd b k).length ≤ sz4 b.2.2.1 := by
  unfold sz4
  match k with
  | 0 => show ((b.2.2.1.1).length : Int) ≤ _; omega
  | 1 => show ((b.2.2.1.2.1).length : Int) ≤ _; omega
  | 2 => show ((b.2.2.1.2.2.1).length : Int) ≤ _; omega
  | _ + 3 => show ((b.2.2.1.2.2.2).length : Int) ≤ _; omega
theorem Bshort.of {b : Bk} (h : szB b ≤ 1048576) : Bshort b := by
  have h4 := sz4_ge b.2.2.1
  unfold szB at h
  refine ⟨by unfold Short; omega, fun k => ?_, by unfold Short; omega, by unfold Short; omega, by unfold Short; omega⟩
  have := hd_len b k
  unfold Short; omega
theorem szB_ge (b : Bk) : 0 ≤ szB b := by have h4 := sz4_ge b.2.2.1; unfold szB; omega
theorem toIntS_eq (N : Nat) (hN : Fuel N) (a : List Int) (ha : Short a) : laws_toIntS N a = some ((), a) := by
  unfold Short at ha
  have := loop_idx a.length (fun k i m => laws_toIntS.l0 N k a i m) (fun _ _ => some ((), a)) (fun i m => m.length = a.length ∧ m.take i = a.take i)
    (fun k m ⟨h1, h2⟩ => by simp (disch := omega) only [laws_toIntS.l0, cf, copy_end h1 h2])
    (fun k i m hi ⟨h1, h2⟩ ih => by
      have := ih (m.set i (a.getD i 0)) ⟨by simp [h1], copy_step hi h1 h2⟩
      simp (disch := omega) only [laws_toIntS.l0, ct, bnd, w64, Int.toNat_natCast, this])
    a.length N 0 (List.replicate a.length 0) (by omega) (by omega) ⟨by simp, by simp⟩
  simp (disch := omega) only [laws_toIntS, ct, Int.toNat_natCast]
  exact this
theorem toIntSA4_eq (N : Nat) (hN : Fuel N) (a : H4) (h0 : Short a.1) (h1 : Short a.2.1) (h2 : Short a.2.2.1) (h3 : Short a.2.2.2) : laws_toIntSA4 N a = some (((), (), (), ()), a) := by
  have e : laws_toIntSA4 N a = laws_toIntSA4.l0 N N 0 a ((), (), (), ()) ((), (), (), ()) [] [] [] [] := rfl
  rw [e]
  obtain ⟨k, hk⟩ : ∃ k, N = k + 5 := ⟨N - 5, by unfold Fuel at hN; omega⟩
  have e2 : laws_toIntSA4.l0 N N 0 a ((), (), (), ()) ((), (), (), ()) [] [] [] [] = laws_toIntSA4.l0 N (k + 5) 0 a ((), (), (), ()) ((), (), (), ()) [] [] [] [] := by rw [← hk]
  rw [e2]
  rw [laws_toIntSA4.l0]
  simp (disch := omega) only [ct, cf, w64, decide_true, decide_false, cond_true, cond_false, toIntS_eq N hN _ h0, toIntS_eq N hN _ h1, toIntS_eq N hN _ h2, toIntS_eq N hN _ h3, Option.bind_some]
  rw [laws_toIntSA4.l0]
  simp (disch := omega) only [ct, cf, w64, decide_true, decide_false, cond_true, cond_false, toIntS_eq N hN _ h0, toIntS_eq N hN _ h1, toIntS_eq N hN _ h2, toIntS_eq N hN _ h3, Option.bind_some]
  rw [laws_toIntSA4.l0]
  simp (disch := omega) only [ct, cf, w64, decide_true, decide_false, cond_true, cond_false, toIntS_eq N hN _ h0, toIntS_eq N hN _ h1, toIntS_eq N hN _ h2, toIntS_eq N hN _ h3, Option.bind_some]
  rw [laws_toIntSA4.l0]
  simp (disch := omega) only [ct, cf, w64, decide_true, decide_false, cond_true, cond_false, toIntS_eq N hN _ h0, toIntS_eq N hN _ h1, toIntS_eq N hN _ h2, toIntS_eq N hN _ h3, Option.bind_some]
  rw [laws_toIntSA4.l0]
  simp (disch := omega) only [ct, cf, w64, decide_true, decide_false, cond_true, cond_false, toIntS_eq N hN _ h0, toIntS_eq N hN _ h1, toIntS_eq N hN _ h2, toIntS_eq N hN _ h3, Option.bind_some]
theorem eqIntSA4_eq (N : Nat) (hN : Fuel N) (a : H4) (h0 : Short a.1) (h1 : Short a.2.1) (h2 : Short a.2.2.1) (h3 : Short a.2.2.2) : laws_eqIntSA4 N a a = some (true, ()) := by
  have e : laws_eqIntSA4 N a a = laws_eqIntSA4.l0 N N 0 a a := rfl
  rw [e]
  obtain ⟨k, hk⟩ : ∃ k, N = k + 5 := ⟨N - 5, by unfold Fuel at hN; omega⟩
  have e2 : laws_eqIntSA4.l0 N N 0 a a = laws_eqIntSA4.l0 N (k + 5) 0 a a := by rw [← hk]
  rw [e2]
  rw [laws_eqIntSA4.l0]
  simp (disch := omega) only [ct, cf, w64, decide_true, decide_false, cond_true, cond_false, eqIntS_eq N hN _ h0, eqIntS_eq N hN _ h1, eqIntS_eq N hN _ h2, eqIntS_eq N hN _ h3, Option.bind_some, Bool.not_true]
  rw [laws_eqIntSA4.l0]
  simp (disch := omega) only [ct, cf, w64, decide_true, decide_false, cond_true, cond_false, eqIntS_eq N hN _ h0, eqIntS_eq N hN _ h1, eqIntS_eq N hN _ h2, eqIntS_eq N hN _ h3, Option.bind_some, Bool.not_true]
  rw [laws_eqIntSA4.l0]
  simp (disch := omega) only [ct, cf, w64, decide_true, decide_false, cond_true, cond_false, eqIntS_eq N hN _ h0, eqIntS_eq N hN _ h1, eqIntS_eq N hN _ h2, eqIntS_eq N hN _ h3, Option.bind_some, Bool.not_true]
  rw [laws_eqIntSA4.l0]
  simp (disch := omega) only [ct, cf, w64, decide_true, decide_false, cond_true, cond_false, eqIntS_eq N hN _ h0, eqIntS_eq N hN _ h1, eqIntS_eq N hN _ h2, eqIntS_eq N hN _ h3, Option.bind_some, Bool.not_true]
  rw [laws_eqIntSA4.l0]
  simp (disch := omega) only [ct, cf, w64, decide_true, decide_false, cond_true, cond_false, eqIntS_eq N hN _ h0, eqIntS_eq N hN _ h1, eqIntS_eq N hN _ h2, eqIntS_eq N hN _ h3, Option.bind_some, Bool.not_true]
theorem toBook_eq (N : Nat) (hN : Fuel N) (b : Bk) (h : Bshort b) : laws_toBook N b = some ((b.1, (), ((), (), (), ()), (), (), ()), (b.2.1, b.2.2.1.1, b.2.2.1.2.1, b.2.2.1.2.2.1, b.2.2.1.2.2.2, b.2.2.2.1, b.2.2.2.2.1, b.2.2.2.2.2)) := by
  obtain ⟨g0, g1, g2, g3, g4⟩ := h
  simp only [laws_toBook, toIntS_eq N hN _ g0, toIntSA4_eq N hN b.2.2.1 (g1 0) (g1 1) (g1 2) (g1 3), toIntS_eq N hN _ g2, toIntS_eq N hN _ g3, toIntS_eq N hN _ g4, Option.bind_some]
theorem eqBook_eq (N : Nat) (hN : Fuel N) (b : Bk) (h : Bshort b) : laws_eqBook N b b = some (true, ()) := by
  obtain ⟨g0, g1, g2, g3, g4⟩ := h
  simp only [laws_eqBook, bne_self_eq_false, cond_false, eqIntS_eq N hN _ g0, eqIntSA4_eq N hN b.2.2.1 (g1 0) (g1 1) (g1 2) (g1 3), eqIntS_eq N hN _ g2, eqIntS_eq N hN _ g3, eqIntS_eq N hN _ g4, Option.bind_some, Bool.not_true]
abbrev tySl : Ty := .sl .frz (.int .i64)
abbrev tyBk : Ty := .agg (.pair (.int .i64) (.pair tySl (.pair (.agg (.pair tySl (.pair tySl (.pair tySl tySl)))) (.pair tySl (.pair tySl tySl)))))
theorem wf_ints {l : List Int} (h : Wf tySl l) : Ints l := fun x hx => wf_i64 (h.2 x hx)
theorem wf_bi {b : Bk} (h : Wf tyBk b) : Bi b := by
  obtain ⟨h0, h1, ⟨h2, h3, h4, h5⟩, h6, h7, h8⟩ := h
  refine ⟨wf_i64 h0, wf_ints h1, fun k => ?_, wf_ints h6, wf_ints h7, wf_ints h8⟩
  match k with
  | 0 => exact wf_ints h2
  | 1 => exact wf_ints h3
  | 2 => exact wf_ints h4
  | _ + 3 => exact wf_ints h5
theorem wf_blens {b : Bk} (h : Wf tyBk b) : BLens b := by
  obtain ⟨h0, h1, ⟨h2, h3, h4, h5⟩, h6, h7, h8⟩ := h
  exact ⟨wf_len h1, wf_len h2, wf_len h3, wf_len h4, wf_len h5, wf_len h6, wf_len h7, wf_len h8⟩
theorem BookP.sizes {b : Bk} (h : BookP b) : Sizes b := slotsB_sizes h.1
theorem BookP.dims {b : Bk} (h : BookP b) : 1 ≤ np b ∧ np b ≤ 6 ∧ nu b = np b * 8 ∧ 1 ≤ b.1 ∧ b.1 ≤ 4 := by
  have := h.sizes
  unfold Sizes at this
  omega
theorem BookP.page {b : Bk} (h : BookP b) {p : Nat} (hp : p < np b) : PageP b p := h.2.2 p hp
theorem BookP.cases {b : Bk} (h : BookP b) {p : Nat} (hp : p < np b) : pg b p = 0 ∨ (1 ≤ pg b p ∧ pg b p ≤ 4) ∨ pg b p = 7 ∨ (10 ≤ pg b p ∧ pg b p ≤ 12) := by
  have := h.page hp
  by_cases h0 : pg b p = 0
  · exact .inl h0
  by_cases h1 : 1 ≤ pg b p ∧ pg b p ≤ 4
  · exact .inr (.inl h1)
  by_cases h7 : pg b p = 7
  · exact .inr (.inr (.inl h7))
  · have := this.2.2.2 h0 h1 h7
    exact .inr (.inr (.inr ⟨this.1, this.2.1⟩))
theorem BookP.wide {b : Bk} (h : BookP b) {p : Nat} (hp : p < np b) (hw : 10 ≤ pg b p) : WideP b p := by
  rcases h.cases hp with h0 | h1 | h7 | h8
  · omega
  · omega
  · omega
  · exact (h.page hp).2.2.2 (by omega) (by omega) (by omega)
/-- Where an owner stands. -/
theorem BookP.owned {b : Bk} (h : BookP b) {u : Nat} (hu : u < nu b) (ho : ow b u ≠ 0) : ∃ p, u / 8 = p ∧ p < np b ∧ ((1 ≤ pg b p ∧ pg b p ≤ 4 ∧ u % usz (pg b p - 1).toNat = 0) ∨ (10 ≤ pg b p ∧ pg b p ≤ 12 ∧ u = 8 * p)) := by
  have hd := h.dims
  refine ⟨u / 8, rfl, by omega, ?_⟩
  have hp : u / 8 < np b := by omega
  have hP := h.page hp
  have eu : 8 * (u / 8) + u % 8 = u := by omega
  rcases h.cases hp with h0 | h1 | h7 | h8
  · have := hP.1 h0 (u % 8) (by omega) (by omega)
    rw [eu] at this
    exact (ho this).elim
  · left
    refine ⟨h1.1, h1.2, ?_⟩
    have hr := (hP.2.1 h1).1 (u % 8) (by omega)
    have h4 : (pg b (u / 8) - 1).toNat < 4 := by omega
    have e := usz_dvd h4 (u / 8) (u % 8)
    rw [eu] at e
    rw [e]
    apply Classical.byContradiction
    intro g
    have := (hr.1 g).1
    rw [eu] at this
    exact ho this
  · have := (hP.2.2.1 h7).2.2 (u % 8) (by omega) (by omega)
    rw [eu] at this
    exact (ho this).elim
  · right
    refine ⟨h8.1, h8.2, ?_⟩
    have hw := h.wide hp h8.1
    apply Classical.byContradiction
    intro g
    have := hw.2.2.2.2.1 (u % 8) (by omega) (by omega)
    rw [eu] at this
    exact ho this
/-- The size of the room that begins at a unit, or 0. -/
def room (b : Bk) (u : Nat) : Int := if ow b u = 0 then 0 else if 1 ≤ pg b (u / 8) ∧ pg b (u / 8) ≤ 4 then (usz (pg b (u / 8) - 1).toNat : Int) else (pg b (u / 8) - 8) * 8
theorem BookP.room_le {b : Bk} (h : BookP b) {u : Nat} (hu : u < nu b) : 0 ≤ room b u ∧ room b u ≤ 32 ∧ (u : Int) + room b u ≤ nu b ∧ (ow b u ≠ 0 → 0 < room b u) := by
  have hd := h.dims
  unfold room
  by_cases c : ow b u = 0
  · rw [if_pos c]; exact ⟨by omega, by omega, by omega, fun g => (g c).elim⟩
  rw [if_neg c]
  obtain ⟨p, e, hp, hh⟩ := h.owned hu c
  rw [e]
  rcases hh with ⟨h1, h2, h3⟩ | ⟨h1, h2, h3⟩
  · rw [if_pos ⟨h1, h2⟩]
    have h4 : (pg b p - 1).toNat < 4 := by omega
    rcases usz_vals h4 with ⟨hu2, _⟩ | ⟨hu2, _⟩ | ⟨hu2, _⟩ | ⟨hu2, _⟩ <;> rw [hu2] at h3 ⊢ <;> omega
  · rw [if_neg (by omega)]
    have := (h.wide hp h1).2.2.1
    omega
theorem spec_l3Room_eq (N : Nat) {b : Bk} (h : BookP b) (u : Nat) (hu : u < nu b) : spec_l3Room N b u = some (room b u, ()) := by
  have hd := h.dims
  have hu' := hu
  unfold nu at hu'
  have hnp : np b = b.2.1.length := rfl
  have hnu : nu b = b.2.2.2.1.length := rfl
  have e8 : ((u : Int) / 8).toNat = u / 8 := by omega
  simp (disch := omega) only [spec_l3Room, cf, bnd, Int.toNat_natCast, fold_ow, td, w64, e8, fold_pg, spec_l3Kind_eq, Option.bind_some, cndb]
  unfold room
  by_cases c : ow b u = 0
  · rw [if_pos c, if_pos c]
  rw [if_neg c, if_neg c]
  have hc := h.cases (p := u / 8) (by omega)
  by_cases c1 : 1 ≤ pg b (u / 8) ∧ pg b (u / 8) ≤ 4
  · simp only [if_pos c1]
    have ek : pg b (u / 8) - 1 = ((pg b (u / 8) - 1).toNat : Int) := by omega
    rw [ct (by omega), ek, spec_l3Size_eq N (by omega)]
    rfl
  · simp only [if_neg c1]
    rw [cf (by omega), w64 (n := pg b (u / 8) - 8) (by omega) (by omega), w64 (by omega) (by omega)]
/-- The room that contains a unit: where it begins, its size, its owner. -/
def blk (b : Bk) (u : Nat) : Int × Int × Int :=
  let q := back b (u / 8)
  if pg b q = 0 then (8 * (q : Int), 0, 0)
  else if 1 ≤ pg b q ∧ pg b q ≤ 4 then (((u - u % usz (pg b q - 1).toNat : Nat) : Int), (usz (pg b q - 1).toNat : Int), ow b (u - u % usz (pg b q - 1).toNat))
  else (8 * (q : Int), (pg b q - 8) * 8, ow b (8 * q))
theorem impl_at_eq (N : Nat) (hN : Fuel N) {b : Bk} (h : BookP b) (u : Nat) (hu : u < nu b) : impl_Book_at N b u = some (blk b u, ()) := by
  have hd := h.dims
  have hnp : np b = b.2.1.length := rfl
  have hnu : nu b = b.2.2.2.1.length := rfl
  have main : ∀ q k, q < k → q ≤ u / 8 → back b q = back b (u / 8) → impl_Book_at.l0 N k u q b = some (blk b u, ()) := by
    intro q
    have leaf : ∀ q k, q ≤ u / 8 → q = back b (u / 8) → pg b q ≠ 7 → impl_Book_at.l0 N (k + 1) u q b = some (blk b u, ()) := by
      intro q k hq hb h7
      have hc := h.cases (p := q) (by omega)
      rw [impl_Book_at.l0, bnd (by omega) (by omega), bnd (by omega) (by omega), Int.toNat_natCast, fold_pg, cndb, if_neg h7, cndb]
      unfold blk
      rw [← hb]
      dsimp only
      have w8 : IntKind.i64.wrap ((q : Int) * 8) = 8 * (q : Int) := by rw [w64 (by omega) (by omega)]; omega
      by_cases c0 : pg b q = 0
      · rw [if_pos c0, if_pos c0, w8]
      rw [if_neg c0, if_neg c0]
      simp only [impl_isKind, impl_within_eq, Option.bind_some]
      by_cases c1 : 1 ≤ pg b q ∧ pg b q ≤ 4
      · have ek : IntKind.i64.wrap (pg b q - 1) = ((pg b q - 1).toNat : Int) := by rw [w64 (by omega) (by omega)]; omega
        have h4 : (pg b q - 1).toNat < 4 := by omega
        have hz : usz (pg b q - 1).toNat ≠ 0 := by rcases usz_vals h4 with ⟨hu, hk⟩ | ⟨hu, hk⟩ | ⟨hu, hk⟩ | ⟨hu, hk⟩ <;> omega
        have e1 : IntKind.i64.wrap ((u : Int) - Int.tmod u (usz (pg b q - 1).toNat)) = ((u - u % usz (pg b q - 1).toNat : Nat) : Int) := by
          rw [tm (by omega)]
          have := Nat.mod_le u (usz (pg b q - 1).toNat)
          have e : (u : Int) % (usz (pg b q - 1).toNat : Int) = ((u % usz (pg b q - 1).toNat : Nat) : Int) := by omega
          rw [e, w64 (by omega) (by omega)]; omega
        rw [dt c1, cond_true, if_pos c1, ek, impl_unitsOf_eq N h4]
        simp only [Option.bind_some]
        rw [cf (by omega), e1, bnd (by omega) (by omega), Int.toNat_natCast, fold_ow]
      · rw [df c1, cond_false, if_neg c1, w8, bnd (by omega) (by omega), w64 (n := pg b q - 8) (by omega) (by omega), w64 (by omega) (by omega), show (8 * (q : Int)).toNat = 8 * q by omega, fold_ow]
    induction q with
    | zero =>
      intro k hk hq hb
      obtain ⟨k, rfl⟩ := fuel hk
      refine leaf 0 k hq (by rw [← hb]; rfl) ?_
      intro h7
      have := (h.page (p := 0) (by omega)).2.2.1 h7
      have := this.1
      rw [back] at this
      omega
    | succ q ih =>
      intro k hk hq hb
      obtain ⟨k, rfl⟩ := fuel hk
      by_cases h7 : pg b (q + 1) = 7
      · have w1 : IntKind.i64.wrap (((q + 1 : Nat) : Int) - 1) = (q : Int) := by rw [w64 (by omega) (by omega)]; omega
        rw [impl_Book_at.l0, bnd (by omega) (by omega), Int.toNat_natCast, fold_pg, cndb, if_pos h7, w1]
        exact ih k (by omega) (by omega) (by rw [← hb, back, if_pos h7])
      · exact leaf (q + 1) k hq (by rw [← hb, back_self h7]) h7
  have e8 : IntKind.i64.wrap (Int.tdiv (u : Int) 8) = ((u / 8 : Nat) : Int) := by rw [td (by omega), w64 (by omega) (by omega)]; omega
  unfold impl_Book_at
  rw [e8]
  exact main (u / 8) N (by omega) (Nat.le_refl _) rfl
/-- A room that has an owner and contains a unit is the one that 'blk' tells. -/
theorem blk_of {b : Bk} (h : BookP b) {v u : Nat} (hv : v ≤ u) (hu : u < nu b) (ho : ow b v ≠ 0) (hr : (u : Int) < v + room b v) : blk b u = ((v : Int), room b v, ow b v) := by
  have hd := h.dims
  obtain ⟨p, e, hp, hh⟩ := h.owned (u := v) (by omega) ho
  unfold room at hr ⊢
  rw [if_neg ho, e] at hr ⊢
  rcases hh with ⟨h1, h2, h3⟩ | ⟨h1, h2, h3⟩
  · rw [if_pos ⟨h1, h2⟩] at hr ⊢
    have h4 : (pg b p - 1).toNat < 4 := by omega
    have hup : u / 8 = p ∧ u - u % usz (pg b p - 1).toNat = v := by
      rcases usz_vals h4 with ⟨hz, _⟩ | ⟨hz, _⟩ | ⟨hz, _⟩ | ⟨hz, _⟩ <;> rw [hz] at h3 hr ⊢ <;> omega
    unfold blk
    rw [hup.1, back_self (by omega)]
    dsimp only
    rw [if_neg (by omega), if_pos ⟨h1, h2⟩, hup.2]
  · rw [if_neg (by omega)] at hr ⊢
    have hw := h.wide hp h1
    have hb : back b (u / 8) = p := by
      have := back_run (b := b) (p := p) (by omega) (u / 8 - p) (fun j g1 g2 => hw.2.2.2.2.2 j g1 (by omega))
      rwa [show p + (u / 8 - p) = u / 8 by omega] at this
    unfold blk
    rw [hb]
    dsimp only
    rw [if_neg (by omega), if_neg (by omega), h3]
    rfl
/-- What 'blk' tells: a room with an owner; or one without; or an empty page. -/
theorem blk_cases {b : Bk} (h : BookP b) {u : Nat} (hu : u < nu b) :
    (∃ v, v ≤ u ∧ (u : Int) < v + room b v ∧ ow b v ≠ 0 ∧ blk b u = ((v : Int), room b v, ow b v)) ∨
    ((∀ v, v ≤ u → (v : Int) + room b v ≤ u) ∧ ((pg b (u / 8) = 0 ∧ blk b u = (8 * ((u / 8 : Nat) : Int), 0, 0)) ∨
      (1 ≤ pg b (u / 8) ∧ pg b (u / 8) ≤ 4 ∧ ow b (u - u % usz (pg b (u / 8) - 1).toNat) = 0 ∧ blk b u = (((u - u % usz (pg b (u / 8) - 1).toNat : Nat) : Int), (usz (pg b (u / 8) - 1).toNat : Int), 0)))) := by
  have hd := h.dims
  have hp : u / 8 < np b := by omega
  have none_of : (∀ v, v ≤ u → ow b v ≠ 0 → (u : Int) < v + room b v → False) → ∀ v, v ≤ u → (v : Int) + room b v ≤ u := by
    intro g v hv
    by_cases c : ow b v = 0
    · unfold room; rw [if_pos c]; omega
    · apply Classical.byContradiction
      intro g2
      exact g v hv c (by omega)
  rcases h.cases hp with h0 | h1 | h7 | h8
  · right
    have hb : blk b u = (8 * ((u / 8 : Nat) : Int), 0, 0) := by
      unfold blk
      rw [back_self (by omega)]
      dsimp only
      rw [if_pos h0]
    refine ⟨none_of fun v hv ho hr => ?_, .inl ⟨h0, hb⟩⟩
    have e := blk_of h hv hu ho hr
    rw [hb] at e
    have := congrArg (fun x => x.2.2) e
    dsimp only at this
    omega
  · have h4 : (pg b (u / 8) - 1).toNat < 4 := by omega
    have hz : usz (pg b (u / 8) - 1).toNat ≠ 0 := by rcases usz_vals h4 with ⟨hu, hk⟩ | ⟨hu, hk⟩ | ⟨hu, hk⟩ | ⟨hu, hk⟩ <;> omega
    have hb : blk b u = (((u - u % usz (pg b (u / 8) - 1).toNat : Nat) : Int), (usz (pg b (u / 8) - 1).toNat : Int), ow b (u - u % usz (pg b (u / 8) - 1).toNat)) := by
      unfold blk
      rw [back_self (by omega)]
      dsimp only
      rw [if_neg (by omega), if_pos h1]
    have hle := Nat.mod_le u (usz (pg b (u / 8) - 1).toNat)
    have hlt := Nat.mod_lt u (Nat.pos_of_ne_zero hz)
    have hpage : (u - u % usz (pg b (u / 8) - 1).toNat) / 8 = u / 8 := by
      rcases usz_vals h4 with ⟨hz, _⟩ | ⟨hz, _⟩ | ⟨hz, _⟩ | ⟨hz, _⟩ <;> rw [hz] <;> omega
    by_cases c : ow b (u - u % usz (pg b (u / 8) - 1).toNat) = 0
    · right
      refine ⟨none_of fun v hv ho hr => ?_, .inr ⟨h1.1, h1.2, c, by rw [hb, c]⟩⟩
      have e := blk_of h hv hu ho hr
      rw [hb] at e
      have := congrArg (fun x => x.2.2) e
      dsimp only at this
      omega
    · left
      have hroom : room b (u - u % usz (pg b (u / 8) - 1).toNat) = (usz (pg b (u / 8) - 1).toNat : Int) := by
        unfold room
        rw [if_neg c, hpage, if_pos h1]
      exact ⟨u - u % usz (pg b (u / 8) - 1).toNat, by omega, by rw [hroom]; omega, c, by rw [hb, hroom]⟩
  · left
    have hR := (h.page hp).2.2.1 h7
    have hbl := back_le b (u / 8)
    have hw := h.wide (p := back b (u / 8)) (by omega) (by
      rcases h.cases (p := back b (u / 8)) (by omega) with g | g | g | g
      · have := hR.1; omega
      · have := hR.1; omega
      · have := hR.1; omega
      · omega)
    have h1 := hw.1
    have h2 := hR.2.1
    have ho := hw.2.2.2.1
    have e8 : 8 * back b (u / 8) / 8 = back b (u / 8) := by omega
    have hroom : room b (8 * back b (u / 8)) = (pg b (back b (u / 8)) - 8) * 8 := by
      unfold room
      rw [if_neg ho, e8, if_neg (by omega)]
    refine ⟨8 * back b (u / 8), by omega, by rw [hroom]; omega, ho, ?_⟩
    exact blk_of h (by omega) hu ho (by rw [hroom]; omega)
  · left
    have hw := h.wide hp h8.1
    have ho := hw.2.2.2.1
    have e8 : 8 * (u / 8) / 8 = u / 8 := by omega
    have hroom : room b (8 * (u / 8)) = (pg b (u / 8) - 8) * 8 := by
      unfold room
      rw [if_neg ho, e8, if_neg (by omega)]
    exact ⟨8 * (u / 8), by omega, by rw [hroom]; omega, ho, blk_of h (by omega) hu ho (by rw [hroom]; omega)⟩
theorem spec_TidyAt_walk (N : Nat) {b : Bk} (h : BookP b) (u : Nat) (hu : u < nu b) : ∀ (d v k : Nat), v + d = u + 1 → d < k → (∀ w, w < v → (w : Int) + room b w ≤ u) → spec_TidyAt.l0 N k u v b = some (blk b u, ()) := by
  have hd := h.dims
  have hnp : np b = b.2.1.length := rfl
  have hnu : nu b = b.2.2.2.1.length := rfl
  intro d
  induction d with
  | zero =>
    intro v k hv hk hn
    obtain ⟨k, rfl⟩ := fuel hk
    have e8 : IntKind.i64.wrap (Int.tdiv (u : Int) 8) = ((u / 8 : Nat) : Int) := by rw [td (by omega), w64 (by omega) (by omega)]; omega
    rw [spec_TidyAt.l0, cf (by omega), e8, bnd (by omega) (by omega), Int.toNat_natCast, fold_pg, spec_l3Kind_eq]
    simp only [Option.bind_some]
    rcases blk_cases h hu with ⟨w, h1, h2, _⟩ | ⟨_, ⟨h0, hb⟩ | ⟨h1, h2, h3, hb⟩⟩
    · have := hn w (by omega); omega
    · rw [if_neg (by omega), ct (by omega), hb, w64 (by omega) (by omega)]
      congr 2
      rw [Int.mul_comm]
    · have ek : pg b (u / 8) - 1 = ((pg b (u / 8) - 1).toNat : Int) := by omega
      have h4 : (pg b (u / 8) - 1).toNat < 4 := by omega
      have hz : usz (pg b (u / 8) - 1).toNat ≠ 0 := by rcases usz_vals h4 with ⟨hu, hk⟩ | ⟨hu, hk⟩ | ⟨hu, hk⟩ | ⟨hu, hk⟩ <;> omega
      rw [if_pos ⟨h1, h2⟩, cf (by omega), ek, spec_l3Size_eq N h4]
      simp only [Option.bind_some]
      have e1 : IntKind.i64.wrap (IntKind.i64.wrap (Int.tdiv (u : Int) (usz (pg b (u / 8) - 1).toNat : Int)) * (usz (pg b (u / 8) - 1).toNat : Int)) = ((u - u % usz (pg b (u / 8) - 1).toNat : Nat) : Int) := by
        rw [td (by omega)]
        rcases usz_vals h4 with ⟨hz, _⟩ | ⟨hz, _⟩ | ⟨hz, _⟩ | ⟨hz, _⟩ <;> rw [hz] <;> (rw [w64 (n := (u : Int) / _) (by omega) (by omega), w64 (by omega) (by omega)]; omega)
      rw [cf (by omega), e1, hb]
  | succ d ih =>
    intro v k hv hk hn
    obtain ⟨k, rfl⟩ := fuel hk
    have hr := h.room_le (u := v) (by omega)
    rw [spec_TidyAt.l0, ct (by omega), spec_l3Room_eq N h v (by omega)]
    simp only [Option.bind_some]
    rw [w64 (by omega) (by omega), bnd (by omega) (by omega), Int.toNat_natCast, fold_ow, w64 (n := (v : Int) + 1) (by omega) (by omega)]
    by_cases c : room b v > (u : Int) - v
    · have ho : ow b v ≠ 0 := by
        intro e
        unfold room at c
        rw [if_pos e] at c
        omega
      rw [ct c, blk_of h (by omega) hu ho (by omega)]
    · rw [cf c, show (v : Int) + 1 = ((v + 1 : Nat) : Int) by omega]
      refine ih (v + 1) k (by omega) (by omega) fun w hw => ?_
      by_cases e : w = v
      · subst e; omega
      · exact hn w (by omega)
noncomputable def tidyAt (b : Bk) (u : Int) : Int × Int × Int := @ite _ (BookP b ∧ 0 ≤ u ∧ u < nu b) (Classical.propDecidable _) (blk b u.toNat) (0, 0, 0)
theorem spec_TidyAt_eq (N : Nat) (hN : Fuel N) (b : Bk) (hi : Bi b) (hb : Bshort b) (u : Int) : spec_TidyAt N b u = some (tidyAt b u, ()) := by
  have hsh := hb.2.2.1
  unfold Short at hsh
  have hnu : nu b = b.2.2.2.1.length := rfl
  unfold spec_TidyAt tidyAt
  rw [spec_BookOk_eq N hN b hi hb]
  simp only [Option.bind_some]
  by_cases h : BookP b
  rotate_left
  · rw [bookOk, tf_f h, if_neg (fun g => h g.1)]; rfl
  rw [bookOk, tf_t h, Bool.not_true, cond_false]
  by_cases c : u < 0
  · rw [ct c, if_neg (by omega)]
  rw [cf c]
  by_cases c2 : u ≥ (b.2.2.2.1.length : Int)
  · rw [ct c2, if_neg (by omega)]
  rw [cf c2, if_pos ⟨h, by omega, by omega⟩]
  have := spec_TidyAt_walk N h u.toNat (by omega) (u.toNat + 1) 0 N (by omega) (by omega) (fun w hw => by omega)
  rw [show ((0 : Nat) : Int) = 0 from rfl, Int.toNat_of_nonneg (by omega)] at this
  exact this
theorem BookP.ow_le {b : Bk} (h : BookP b) {u : Nat} (hu : u < nu b) : 0 ≤ ow b u ∧ ow b u ≤ 4 := by
  have h1 := h.1
  rw [slotsB, Bool.and_eq_true, Bool.and_eq_true] at h1
  have := of_decide_eq_true ((allB_iff _ _ _).1 h1.2.2 u (by omega) (by omega))
  have hd := h.dims
  omega
theorem blk_own {b : Bk} (h : BookP b) {u : Nat} (hu : u < nu b) : 0 ≤ (blk b u).2.2 ∧ (blk b u).2.2 ≤ 4 := by
  rcases blk_cases h hu with ⟨v, h1, h2, h3, h4⟩ | ⟨_, ⟨_, h4⟩ | ⟨_, _, _, h4⟩⟩
  · rw [h4]; exact h.ow_le (by omega)
  · rw [h4]; exact ⟨Int.le_refl _, by show (0 : Int) ≤ 4; decide⟩
  · rw [h4]; exact ⟨Int.le_refl _, by show (0 : Int) ≤ 4; decide⟩
theorem ba_app (a b : List UInt8) : (ByteArray.mk a.toArray) ++ (ByteArray.mk b.toArray) = ⟨(a ++ b).toArray⟩ := by
  apply ByteArray.ext
  simp [ByteArray.data_append]
theorem ba_size (a : List UInt8) : (ByteArray.mk a.toArray).size = a.length := by simp [ByteArray.size]
/-- The sign of a unit. -/
noncomputable def signP (b : Bk) (u : Nat) : UInt8 :=
  if (blk b u).2.1 = 0 then 46 else if (blk b u).2.2 = 0 then (if (blk b u).1 = u then 111 else 45) else if (blk b u).1 = u then UInt8.ofNat (48 + ((blk b u).2.2 - 1).toNat) else 61
theorem dec_one {n : Nat} (h : n < 10) : Lib.decDigits n = [UInt8.ofNat (48 + n)] := by rw [Lib.decDigits, dif_pos h]
theorem tmArm_eq {b : Bk} (h : BookP b) {u : Nat} (hu : u < nu b) : tmArm (blk b u) u = some [signP b u] := by
  have ho := blk_own h hu
  unfold tmArm signP
  generalize blk b u = z at ho
  obtain ⟨f, n, o⟩ := z
  simp only [] at ho ⊢
  by_cases c1 : n = 0
  · subst c1; rfl
  rw [beq_eq_false_iff_ne.2 c1, cond_false, if_neg c1]
  by_cases c2 : o = 0
  · subst c2
    rw [if_pos rfl]
    by_cases c3 : f = (u : Int)
    · subst c3
      rw [if_pos rfl, show (((0 : Int) == 0 && (u : Int) == (u : Int)) = true) by simp, cond_true]
    · rw [if_neg c3, show (((0 : Int) == 0 && (u : Int) == f) = false) by rw [beq_self_eq_true, Bool.true_and]; exact beq_eq_false_iff_ne.2 (fun e => c3 e.symm), cond_false]
      rfl
  · rw [if_neg c2, beq_eq_false_iff_ne.2 c2, Bool.false_and, cond_false, cond_false]
    by_cases c3 : f = (u : Int)
    · subst c3
      have hd := dec_one (n := (o - 1).toNat) (by omega)
      rw [if_pos rfl, beq_self_eq_true, cond_true, decide_eq_true (by rw [hd]; simp only [List.length_cons, List.length_nil]; omega), cond_true, hd]
    · rw [if_neg c3, beq_eq_false_iff_ne.2 (fun e => c3 e.symm), cond_false]
noncomputable def mapL (b : Bk) : Nat → Nat → List UInt8
  | 0, _ => []
  | d + 1, i => (if 0 < i ∧ i % 8 = 0 then [124] else []) ++ (signP b i :: mapL b d (i + 1))
theorem tmBar_eq (i : Nat) (s : List UInt8) : tmBar i s = s ++ (if 0 < i ∧ i % 8 = 0 then [124] else []) := by
  unfold tmBar
  by_cases h1 : 0 < i
  · by_cases h2 : i % 8 = 0
    · rw [decide_eq_true h1, beq_iff_eq.2 h2, if_pos ⟨h1, h2⟩]; rfl
    · rw [decide_eq_true h1, beq_eq_false_iff_ne.2 h2, if_neg (fun h => h2 h.2), List.append_nil]; rfl
  · rw [decide_eq_false h1, if_neg (fun h => h1 h.1), List.append_nil]; rfl
theorem impl_TidyMap_loop (N : Nat) (hN : Fuel N) {b : Bk} (h : BookP b) : ∀ d i k (s : List UInt8), i + d = nu b → d < k → s.length ≤ 2 * i →
    impl_TidyMap.l0 N k i b s = some (⟨(s ++ mapL b d i).toArray⟩, ())
  | 0, i, k, s, e, hk, hs => by
    obtain ⟨k, rfl⟩ : ∃ j, k = j + 1 := ⟨k - 1, by omega⟩
    have hnu : nu b = b.2.2.2.1.length := rfl
    rw [impl_TidyMap.l0, decide_eq_false (by omega), cond_false, mapL, List.append_nil]
  | d + 1, i, k, s, e, hk, hs => by
    obtain ⟨k, rfl⟩ : ∃ j, k = j + 1 := ⟨k - 1, by omega⟩
    have hnu : nu b = b.2.2.2.1.length := rfl
    have hd := h.dims
    rw [impl_TidyMap.l0, decide_eq_true (by omega), cond_true, decide_eq_true (by omega), cond_true, impl_at_eq N hN h i (by omega)]
    simp only [Option.bind_some]
    rw [tmArm_eq h (by omega)]
    simp only [Option.bind_some]
    rw [impl_TidyMap_loop N hN h d (i + 1) k _ (by omega) (by omega) (by rw [tmBar_eq]; simp only [List.length_append, List.length_cons, List.length_nil]; split <;> simp only [List.length_cons, List.length_nil] <;> omega), tmBar_eq, mapL]
    simp only [List.append_assoc, List.cons_append, List.nil_append]
noncomputable def tidyMap (b : Bk) : List UInt8 := @ite _ (BookP b) (Classical.propDecidable _) (mapL b (nu b) 0) []
theorem impl_TidyMap_eq (N : Nat) (hN : Fuel N) (b : Bk) (hi : Bi b) (hb : Bshort b) : impl_TidyMap N b = some (⟨(tidyMap b).toArray⟩, ()) := by
  unfold impl_TidyMap tidyMap
  rw [impl_BookOk_eq N hN b hi hb]
  simp only [Option.bind_some]
  by_cases h : BookP b
  rotate_left
  · rw [bookOk, tf_f h, if_neg h]; rfl
  have hd := h.dims
  rw [bookOk, tf_t h, Bool.not_true, cond_false, if_pos h]
  have := impl_TidyMap_loop N hN h (nu b) 0 N [] (by omega) (by unfold Fuel at hN; omega) (by simp)
  rw [List.nil_append] at this
  exact this
theorem l20Dec_small (N : Nat) (hN : Fuel N) {v : Int} (h0 : 0 ≤ v) (h1 : v ≤ 3) : spec_l20Dec N v = some (⟨[UInt8.ofNat (48 + v.toNat)].toArray⟩, ()) := by
  obtain ⟨k, rfl⟩ : ∃ k, N = k + 1 := ⟨N - 1, by unfold Fuel at hN; omega⟩
  have e : ∀ l : List UInt8, (ByteArray.mk l.toArray) ++ ByteArray.empty = ⟨l.toArray⟩ := fun l => by
    have := ba_app l []
    rw [List.append_nil] at this
    exact this
  have hv : v = 0 ∨ v = 1 ∨ v = 2 ∨ v = 3 := by omega
  unfold spec_l20Dec
  rw [cf (by omega), cf (by omega), spec_l20Dec.l0, cf (by omega)]
  rcases hv with rfl | rfl | rfl | rfl
  · exact congrArg some (Prod.ext (e [48]) rfl)
  · exact congrArg some (Prod.ext (e [49]) rfl)
  · exact congrArg some (Prod.ext (e [50]) rfl)
  · exact congrArg some (Prod.ext (e [51]) rfl)
theorem spec_l18Sign_eq (N : Nat) (hN : Fuel N) {b : Bk} (h : BookP b) (hi : Bi b) (hb : Bshort b) {u : Nat} (hu : u < nu b) : spec_l18Sign N b u = some (⟨[signP b u].toArray⟩, ()) := by
  have ho := blk_own h hu
  unfold spec_l18Sign
  rw [spec_TidyAt_eq N hN b hi hb u]
  simp only [Option.bind_some, tidyAt]
  rw [if_pos ⟨h, by omega, by omega⟩, Int.toNat_natCast]
  unfold signP
  generalize blk b u = z at ho
  obtain ⟨f, n, o⟩ := z
  simp only [] at ho ⊢
  by_cases c1 : n = 0
  · subst c1; rfl
  rw [beq_eq_false_iff_ne.2 c1, cond_false, if_neg c1]
  by_cases c2 : o = 0
  · subst c2
    rw [if_pos rfl, beq_self_eq_true, cond_true]
    by_cases c3 : f = (u : Int)
    · subst c3
      rw [if_pos rfl, beq_self_eq_true, cond_true]
    · rw [if_neg c3, beq_eq_false_iff_ne.2 c3, cond_false, cond_true]
  · rw [if_neg c2, beq_eq_false_iff_ne.2 c2, cond_false, cond_false]
    by_cases c3 : f = (u : Int)
    · subst c3
      rw [if_pos rfl, beq_self_eq_true, cond_true, w64 (by omega) (by omega), l20Dec_small N hN (by omega) (by omega)]
      rfl
    · rw [if_neg c3, beq_eq_false_iff_ne.2 c3, cond_false]
theorem spec_TidyMap_loop (N : Nat) (hN : Fuel N) {b : Bk} (h : BookP b) (hi : Bi b) (hb : Bshort b) : ∀ d i k (s : List UInt8), i + d = nu b → d < k → s.length ≤ 2 * i →
    spec_TidyMap.l0 N k ⟨s.toArray⟩ (i : Int) b = some (⟨(s ++ mapL b d i).toArray⟩, ())
  | 0, i, k, s, e, hk, hs => by
    obtain ⟨k, rfl⟩ : ∃ j, k = j + 1 := ⟨k - 1, by omega⟩
    have hnu : nu b = b.2.2.2.1.length := rfl
    rw [spec_TidyMap.l0, spec_BookOk_eq N hN b hi hb]
    simp only [Option.bind_some]
    rw [bookOk, tf_t h, cond_true, cf (by omega), mapL, List.append_nil]
  | d + 1, i, k, s, e, hk, hs => by
    obtain ⟨k, rfl⟩ : ∃ j, k = j + 1 := ⟨k - 1, by omega⟩
    have hnu : nu b = b.2.2.2.1.length := rfl
    have hd := h.dims
    have big : ∀ n : Nat, n ≤ 1000 → decide ((n : Int) > IntKind.i64.max) = false := fun n hn => decide_eq_false (by show ¬ ((n : Int) > 9223372036854775807); omega)
    have b1 : (ByteArray.mk #[124]) = ⟨[124].toArray⟩ := rfl
    have ih : ∀ s' : List UInt8, s'.length ≤ 2 * (i + 1) → spec_TidyMap.l0 N k ⟨s'.toArray⟩ (IntKind.i64.wrap ((i : Int) + 1)) b = some (⟨(s' ++ mapL b d (i + 1)).toArray⟩, ()) := fun s' hs' => by
      rw [w64 (by omega) (by omega), show (i : Int) + 1 = ((i + 1 : Nat) : Int) by omega]
      exact spec_TidyMap_loop N hN h hi hb d (i + 1) k s' (by omega) (by omega) hs'
    rw [spec_TidyMap.l0, spec_BookOk_eq N hN b hi hb]
    simp only [Option.bind_some]
    rw [bookOk, tf_t h, cond_true, ct (by omega), spec_l18Sign_eq N hN h hi hb (by omega)]
    simp only [Option.bind_some, b1, ba_app, ba_size]
    have one : [signP b i].length = 1 := rfl
    rw [big _ (by simp only [List.length_append, List.length_cons, List.length_nil]; omega), cond_false, big _ (by simp only [List.length_append, List.length_cons, List.length_nil]; omega), cond_false, big _ (by simp only [List.length_append, List.length_cons, List.length_nil]; omega), cond_false]
    rw [ih (s ++ [signP b i]) (by simp only [List.length_append, List.length_cons, List.length_nil]; omega), ih (s ++ [124] ++ [signP b i]) (by simp only [List.length_append, List.length_cons, List.length_nil]; omega), mapL]
    by_cases c1 : 0 < i
    · rw [ct (by omega)]
      by_cases c2 : i % 8 = 0
      · rw [beq_iff_eq.2 (show Int.tmod (i : Int) 8 = 0 by rw [Int.tmod_eq_emod_of_nonneg (by omega)]; omega), cond_true, if_pos ⟨c1, c2⟩]
        simp only [List.append_assoc, List.cons_append, List.nil_append]
      · rw [beq_eq_false_iff_ne.2 (show Int.tmod (i : Int) 8 ≠ 0 by rw [Int.tmod_eq_emod_of_nonneg (by omega)]; omega), cond_false, if_neg (fun q => c2 q.2)]
        simp only [List.append_assoc, List.cons_append, List.nil_append]
    · rw [cf (by omega), if_neg (fun q => c1 q.1)]
      simp only [List.append_assoc, List.cons_append, List.nil_append]
theorem spec_TidyMap_eq (N : Nat) (hN : Fuel N) (b : Bk) (hi : Bi b) (hb : Bshort b) : spec_TidyMap N b = some (⟨(tidyMap b).toArray⟩, ()) := by
  unfold spec_TidyMap tidyMap
  by_cases h : BookP b
  rotate_left
  · obtain ⟨k, rfl⟩ : ∃ k, N = k + 1 := ⟨N - 1, by unfold Fuel at hN; omega⟩
    rw [spec_TidyMap.l0, spec_BookOk_eq _ hN b hi hb]
    simp only [Option.bind_some]
    rw [bookOk, tf_f h, if_neg h]; rfl
  have hd := h.dims
  rw [if_pos h]
  have := spec_TidyMap_loop N hN h hi hb (nu b) 0 N [] (by omega) (by unfold Fuel at hN; omega) (by simp)
  rw [List.nil_append] at this
  exact this
theorem plainTidyMap (N : Nat) (hN : Fuel N) (b : Bk) (hi : Bi b) (hl : BLens b) : laws_FnExactTidyMap N b = some (true, ()) := by
  unfold laws_FnExactTidyMap
  have hg := szB_ge b
  rw [szBook_eq N hN b _ (by omega) (by omega) hl]
  simp only [Option.bind_some]
  by_cases h : (1048576 : Int) - szB b < 0
  · rw [rest, if_pos h]; rfl
  have hb := Bshort.of (b := b) (by omega)
  rw [rest, if_neg h, cf h]
  simp only [toBook_eq N hN b hb, Option.bind_some, spec_TidyMap_eq N hN b hi hb, impl_TidyMap_eq N hN b hi hb, beq_self_eq_true, Bool.not_true, cond_false, eqBook_eq N hN b hb]
theorem lawFnExactTidyMap (y0 : Bk) (w0 : Wf tyBk y0) : laws_FnExactTidyMap N0 y0 = some (true, ()) :=
  plainTidyMap N0 hN0 y0 (wf_bi w0) (wf_blens w0)
end Go.Proofs.YtdkinmgpclbedaaDoor.Pv
