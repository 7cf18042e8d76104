/- The plain law of FnExactForkSame: what the functions compute, over numbers and lists. -/
import Derived.Test.YtpanngbbofkeoabC3F
import Derived.Test.YtpanngbbofkeoabPvRow
namespace Go.Proofs.Ytpanngbbofkeoab.Pv
open Go Go.Pv Go.Proofs
set_option linter.unusedVariables false
set_option linter.unusedSimpArgs false
theorem w64 {n : Int} (h : -9223372036854775808 ≤ n) (h2 : n ≤ 9223372036854775807) : IntKind.i64.wrap n = n := by rw [IntKind.wrap_i64]; omega
theorem dt {p : Prop} [Decidable p] (h : p) : decide p = true := decide_eq_true h
theorem df {p : Prop} [Decidable p] (h : ¬ p) : decide p = false := decide_eq_false h
theorem ct {α : Type _} {p : Prop} [Decidable p] {a b : α} (h : p) : cond (decide p) a b = a := by rw [decide_eq_true h]; rfl
theorem cf {α : Type _} {p : Prop} [Decidable p] {a b : α} (h : ¬ p) : cond (decide p) a b = b := by rw [decide_eq_false h]; rfl
theorem cnd {α : Type _} {p : Prop} [Decidable p] {a b : α} : cond (decide p) a b = if p then a else b := by by_cases h : p <;> simp [h]
/-- The test that a place lies in a row. -/
theorem bnd {α : Type _} {i : Int} {n : Nat} {a b : α} (h : 0 ≤ i) (h2 : i < (n : Int)) : cond (cond (decide (0 ≤ i)) (decide (i < (n : Int))) false) a b = a := by rw [dt h, dt h2]; rfl
theorem getD_lt {α : Type _} {l : List α} {i : Nat} {d : α} (h : i < l.length) : l.getD i d = l[i] := by simp [h]
theorem drop_at {α : Type _} {l : List α} {i : Nat} (d : α) (h : i < l.length) : l.drop i = l.getD i d :: l.drop (i + 1) := by
  rw [List.drop_eq_getElem_cons h, getD_lt h]
theorem fuel {n k : Nat} (h : n < k) : ∃ j, k = j + 1 := ⟨k - 1, by omega⟩
/-- A loop over the places below a length, with a state. -/
theorem loop_idx {A : Type _} {R : Type _} (len : Nat) (L : Nat → Int → A → R) (F : Nat → A → R) (I : Nat → A → Prop)
    (hend : ∀ k a, I len a → L (k + 1) (len : Int) a = F len a)
    (hstep : ∀ k i a, i < len → I i a → (∀ a', I (i + 1) a' → L k ((i : Int) + 1) a' = F (i + 1) a') → L (k + 1) (i : Int) a = F i a) :
    ∀ n k i a, i + n = len → n < k → I i a → L k (i : Int) a = F i a := by
  intro n
  induction n with
  | zero =>
    intro k i a h1 h2 h3
    obtain ⟨k, rfl⟩ := fuel h2
    obtain rfl : i = len := by omega
    exact hend k a h3
  | succ n ih =>
    intro k i a h1 h2 h3
    obtain ⟨k, rfl⟩ := fuel h2
    exact hstep k i a (by omega) h3 (fun a' h => by have := ih k (i + 1) a' (by omega) (by omega) h; rwa [Int.natCast_add] at this)
/-- A loop over a list by its places, with a state; what it gives, told by recursion over the list. -/
theorem loop_list {X : Type _} {A : Type _} {R : Type _} (d : X) (l : List X) (L : Nat → Int → A → R) (F : List X → A → R) (I : Nat → A → Prop)
    (hend : ∀ k a, I l.length a → L (k + 1) (l.length : Int) a = F [] a)
    (hstep : ∀ k i a x r, i < l.length → l.getD i d = x → I i a → (∀ a', I (i + 1) a' → L k ((i : Int) + 1) a' = F r a') → L (k + 1) (i : Int) a = F (x :: r) a)
    (K : Nat) (hK : l.length < K) (a : A) (ha : I 0 a) : L K 0 a = F l a := by
  have := loop_idx l.length L (fun i a => F (l.drop i) a) I
    (fun k a h => by rw [hend k a h, List.drop_eq_nil_of_le (Nat.le_refl _)])
    (fun k i a h1 h2 h3 => by
      rw [drop_at d h1]
      exact hstep k i a _ _ h1 rfl h2 h3) l.length K 0 a (by omega) hK ha
  simpa using this
/-- Lists that are short enough for every count. -/
def Short {α : Type _} (l : List α) : Prop := l.length ≤ 4194304
abbrev Fuel (N : Nat) : Prop := 1099511627776 < N
/-- The fuel with which the laws are told. -/
def N0 : Nat := 1099511627777
theorem hN0 : Fuel N0 := by unfold Fuel N0; omega
theorem wf_len {e : Ty} {l : List e.D} (h : Wf (.sl .frz e) l) : (l.length : Int) ≤ 9223372036854775807 := by
  have := h.1
  unfold maxLen at this
  omega
/-- What a loop that copies has behind it. -/
theorem copy_step {α : Type _} {l m : List α} {i : Nat} {d : α} (hi : i < l.length) (hm : m.length = l.length) (h : m.take i = l.take i) : (m.set i (l.getD i d)).take (i + 1) = l.take (i + 1) := by
  rw [getD_lt hi]
  apply List.ext_getElem?
  intro j
  simp only [List.getElem?_take, List.getElem?_set]
  by_cases hj : j < i + 1
  · simp only [if_pos hj]
    by_cases e : i = j
    · subst e; simp [hm, hi]
    · simp only [if_neg e]
      have := congrArg (fun l => l[j]?) h
      simp only [List.getElem?_take, show j < i by omega, if_true] at this
      exact this
  · simp only [if_neg hj]
theorem copy_end {α : Type _} {l m : List α} (hm : m.length = l.length) (h : m.take l.length = l.take l.length) : m = l := by
  rwa [List.take_of_length_le (by omega), List.take_of_length_le (by omega)] at h
theorem toUint64S_eq (N : Nat) (hN : Fuel N) (a : List Int) (ha : Short a) : laws_toUint64S N a = some ((), a) := by
  unfold Short at ha
  have := loop_idx a.length (fun k i m => laws_toUint64S.l0 N k a i m) (fun _ _ => some ((), a)) (fun i m => m.length = a.length ∧ m.take i = a.take i)
    (fun k m ⟨h1, h2⟩ => by simp (disch := omega) only [laws_toUint64S.l0, cf, copy_end h1 h2])
    (fun k i m hi ⟨h1, h2⟩ ih => by
      have := ih (m.set i (a.getD i 0)) ⟨by simp [h1], copy_step hi h1 h2⟩
      simp (disch := omega) only [laws_toUint64S.l0, ct, bnd, w64, Int.toNat_natCast, this])
    a.length N 0 (List.replicate a.length 0) (by omega) (by omega) ⟨by simp, by simp⟩
  simp (disch := omega) only [laws_toUint64S, ct, Int.toNat_natCast]
  exact this
theorem eqUint64S_eq (N : Nat) (hN : Fuel N) (a : List Int) (ha : Short a) : laws_eqUint64S N a a = some (true, ()) := by
  unfold Short at ha
  have := loop_idx a.length (fun k i (_ : Unit) => laws_eqUint64S.l0 N k a a i) (fun _ _ => some (true, ())) (fun i m => True)
    (fun k m _ => by simp (disch := omega) only [laws_eqUint64S.l0, cf])
    (fun k i m hi _ ih => by simp (disch := omega) only [laws_eqUint64S.l0, ct, bnd, w64, Int.toNat_natCast, bne_self_eq_false, cond_false, ih () trivial])
    a.length N 0 () (by omega) (by omega) trivial
  simp only [laws_eqUint64S, bne_self_eq_false, cond_false]
  exact this
theorem toBookOp_eq (N : Nat) (a) : laws_toBookOp N a = some (a, ()) := rfl
theorem eqBookOp_eq (N : Nat) (a) : laws_eqBookOp N a a = some (true, ()) := by simp only [laws_eqBookOp, bne_self_eq_false, cond_false]
/-- A count against which lists are held: the rest, or -1. -/
def rest (left n : Int) : Int := if left - n < 0 then -1 else left - n
abbrev Gst := Bool × Int × Int × Bool × (Int × Int × Int × Int) × Int × Int × Int × Int × Int × Int × Int × Bool × Int × Int × Int × Int × Int × List Int × List Int × Int × Int × Int
abbrev gst0 : Gst := (false, 0, 0, false, (0, 0, 0, 0), 0, 0, 0, 0, 0, 0, 0, false, 0, 0, 0, 0, 0, [], [], 0, 0, 0)
abbrev Wld := List Int × List Gst
def gSnap (g : Gst) : List Int := g.2.2.2.2.2.2.2.2.2.2.2.2.2.2.2.2.2.2.1
def gPlan (g : Gst) : List Int := g.2.2.2.2.2.2.2.2.2.2.2.2.2.2.2.2.2.2.2.1
/-- How much a guest and a world hold. -/
def szG (g : Gst) : Int := (gSnap g).length + (gPlan g).length
def szGs : List Gst → Int
  | [] => 0
  | g :: r => szG g + szGs r
theorem szGs_ge : ∀ l : List Gst, 0 ≤ szGs l
  | [] => Int.le_refl _
  | g :: r => by have := szGs_ge r; simp only [szGs, szG]; omega
/-- Every list is as short as a list of Go can be. -/
def GLens (g : Gst) : Prop := ((gSnap g).length : Int) ≤ 9223372036854775807 ∧ ((gPlan g).length : Int) ≤ 9223372036854775807
def WLens (w : Wld) : Prop := (w.1.length : Int) ≤ 9223372036854775807 ∧ (w.2.length : Int) ≤ 9223372036854775807 ∧ ∀ g ∈ w.2, GLens g
def szW (w : Wld) : Int := w.1.length + (w.2.length + szGs w.2)
theorem szUint64S_eq (N : Nat) (a : List Int) (left : Int) (h : 0 ≤ left) (h2 : left ≤ 1048576) (h3 : (a.length : Int) ≤ 9223372036854775807) : laws_szUint64S N a left = some (rest left a.length, ()) := by
  simp (disch := omega) only [laws_szUint64S, w64, cnd, rest]
  split <;> rfl
theorem szGuest_eq (N : Nat) (g : Gst) (left : Int) (h : 0 ≤ left) (h2 : left ≤ 1048576) (h3 : GLens g) : laws_szGuest N g left = some (rest left (szG g), ()) := by
  have h4 := h3.1
  have h5 := h3.2
  unfold gSnap at h4
  unfold gPlan at h5
  unfold laws_szGuest szG gSnap gPlan
  rw [szUint64S_eq N _ left h h2 h4]
  simp only [Option.bind_some, rest]
  by_cases c : left - (g.2.2.2.2.2.2.2.2.2.2.2.2.2.2.2.2.2.2.1.length : Int) < 0
  · rw [if_pos c, if_pos (by omega)]; rfl
  · rw [if_neg c, cf c, szUint64S_eq N _ _ (by omega) (by omega) h5]
    simp only [Option.bind_some, rest]
    by_cases c2 : left - (g.2.2.2.2.2.2.2.2.2.2.2.2.2.2.2.2.2.2.1.length : Int) - (g.2.2.2.2.2.2.2.2.2.2.2.2.2.2.2.2.2.2.2.1.length : Int) < 0
    · rw [if_pos c2, if_pos (by omega)]; rfl
    · rw [if_neg c2, if_neg (by omega), cf c2]
      congr 2; omega
theorem szGuestS_eq (N : Nat) (hN : Fuel N) (l : List Gst) (left : Int) (h : 0 ≤ left) (h2 : left ≤ 1048576) (h3 : (l.length : Int) ≤ 9223372036854775807) (h4 : ∀ g ∈ l, GLens g) : laws_szGuestS N l left = some (rest left (l.length + szGs l), ()) := by
  have hs := szGs_ge l
  simp (disch := omega) only [laws_szGuestS, w64]
  by_cases c : left - (l.length : Int) < 0
  · rw [ct c, rest, if_pos (by omega)]
  rw [cf c]
  have := loop_list gst0 l (fun k i a => laws_szGuestS.l0 N k l a i) (fun r a => some (rest a (szGs r), ())) (fun i a => 0 ≤ a ∧ a ≤ 1048576)
    (fun k a ⟨h1, h2⟩ => by
      have e : rest a (szGs []) = a := by unfold rest szGs; split <;> omega
      simp (disch := omega) only [laws_szGuestS.l0, cf, e])
    (fun k i a x r hi hx ⟨ha, hb⟩ ih => by
      have hm : x ∈ l := by rw [← hx, getD_lt hi]; exact List.getElem_mem hi
      have hg := szGs_ge r
      simp (disch := omega) only [laws_szGuestS.l0, ct, bnd, Int.toNat_natCast, hx, w64, szGuest_eq N x a ha hb (h4 x hm), Option.bind_some, szGs]
      by_cases c : a - szG x < 0
      · rw [rest, if_pos c, rest, if_pos (by omega)]; rfl
      · have hz : 0 ≤ szG x := by unfold szG; omega
        rw [rest, if_neg c, cf c, ih _ ⟨by omega, by omega⟩, rest, rest]
        congr 2
        by_cases c2 : a - szG x - szGs r < 0
        · rw [if_pos c2, if_pos (by omega)]
        · rw [if_neg c2, if_neg (by omega)]; omega)
    N (by omega) (left - l.length) ⟨by omega, by omega⟩
  rw [this, rest, rest]
  congr 2
  by_cases c2 : left - (l.length : Int) - szGs l < 0
  · rw [if_pos c2, if_pos (by omega)]
  · rw [if_neg c2, if_neg (by omega)]; omega
theorem szWorld_eq (N : Nat) (hN : Fuel N) (w : Wld) (left : Int) (h : 0 ≤ left) (h2 : left ≤ 1048576) (h3 : WLens w) : laws_szWorld N w left = some (rest left (szW w), ()) := by
  obtain ⟨g1, g2, g3⟩ := h3
  have hs := szGs_ge w.2
  unfold laws_szWorld szW
  rw [szUint64S_eq N _ left h h2 g1]
  simp only [Option.bind_some, rest]
  by_cases c : left - (w.1.length : Int) < 0
  · rw [if_pos c, if_pos (by omega)]; rfl
  · rw [if_neg c, cf c, szGuestS_eq N hN _ _ (by omega) (by omega) g2 g3]
    simp only [Option.bind_some, rest]
    by_cases c2 : left - (w.1.length : Int) - (w.2.length + szGs w.2) < 0
    · rw [if_pos c2, if_pos (by omega)]; rfl
    · rw [if_neg c2, if_neg (by omega), cf c2]
      congr 2; omega
/-- All lists of a guest, of a world, are short. -/
def GShort (g : Gst) : Prop := Short (gSnap g) ∧ Short (gPlan g)
def WShort (w : Wld) : Prop := Short w.1 ∧ Short w.2 ∧ ∀ g ∈ w.2, GShort g
theorem szGs_mem : ∀ (l : List Gst) (g : Gst), g ∈ l → szG g ≤ szGs l
  | [], g, h => by simp at h
  | x :: r, g, h => by
    have := szGs_ge r
    rcases List.mem_cons.1 h with rfl | h
    · simp only [szGs]; omega
    · have := szGs_mem r g h
      have : 0 ≤ szG x := by unfold szG; omega
      simp only [szGs]; omega
theorem WShort.of {w : Wld} (h : szW w ≤ 1048576) : WShort w := by
  have h1 := szGs_ge w.2
  unfold szW at h
  refine ⟨by unfold Short; omega, by unfold Short; omega, fun g hg => ?_⟩
  have := szGs_mem w.2 g hg
  unfold szG at this
  exact ⟨by unfold Short; omega, by unfold Short; omega⟩
theorem toGuest_eq (N : Nat) (hN : Fuel N) (g : Gst) (h : GShort g) : laws_toGuest N g = some ((g.1, g.2.1, g.2.2.1, g.2.2.2.1, g.2.2.2.2.1, g.2.2.2.2.2.1, g.2.2.2.2.2.2.1, g.2.2.2.2.2.2.2.1, g.2.2.2.2.2.2.2.2.1, g.2.2.2.2.2.2.2.2.2.1, g.2.2.2.2.2.2.2.2.2.2.1, g.2.2.2.2.2.2.2.2.2.2.2.1, g.2.2.2.2.2.2.2.2.2.2.2.2.1, g.2.2.2.2.2.2.2.2.2.2.2.2.2.1, g.2.2.2.2.2.2.2.2.2.2.2.2.2.2.1, g.2.2.2.2.2.2.2.2.2.2.2.2.2.2.2.1, g.2.2.2.2.2.2.2.2.2.2.2.2.2.2.2.2.1, g.2.2.2.2.2.2.2.2.2.2.2.2.2.2.2.2.2.1, (), (), g.2.2.2.2.2.2.2.2.2.2.2.2.2.2.2.2.2.2.2.2), (gSnap g, gPlan g)) := by
  have h1 := h.1
  have h2 := h.2
  unfold gSnap at h1
  unfold gPlan at h2
  simp only [laws_toGuest, toBookOp_eq, Option.bind_some, toUint64S_eq N hN _ h1, toUint64S_eq N hN _ h2]
  rfl
theorem toGuestS_eq (N : Nat) (hN : Fuel N) (a : List Gst) (ha : Short a) (hg : ∀ g ∈ a, GShort g) : laws_toGuestS N a = some ((), a) := by
  unfold Short at ha
  have := loop_idx a.length (fun k i m => laws_toGuestS.l0 N k a i m) (fun _ _ => some ((), a)) (fun i m => m.length = a.length ∧ m.take i = a.take i)
    (fun k m ⟨h1, h2⟩ => by simp (disch := omega) only [laws_toGuestS.l0, cf, copy_end h1 h2])
    (fun k i m hi ⟨h1, h2⟩ ih => by
      have := ih (m.set i (a.getD i gst0)) ⟨by simp [h1], copy_step hi h1 h2⟩
      have hm : GShort (a.getD i gst0) := hg _ (by rw [getD_lt hi]; exact List.getElem_mem hi)
      simp (disch := omega) only [laws_toGuestS.l0, ct, bnd, w64, Int.toNat_natCast, toGuest_eq N hN _ hm, Option.bind_some]
      exact this)
    a.length N 0 (List.replicate a.length gst0) (by omega) (by omega) ⟨by simp, by simp⟩
  simp (disch := omega) only [laws_toGuestS, ct, Int.toNat_natCast]
  exact this
theorem toWorld_eq (N : Nat) (hN : Fuel N) (w : Wld) (h : WShort w) : laws_toWorld N w = some (((), ()), w) := by
  simp only [laws_toWorld, toUint64S_eq N hN _ h.1, toGuestS_eq N hN _ h.2.1 h.2.2, Option.bind_some]
theorem eqGuest_eq (N : Nat) (hN : Fuel N) (g : Gst) (h : GShort g) : laws_eqGuest N g g = some (true, ()) := by
  have h1 := h.1
  have h2 := h.2
  unfold gSnap at h1
  unfold gPlan at h2
  simp only [laws_eqGuest, eqBookOp_eq, bne_self_eq_false, cond_false, beq_self_eq_true, Bool.not_true, Option.bind_some, eqUint64S_eq N hN _ h1, eqUint64S_eq N hN _ h2]
theorem eqGuestS_eq (N : Nat) (hN : Fuel N) (a : List Gst) (ha : Short a) (hg : ∀ g ∈ a, GShort g) : laws_eqGuestS N a a = some (true, ()) := by
  unfold Short at ha
  have := loop_idx a.length (fun k i (_ : Unit) => laws_eqGuestS.l0 N k a a i) (fun _ _ => some (true, ())) (fun i m => True)
    (fun k m _ => by simp (disch := omega) only [laws_eqGuestS.l0, cf])
    (fun k i m hi _ ih => by
      have hm : GShort (a.getD i gst0) := hg _ (by rw [getD_lt hi]; exact List.getElem_mem hi)
      simp (disch := omega) only [laws_eqGuestS.l0, ct, bnd, w64, Int.toNat_natCast, eqGuest_eq N hN _ hm, Option.bind_some, Bool.not_true, cond_false, ih () trivial])
    a.length N 0 () (by omega) (by omega) trivial
  simp only [laws_eqGuestS, bne_self_eq_false, cond_false]
  exact this
theorem eqWorld_eq (N : Nat) (hN : Fuel N) (w : Wld) (h : WShort w) : laws_eqWorld N w w = some (true, ()) := by
  simp only [laws_eqWorld, eqUint64S_eq N hN _ h.1, eqGuestS_eq N hN _ h.2.1 h.2.2, Option.bind_some, Bool.not_true, cond_false]
theorem eq_step {α : Type _} [DecidableEq α] {a b : List α} {i : Nat} {d : α} (h : a.length = b.length) (hi : i < a.length) : decide (a.drop i = b.drop i) = ((a.getD i d == b.getD i d) && decide (a.drop (i + 1) = b.drop (i + 1))) := by
  rw [drop_at d hi, drop_at (l := b) d (by omega)]
  simp only [List.cons.injEq, Bool.decide_and]
  rfl
theorem spec_l12Words_eq (N : Nat) (hN : Fuel N) (a b : List Int) (ha : Short a) : spec_l12Words N a b = some (decide (a = b), ()) := by
  unfold Short at ha
  unfold spec_l12Words
  by_cases hl : a.length = b.length
  rotate_left
  · rw [bne_iff_ne.2 (by omega), cond_true, df (by intro e; rw [e] at hl; exact hl rfl)]
  have := loop_idx a.length (fun k i (_ : Unit) => spec_l12Words.l0 N k a b i) (fun i _ => some (decide (a.drop i = b.drop i), ())) (fun i m => True)
    (fun k m _ => by
      have e : decide (a.drop a.length = b.drop a.length) = true := by rw [hl, List.drop_length, ← hl, List.drop_length]; rfl
      simp (disch := omega) only [spec_l12Words.l0, cf, e])
    (fun k i m hi _ ih => by
      rw [eq_step (d := 0) hl hi]
      simp (disch := omega) only [spec_l12Words.l0, ct, bnd, w64, Int.toNat_natCast, ih () trivial]
      by_cases e : a.getD i 0 = b.getD i 0
      · rw [e, bne_self_eq_false, cond_false, beq_self_eq_true, Bool.true_and]
      · rw [bne_iff_ne.2 e, cond_true, beq_eq_false_iff_ne.2 e, Bool.false_and])
    a.length N 0 () (by omega) (by omega) trivial
  have e : ((a.length : Int) != (b.length : Int)) = false := by rw [hl, bne_self_eq_false]
  rw [e, cond_false]
  exact this
theorem slices_EqualU_eq (N : Nat) (hN : Fuel N) (a b : List Int) (ha : Short a) : slices_Equal_uint64_uint64 N a b = some (decide (a = b), ()) := by
  unfold Short at ha
  unfold slices_Equal_uint64_uint64
  by_cases hl : a.length = b.length
  rotate_left
  · rw [bne_iff_ne.2 (by omega), cond_true, df (by intro e; rw [e] at hl; exact hl rfl)]
  have := loop_idx a.length (fun k i (_ : Unit) => slices_Equal_uint64_uint64.l0 N k a b a.length i) (fun i _ => some (decide (a.drop i = b.drop i), ())) (fun i m => True)
    (fun k m _ => by
      have e : decide (a.drop a.length = b.drop a.length) = true := by rw [hl, List.drop_length, ← hl, List.drop_length]; rfl
      simp (disch := omega) only [slices_Equal_uint64_uint64.l0, cf, e])
    (fun k i m hi _ ih => by
      rw [eq_step (d := 0) hl hi]
      simp (disch := omega) only [slices_Equal_uint64_uint64.l0, ct, bnd, w64, Int.toNat_natCast, ih () trivial]
      by_cases e : a.getD i 0 = b.getD i 0
      · rw [e, bne_self_eq_false, cond_false, beq_self_eq_true, Bool.true_and]
      · rw [bne_iff_ne.2 e, cond_true, beq_eq_false_iff_ne.2 e, Bool.false_and])
    a.length N 0 () (by omega) (by omega) trivial
  have e : ((a.length : Int) != (b.length : Int)) = false := by rw [hl, bne_self_eq_false]
  rw [e, cond_false]
  exact this
/-- Two guests are the same. -/
def sameG (a b : Gst) : Bool := decide (gSnap a = gSnap b) && (decide (gPlan a = gPlan b) && ((a.1 == b.1) && ((a.2.1 == b.2.1) && ((a.2.2.1 == b.2.2.1) && ((a.2.2.2.1 == b.2.2.2.1) && ((a.2.2.2.2.1.1 == b.2.2.2.2.1.1) && ((a.2.2.2.2.1.2.1 == b.2.2.2.2.1.2.1) && ((a.2.2.2.2.1.2.2.1 == b.2.2.2.2.1.2.2.1) && ((a.2.2.2.2.1.2.2.2 == b.2.2.2.2.1.2.2.2) && ((a.2.2.2.2.2.1 == b.2.2.2.2.2.1) && ((a.2.2.2.2.2.2.1 == b.2.2.2.2.2.2.1) && ((a.2.2.2.2.2.2.2.1 == b.2.2.2.2.2.2.2.1) && ((a.2.2.2.2.2.2.2.2.1 == b.2.2.2.2.2.2.2.2.1) && ((a.2.2.2.2.2.2.2.2.2.1 == b.2.2.2.2.2.2.2.2.2.1) && ((a.2.2.2.2.2.2.2.2.2.2.1 == b.2.2.2.2.2.2.2.2.2.2.1) && ((a.2.2.2.2.2.2.2.2.2.2.2.1 == b.2.2.2.2.2.2.2.2.2.2.2.1) && ((a.2.2.2.2.2.2.2.2.2.2.2.2.1 == b.2.2.2.2.2.2.2.2.2.2.2.2.1) && ((a.2.2.2.2.2.2.2.2.2.2.2.2.2.1 == b.2.2.2.2.2.2.2.2.2.2.2.2.2.1) && ((a.2.2.2.2.2.2.2.2.2.2.2.2.2.2.1 == b.2.2.2.2.2.2.2.2.2.2.2.2.2.2.1) && ((a.2.2.2.2.2.2.2.2.2.2.2.2.2.2.2.1 == b.2.2.2.2.2.2.2.2.2.2.2.2.2.2.2.1) && ((a.2.2.2.2.2.2.2.2.2.2.2.2.2.2.2.2.1 == b.2.2.2.2.2.2.2.2.2.2.2.2.2.2.2.2.1) && ((a.2.2.2.2.2.2.2.2.2.2.2.2.2.2.2.2.2.1 == b.2.2.2.2.2.2.2.2.2.2.2.2.2.2.2.2.2.1) && ((a.2.2.2.2.2.2.2.2.2.2.2.2.2.2.2.2.2.2.2.2.1 == b.2.2.2.2.2.2.2.2.2.2.2.2.2.2.2.2.2.2.2.2.1) && ((a.2.2.2.2.2.2.2.2.2.2.2.2.2.2.2.2.2.2.2.2.2.1 == b.2.2.2.2.2.2.2.2.2.2.2.2.2.2.2.2.2.2.2.2.2.1) && ((a.2.2.2.2.2.2.2.2.2.2.2.2.2.2.2.2.2.2.2.2.2.2 == b.2.2.2.2.2.2.2.2.2.2.2.2.2.2.2.2.2.2.2.2.2.2))))))))))))))))))))))))))
theorem cb {p q : Bool} : cond p (some (q, ())) (some (false, ())) = some (p && q, ()) := by cases p <;> rfl
theorem cbn {p q : Bool} : cond (!p) (some (false, ())) (some (q, ())) = some (p && q, ()) := by cases p <;> rfl
theorem cbb {p q : Bool} : cond p q false = (p && q) := by cases p <;> rfl
theorem impl_sameGuest_eq (N : Nat) (hN : Fuel N) (a b : Gst) (ha : GShort a) : impl_sameGuest N a b = some (sameG a b, ()) := by
  have h1 := ha.1
  have h2 := ha.2
  unfold gSnap at h1
  unfold gPlan at h2
  simp only [impl_sameGuest, slices_EqualU_eq N hN _ _ h1, slices_EqualU_eq N hN _ _ h2, Option.bind_some, cb, cbn, cbb, sameG, gSnap, gPlan, Bool.and_assoc]
  rfl
theorem spec_l12Guest_eq (N : Nat) (hN : Fuel N) (a b : Gst) (ha : GShort a) : spec_l12Guest N a b = some (sameG a b, ()) := by
  have h1 := ha.1
  have h2 := ha.2
  unfold gSnap at h1
  unfold gPlan at h2
  simp only [spec_l12Guest, spec_l12Words_eq N hN _ _ h1, spec_l12Words_eq N hN _ _ h2, Option.bind_some, cb, cbn, cbb, sameG, gSnap, gPlan]
  congr 2
  ac_rfl
def sameGs : List Gst → List Gst → Bool
  | a :: r, b :: q => sameG a b && sameGs r q
  | _, _ => true
theorem spec_l12Same_eq (N : Nat) (hN : Fuel N) (a b : Wld) (ha : WShort a) : spec_l12Same N a b = some (decide (a.1 = b.1) && (decide (a.2.length = b.2.length) && sameGs a.2 b.2), ()) := by
  obtain ⟨h1, h2, h3⟩ := ha
  unfold Short at h2
  simp only [spec_l12Same, spec_l12Words_eq N hN _ _ h1, Option.bind_some]
  by_cases c : a.1 = b.1
  rotate_left
  · rw [df c]; rfl
  rw [dt c]
  by_cases hl : a.2.length = b.2.length
  rotate_left
  · rw [bne_iff_ne.2 (by omega), df hl]; rfl
  have := loop_idx a.2.length (fun k i (_ : Unit) => spec_l12Same.l0 N k i a b) (fun i _ => some (sameGs (a.2.drop i) (b.2.drop i), ())) (fun i m => True)
    (fun k m _ => by
      rw [List.drop_length]
      simp (disch := omega) only [spec_l12Same.l0, cf, sameGs])
    (fun k i m hi _ ih => by
      have hm : GShort (a.2.getD i gst0) := h3 _ (by rw [getD_lt hi]; exact List.getElem_mem hi)
      rw [drop_at gst0 hi, drop_at (l := b.2) gst0 (by omega)]
      simp (disch := omega) only [spec_l12Same.l0, ct, bnd, w64, Int.toNat_natCast, ih () trivial, spec_l12Guest_eq N hN _ _ hm, Option.bind_some, sameGs, cbn])
    a.2.length N 0 () (by omega) (by omega) trivial
  have e : ((a.2.length : Int) != (b.2.length : Int)) = false := by rw [hl, bne_self_eq_false]
  rw [e, dt hl]
  exact this
theorem slices_EqualFunc_eq (N : Nat) (hN : Fuel N) (a b : List Gst) (h2 : Short a) (h3 : ∀ g ∈ a, GShort g) : slices_EqualFunc_loop_example_hostel_impl_Guest_loop_example_hostel_impl_Guest_loop_example_hostel_impl_Guest_loop_example_hostel_impl_Guest N a b () = some (decide (a.length = b.length) && sameGs a b, ()) := by
  unfold Short at h2
  unfold slices_EqualFunc_loop_example_hostel_impl_Guest_loop_example_hostel_impl_Guest_loop_example_hostel_impl_Guest_loop_example_hostel_impl_Guest
  by_cases hl : a.length = b.length
  rotate_left
  · rw [bne_iff_ne.2 (by omega), df hl]; rfl
  have := loop_idx a.length (fun k i (_ : Unit) => slices_EqualFunc_loop_example_hostel_impl_Guest_loop_example_hostel_impl_Guest_loop_example_hostel_impl_Guest_loop_example_hostel_impl_Guest.l0 N k b () a a.length i) (fun i _ => some (sameGs (a.drop i) (b.drop i), ())) (fun i m => True)
    (fun k m _ => by
      rw [List.drop_length]
      simp (disch := omega) only [slices_EqualFunc_loop_example_hostel_impl_Guest_loop_example_hostel_impl_Guest_loop_example_hostel_impl_Guest_loop_example_hostel_impl_Guest.l0, cf, sameGs])
    (fun k i m hi _ ih => by
      have hm : GShort (a.getD i gst0) := h3 _ (by rw [getD_lt hi]; exact List.getElem_mem hi)
      rw [drop_at gst0 hi, drop_at (l := b) gst0 (by omega)]
      simp (disch := omega) only [slices_EqualFunc_loop_example_hostel_impl_Guest_loop_example_hostel_impl_Guest_loop_example_hostel_impl_Guest_loop_example_hostel_impl_Guest.l0, ct, bnd, w64, Int.toNat_natCast, ih () trivial, impl_sameGuest_eq N hN _ _ hm, Option.bind_some, sameGs, cbn])
    a.length N 0 () (by omega) (by omega) trivial
  have e : ((a.length : Int) != (b.length : Int)) = false := by rw [hl, bne_self_eq_false]
  rw [e, dt hl]
  exact this
def forkSame (a b : Wld) : Bool := decide (a.1 = b.1) && (decide (a.2.length = b.2.length) && sameGs a.2 b.2)
theorem spec_ForkSame_eq (N : Nat) (hN : Fuel N) (a b : Wld) (ha : WShort a) : spec_ForkSame N a b = some (forkSame a b, ()) := by
  simp only [spec_ForkSame, spec_l12Same_eq N hN a b ha, Option.bind_some, forkSame]
theorem impl_ForkSame_eq (N : Nat) (hN : Fuel N) (a b : Wld) (ha : WShort a) : impl_ForkSame N a b = some (forkSame a b, ()) := by
  simp only [impl_ForkSame, slices_EqualU_eq N hN _ _ ha.1, slices_EqualFunc_eq N hN _ _ ha.2.1 ha.2.2, Option.bind_some, forkSame, cb]
theorem plainForkSame (N : Nat) (hN : Fuel N) (a b : Wld) (ha : WLens a) (hb : WLens b) : laws_FnExactForkSame N a b = some (true, ()) := by
  unfold laws_FnExactForkSame
  rw [szWorld_eq N hN a _ (by omega) (by omega) ha]
  simp only [Option.bind_some]
  by_cases h : (1048576 : Int) - szW a < 0
  · rw [rest, if_pos h]; rfl
  have h0 := szGs_ge a.2
  have h1 : 0 ≤ szW a := by unfold szW; omega
  rw [rest, if_neg h, cf h, szWorld_eq N hN b _ (by omega) (by omega) hb]
  simp only [Option.bind_some]
  by_cases g : (1048576 : Int) - szW a - szW b < 0
  · rw [rest, if_pos g]; rfl
  have sa := WShort.of (w := a) (by omega)
  have sb := WShort.of (w := b) (by omega)
  rw [rest, if_neg g, cf g]
  simp only [toWorld_eq N hN _ sa, toWorld_eq N hN _ sb, Option.bind_some, spec_ForkSame_eq N hN a b sa, impl_ForkSame_eq N hN a b sa, beq_self_eq_true, Bool.not_true, cond_false, eqWorld_eq N hN _ sa, eqWorld_eq N hN _ sb]
abbrev tyOp : Ty := .agg (.pair (.int .i64) (.pair (.int .i64) (.pair (.int .i64) (.int .i64))))
abbrev tyGst : Ty := .agg (.pair .bool (.pair (.int .i64) (.pair (.int .i64) (.pair .bool (.pair tyOp (.pair (.int .i64) (.pair (.int .i64) (.pair (.int .i64) (.pair (.int .i64) (.pair (.int .i64) (.pair (.int .i64) (.pair (.int .i64) (.pair .bool (.pair (.int .i64) (.pair (.int .u64) (.pair (.int .u64) (.pair (.int .u64) (.pair (.int .u64) (.pair (.sl .frz (.int .u64)) (.pair (.sl .frz (.int .u64)) (.pair (.int .i64) (.pair (.int .i64) (.int .i64)))))))))))))))))))))))
abbrev tyWld : Ty := .agg (.pair (.sl .frz (.int .u64)) (.sl .frz tyGst))
theorem wf_glens {g : Gst} (h : Wf tyGst g) : GLens g := by
  obtain ⟨_, _, _, _, _, _, _, _, _, _, _, _, _, _, _, _, _, _, h1, h2, _⟩ := h
  exact ⟨wf_len h1, wf_len h2⟩
theorem wf_wlens {w : Wld} (h : Wf tyWld w) : WLens w := ⟨wf_len h.1, wf_len h.2, fun g hg => wf_glens (h.2.2 g hg)⟩
theorem lawFnExactForkSame (y0 y1 : Wld) (w0 : Wf tyWld y0) (w1 : Wf tyWld y1) : laws_FnExactForkSame N0 y0 y1 = some (true, ()) :=
  plainForkSame N0 hN0 y0 y1 (wf_wlens w0) (wf_wlens w1)
end Go.Proofs.Ytpanngbbofkeoab.Pv
