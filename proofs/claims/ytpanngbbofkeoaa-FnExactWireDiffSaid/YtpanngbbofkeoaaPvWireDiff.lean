/- The plain law of WireDiff: what the two functions compute is equal, and the arguments stay as they were; for all lists of words. -/
import Derived.Test.YtpanngbbofkeoaaPvPlain
namespace Go.Proofs.Ytpanngbbofkeoaa.Pv
open Go Go.Pv Go.Proofs
set_option linter.unusedVariables false
set_option linter.unusedSimpArgs false

/-- The places from i on, n of them, where the lists are not equal. -/
def diff (a b : List Int) : Nat → Int → List Int
  | 0, _ => []
  | n + 1, i => (if i ≥ (a.length : Int) then [i] else if i ≥ (b.length : Int) then [i] else if a.getD i.toNat 0 = b.getD i.toNat 0 then [] else [i]) ++ diff a b n (i + 1)
theorem diff_len (a b : List Int) : ∀ n i, (diff a b n i).length ≤ n
  | 0, _ => by simp [diff]
  | n + 1, i => by
    have := diff_len a b n (i + 1)
    simp only [diff, List.length_append]
    split
    · simp; omega
    · split
      · simp; omega
      · split <;> simp <;> omega

theorem impl_diff (N : Nat) (a b : List Int) (m : Int) (hm : m ≤ 1048576) (ha : (a.length : Int) ≤ m) (hb : (b.length : Int) ≤ m) : ∀ (n k : Nat) (out : List Int) (i : Int), 0 ≤ i → i + n = m → n < k → out.length + n ≤ 4194304 →
    impl_WireDiff.l0 N k a b m i out = some ((), out ++ diff a b n i)
  | 0, k + 1, out, i, h0, h1, h2, h3 => by
    have : ¬ i < m := by omega
    simp [impl_WireDiff.l0, this, diff]
  | n + 1, k + 1, out, i, h0, h1, h2, h3 => by
    have hi : i < m := by omega
    have hl : out.length + [i].length ≤ 17592186044416 := by simp; omega
    have hw : IntKind.i64.wrap (i + 1) = i + 1 := w64 (by omega) (by omega)
    have ih1 := impl_diff N a b m hm ha hb n k (out ++ [i]) (i + 1) (by omega) (by omega) (by omega) (by simp; omega)
    have ih2 := impl_diff N a b m hm ha hb n k out (i + 1) (by omega) (by omega) (by omega) (by omega)
    simp only [impl_WireDiff.l0, dt hi, dt h0, dt hl, cond_true, hw, diff]
    by_cases g1 : i ≥ (a.length : Int)
    · simp only [dt g1, cond_true, if_pos g1, ih1, List.append_assoc]
    · simp only [df g1, cond_false, if_neg g1]
      by_cases g2 : i ≥ (b.length : Int)
      · simp only [dt g2, cond_true, if_pos g2, ih1, List.append_assoc]
      · simp only [df g2, cond_false, if_neg g2]
        have g3 : i < (a.length : Int) := by omega
        have g4 : i < (b.length : Int) := by omega
        simp only [dt g3, dt g4, cond_true]
        by_cases g5 : a.getD i.toNat 0 = b.getD i.toNat 0
        · rw [if_pos g5, g5, bne_self_eq_false, cond_false, ih2, List.nil_append]
        · rw [if_neg g5, bne_iff_ne.2 g5, cond_true, ih1, List.append_assoc]
  | n, 0, out, i, h0, h1, h2, h3 => by omega

theorem spec_diff (N : Nat) (a b : List Int) (m : Int) (hm : m ≤ 1048576) (ha : (a.length : Int) ≤ m) (hb : (b.length : Int) ≤ m) (hx : (a.length : Int) = m ∨ (b.length : Int) = m) : ∀ (n k : Nat) (out : List Int) (i : Int), 0 ≤ i → i + n = m → n < k → out.length + n ≤ 4194304 →
    spec_WireDiff.l0 N k a b i out = some ((), out ++ diff a b n i)
  | 0, k + 1, out, i, h0, h1, h2, h3 => by
    have g1 : ¬ i < (a.length : Int) := by omega
    have g2 : ¬ i < (b.length : Int) := by omega
    simp [spec_WireDiff.l0, g1, g2, diff]
  | n + 1, k + 1, out, i, h0, h1, h2, h3 => by
    have hi : i < m := by omega
    have hl : out.length + [i].length ≤ 17592186044416 := by simp; omega
    have hw : IntKind.i64.wrap (i + 1) = i + 1 := w64 (by omega) (by omega)
    have ih1 := spec_diff N a b m hm ha hb hx n k (out ++ [i]) (i + 1) (by omega) (by omega) (by omega) (by simp; omega)
    have ih2 := spec_diff N a b m hm ha hb hx n k out (i + 1) (by omega) (by omega) (by omega) (by omega)
    simp only [spec_WireDiff.l0, dt h0, dt hl, cond_true, hw, diff]
    by_cases g1 : i ≥ (a.length : Int)
    · have g3 : ¬ i < (a.length : Int) := by omega
      have g4 : i < (b.length : Int) := by omega
      simp only [df g3, dt g4, dt g1, cond_true, cond_false, if_pos g1, ih1, List.append_assoc]
    · have g3 : i < (a.length : Int) := by omega
      simp only [dt g3, df g1, cond_true, cond_false, if_neg g1]
      by_cases g2 : i ≥ (b.length : Int)
      · simp only [dt g2, cond_true, if_pos g2, ih1, List.append_assoc]
      · simp only [df g2, cond_false, if_neg g2]
        have g4 : i < (b.length : Int) := by omega
        simp only [dt g4, cond_true]
        by_cases g5 : a.getD i.toNat 0 = b.getD i.toNat 0
        · rw [if_pos g5, g5, bne_self_eq_false, cond_false, ih2, List.nil_append]
        · rw [if_neg g5, bne_iff_ne.2 g5, cond_true, ih1, List.append_assoc]
  | n, 0, out, i, h0, h1, h2, h3 => by omega

theorem plainWireDiff (a b : List Int) : ∃ N, laws_FnExactWireDiff N a b = some (true, ()) := by
  by_cases ha : (a.length : Int) > 1048576
  · exact ⟨0, by simp only [laws_FnExactWireDiff, dt ha, cond_true]⟩
  by_cases hb : (b.length : Int) > 1048576
  · exact ⟨0, by simp only [laws_FnExactWireDiff, df ha, dt hb, cond_true, cond_false]⟩
  refine ⟨16777217, ?_⟩
  have ha' : a.length ≤ 1048576 := by omega
  have hb' : b.length ≤ 1048576 := by omega
  let m : Int := if (b.length : Int) > (a.length : Int) then (b.length : Int) else (a.length : Int)
  have hmd : m = if (b.length : Int) > (a.length : Int) then (b.length : Int) else (a.length : Int) := rfl
  have m1 : (a.length : Int) ≤ m := by rw [hmd]; split <;> omega
  have m2 : (b.length : Int) ≤ m := by rw [hmd]; split <;> omega
  have m3 : (a.length : Int) = m ∨ (b.length : Int) = m := by rw [hmd]; split <;> omega
  have hm : m ≤ 1048576 := by rcases m3 with h | h <;> omega
  have hdl := diff_len a b m.toNat 0
  generalize hD : diff a b m.toNat 0 = D at hdl
  have hDl : D.length ≤ 1048576 := by omega
  have c1 := copyU 16777217 a (by omega) (by omega)
  have c2 := copyU 16777217 b (by omega) (by omega)
  have s1 : spec_WireDiff 16777217 a b = some ((), D) := by
    unfold spec_WireDiff
    rw [spec_diff 16777217 a b m hm m1 m2 m3 m.toNat 16777217 [] 0 (by omega) (by omega) (by omega) (by simp; omega), hD]; rfl
  have s2 : impl_WireDiff 16777217 a b = some ((), D) := by
    unfold impl_WireDiff
    rw [← hmd, impl_diff 16777217 a b m hm m1 m2 m.toNat 16777217 [] 0 (by omega) (by omega) (by omega) (by simp; omega), hD]; rfl
  have e1 := eqI 16777217 D (by omega) (by omega)
  have e2 := eqU 16777217 a (by omega) (by omega)
  have e3 := eqU 16777217 b (by omega) (by omega)
  obtain ⟨r1, k1⟩ := markU 16777217 a 1 (by omega) (by omega) (by omega) (by omega)
  obtain ⟨r2, k2⟩ := markU 16777217 b (1 + a.length) (by omega) (by omega) (by omega) (by omega)
  obtain ⟨r3, k3, k4⟩ := markI 16777217 D 1 (by omega) (by omega) (by omega) (by omega)
  have n1 : ¬ (1 + (a.length : Int) + b.length < 0) := by omega
  have n2 : ¬ (1 + (D.length : Int) < 0) := by omega
  simp only [laws_FnExactWireDiff, df ha, df hb, cond_false, c1, c2, s1, s2, e1, e2, e3, Option.bind_some, Bool.not_true, k1, k2, k3, k4, df n1, df n2, bne_self_eq_false]
end Go.Proofs.Ytpanngbbofkeoaa.Pv
