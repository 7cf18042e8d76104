/- The plain law of RoundMost: both functions reckon the same number; for all plats and counts. -/
import Derived.Test.YtpanngbbofkeoaaPvPlain
namespace Go.Proofs.Ytpanngbbofkeoaa.Pv
open Go Go.Pv Go.Proofs
set_option linter.unusedVariables false
set_option linter.unusedSimpArgs false

def Plat (a : Int × Int × Int) : Prop := 1 ≤ a.1 ∧ a.1 ≤ 4 ∧ 1 ≤ a.2.1 ∧ a.2.1 ≤ 6 ∧ 1 ≤ a.2.2 ∧ a.2.2 ≤ 20
instance (a : Int × Int × Int) : Decidable (Plat a) := inferInstanceAs (Decidable (_ ∧ _))
theorem withinOk (N : Nat) (x lo hi : Int) : impl_within N x lo hi = some (decide (lo ≤ x ∧ x ≤ hi), ()) := by
  unfold impl_within
  by_cases h : lo ≤ x
  · by_cases h2 : x ≤ hi <;> simp [h, h2]
  · simp [h]
theorem specPlatOk (N : Nat) (a : Int × Int × Int) : spec_PlatOk N a = some (decide (Plat a), ()) := by
  unfold spec_PlatOk
  by_cases h0 : a.1 ≥ 1
  rotate_left
  · rw [df (p := Plat a) (by unfold Plat; omega)]; simp only [df h0, cond_false]
  simp only [dt h0, cond_true]
  by_cases h1 : a.1 ≤ 4
  rotate_left
  · rw [df (p := Plat a) (by unfold Plat; omega)]; simp only [df h1, cond_false]
  simp only [dt h1, cond_true]
  by_cases h2 : a.2.1 ≥ 1
  rotate_left
  · rw [df (p := Plat a) (by unfold Plat; omega)]; simp only [df h2, cond_false]
  simp only [dt h2, cond_true]
  by_cases h3 : a.2.1 ≤ 6
  rotate_left
  · rw [df (p := Plat a) (by unfold Plat; omega)]; simp only [df h3, cond_false]
  simp only [dt h3, cond_true]
  by_cases h4 : a.2.2 ≥ 1
  rotate_left
  · rw [df (p := Plat a) (by unfold Plat; omega)]; simp only [df h4, cond_false]
  simp only [dt h4, cond_true]
  congr 2
  by_cases h : a.2.2 ≤ 20
  · rw [dt h, dt (p := Plat a) (by unfold Plat; omega)]
  · rw [df h, df (p := Plat a) (by unfold Plat; omega)]
theorem implPlatOk (N : Nat) (a : Int × Int × Int) : impl_PlatOk N a = some (decide (Plat a), ()) := by
  unfold impl_PlatOk
  simp only [withinOk, Option.bind_some]
  by_cases h1 : 1 ≤ a.1 ∧ a.1 ≤ 4
  rotate_left
  · rw [df (p := Plat a) (by unfold Plat; omega)]; simp only [df h1, cond_false]
  simp only [dt h1, cond_true]
  by_cases h2 : 1 ≤ a.2.1 ∧ a.2.1 ≤ 6
  rotate_left
  · rw [df (p := Plat a) (by unfold Plat; omega)]; simp only [df h2, cond_false]
  simp only [dt h2, cond_true]
  congr 2
  by_cases h : 1 ≤ a.2.2 ∧ a.2.2 ≤ 20
  · rw [dt h, dt (p := Plat a) (by unfold Plat; omega)]
  · rw [df h, df (p := Plat a) (by unfold Plat; omega)]
theorem houseOk (N : Nat) (a : Int × Int × Int) (h : Plat a) : spec_l2House N a = some (7 + 2 * a.1 + 17 * a.2.1, ()) := by
  unfold Plat at h
  unfold spec_l2House
  rw [w64 (n := 2 * a.1) (by omega) (by omega), w64 (n := 3 + 2 * a.1) (by omega) (by omega), w64 (n := 3 + 2 * a.1 + 4) (by omega) (by omega), w64 (n := 3 + 2 * a.1 + 4 + a.2.1) (by omega) (by omega), w64 (n := 16 * a.2.1) (by omega) (by omega), w64 (by omega) (by omega)]
  congr 2; omega
theorem deskOk (N : Nat) (a : Int × Int × Int) (h : Plat a) : impl_PlatCfg_deskAt N a = some (7 + 2 * a.1 + 17 * a.2.1, ()) := by
  unfold Plat at h
  unfold impl_PlatCfg_deskAt impl_PlatCfg_linkAt impl_PlatCfg_tagAt impl_PlatCfg_pageAt impl_PlatCfg_headAt impl_PlatCfg_beatAt impl_PlatCfg_regAt
  simp only [Option.bind_some]
  rw [w64 (n := 3 + a.1) (by omega) (by omega), w64 (n := 3 + a.1 + a.1) (by omega) (by omega), w64 (n := 3 + a.1 + a.1 + 4) (by omega) (by omega), w64 (n := 3 + a.1 + a.1 + 4 + a.2.1) (by omega) (by omega), w64 (n := 8 * a.2.1) (by omega) (by omega),
    w64 (n := 3 + a.1 + a.1 + 4 + a.2.1 + 8 * a.2.1) (by omega) (by omega), w64 (by omega) (by omega)]
  congr 2; omega

theorem plainRoundMost (N : Nat) (a : Int × Int × Int) (n : Int) : laws_FnExactRoundMost N a n = some (true, ()) := by
  unfold laws_FnExactRoundMost laws_toPlatCfg spec_RoundMost impl_RoundMost spec_SoloMost impl_SoloMost
  simp only [Option.bind_some, specPlatOk, implPlatOk, withinOk]
  by_cases hP : Plat a
  · simp only [houseOk N a hP, deskOk N a hP, dt hP, Bool.not_true, cond_false, Option.bind_some]
    have hP' := hP
    unfold Plat at hP'
    rw [w64 (n := 7 + 2 * a.1 + 17 * a.2.1 + 260) (by omega) (by omega), w64 (n := 260 + (7 + 2 * a.1 + 17 * a.2.1)) (by omega) (by omega)]
    by_cases h1 : n < 0
    · have h3 : ¬ (0 ≤ n ∧ n ≤ 6) := by omega
      simp only [dt h1, df h3, cond_true, Bool.not_false, Option.bind_some, bne_self_eq_false, cond_false]
    · by_cases h2 : n > 6
      · have h3 : ¬ (0 ≤ n ∧ n ≤ 6) := by omega
        simp only [df h1, dt h2, df h3, cond_true, cond_false, Bool.not_false, Option.bind_some, bne_self_eq_false]
      · have h3 : 0 ≤ n ∧ n ≤ 6 := by omega
        simp only [df h1, df h2, dt h3, cond_false, Bool.not_true, Option.bind_some]
        have e : (260 + (7 + 2 * a.1 + 17 * a.2.1)) * n = n * (7 + 2 * a.1 + 17 * a.2.1 + 260) := by rw [Int.mul_comm]; congr 1; omega
        rw [e, bne_self_eq_false, cond_false]
  · simp only [df hP, Bool.not_false, cond_true, Option.bind_some]
    have e : IntKind.i64.wrap ((0 : Int) * n) = 0 := by rw [Int.zero_mul]; exact w64 (by omega) (by omega)
    by_cases h3 : 0 ≤ n ∧ n ≤ 6
    · simp only [dt h3, Bool.not_true, cond_false, Option.bind_some, e, bne_self_eq_false]
    · simp only [df h3, Bool.not_false, cond_true, Option.bind_some, bne_self_eq_false, cond_false]
end Go.Proofs.Ytpanngbbofkeoaa.Pv
