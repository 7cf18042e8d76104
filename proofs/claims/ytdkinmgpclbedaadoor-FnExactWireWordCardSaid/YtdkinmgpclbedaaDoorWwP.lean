/- The plain side of FnExactWireWord: what the functions compute, over numbers and lists. -/
import Derived.Test.YtdkinmgpclbedaaDoorWwF
import Derived.Test.YtdkinmgpclbedaaDoorPvRow
namespace Go.Proofs.YtdkinmgpclbedaaDoor.Pv
open Go Go.Pv Go.Proofs
set_option linter.unusedVariables false
set_option linter.unusedSimpArgs false
theorem u64w {n : Int} (h : 0 ≤ n) (h2 : n < 18446744073709551616) : IntKind.u64.wrap n = n := by
  unfold IntKind.wrap
  simp [IntKind.bits, IntKind.signed]
  omega
theorem ct {α : Type _} {p : Prop} [Decidable p] {a b : α} (h : p) : cond (decide p) a b = a := by rw [decide_eq_true h]; rfl
theorem cf {α : Type _} {p : Prop} [Decidable p] {a b : α} (h : ¬ p) : cond (decide p) a b = b := by rw [decide_eq_false h]; rfl
theorem fuel {n k : Nat} (h : n < k) : ∃ j, k = j + 1 := ⟨k - 1, by omega⟩
/-- The fuel with which the laws are told. -/
def N0 : Nat := 1099511627777
theorem wf_u64 {x : Int} (h : (Lit.int .u64 x).wf = true) : 0 ≤ x ∧ x < 18446744073709551616 := by
  simp [Lit.wf, IntKind.min, IntKind.max, IntKind.signed, IntKind.bits] at h
  omega
/-- A digit. -/
def hexd (d : Nat) : UInt8 := if d < 10 then UInt8.ofNat (48 + d) else UInt8.ofNat (87 + d)
/-- A number in hexadecimals. -/
def hx (n : Nat) : List UInt8 := if h : n < 16 then [hexd n] else hx (n / 16) ++ [hexd (n % 16)]
  termination_by n
  decreasing_by omega
theorem hx_small {x : Nat} (h : x < 16) : hx x = [hexd x] := by rw [hx, dif_pos h]
theorem hx_big {x : Nat} (h : ¬ x < 16) : hx x = hx (x / 16) ++ [hexd (x % 16)] := by rw [hx, dif_neg h]
theorem byteAt_hex : ∀ (j : Nat), j < 16 → byteAt (ByteArray.mk #[48, 49, 50, 51, 52, 53, 54, 55, 56, 57, 97, 98, 99, 100, 101, 102]) j = (hexd j).toNat := by
  intro j h
  have : j = 0 ∨ j = 1 ∨ j = 2 ∨ j = 3 ∨ j = 4 ∨ j = 5 ∨ j = 6 ∨ j = 7 ∨ j = 8 ∨ j = 9 ∨ j = 10 ∨ j = 11 ∨ j = 12 ∨ j = 13 ∨ j = 14 ∨ j = 15 := by omega
  rcases this with rfl | rfl | rfl | rfl | rfl | rfl | rfl | rfl | rfl | rfl | rfl | rfl | rfl | rfl | rfl | rfl <;> rfl
theorem spec_l16Hex_eq (N : Nat) (x : Nat) : spec_l16Hex N (x : Int) = some (((hexd (x % 16)).toNat : Int), ()) := by
  have e : Int.tmod (x : Int) 16 = ((x % 16 : Nat) : Int) := by rw [Int.tmod_eq_emod_of_nonneg (by omega)]; omega
  have hm : x % 16 < 16 := Nat.mod_lt _ (by omega)
  have hs : ((ByteArray.mk #[48, 49, 50, 51, 52, 53, 54, 55, 56, 57, 97, 98, 99, 100, 101, 102]).size : Int) = 16 := rfl
  unfold spec_l16Hex
  rw [e, hs, decide_eq_true (by omega), cond_true, decide_eq_true (by omega), cond_true, Int.toNat_natCast, byteAt_hex _ hm]
theorem inBytes_one (c : UInt8) : inBytes [(c.toNat : Int)] = true := by
  have := c.toNat_lt
  show (bif decide ((0 : Int) ≤ (c.toNat : Int)) then bif decide ((c.toNat : Int) < 256) then allByte [] else false else false) = true
  rw [decide_eq_true (by omega), cond_true, decide_eq_true (by omega), cond_true]
  rfl
theorem mkBytes_one (c : UInt8) : mkBytes [(c.toNat : Int)] = ⟨[c].toArray⟩ := by
  unfold mkBytes
  simp
theorem ba_app2 (a b : List UInt8) : (ByteArray.mk a.toArray) ++ (ByteArray.mk b.toArray) = ⟨(a ++ b).toArray⟩ := by
  apply ByteArray.ext
  simp [ByteArray.data_append]
theorem ba_size2 (a : List UInt8) : (ByteArray.mk a.toArray).size = a.length := by simp [ByteArray.size]
theorem spec_WireWord_loop (N : Nat) : ∀ (d k x : Nat) (r : List UInt8), x < 16 ^ d → d < k → d ≤ 16 → r.length + d ≤ 1000 → x < 18446744073709551616 →
    spec_WireWord.l0 N k (x : Int) ⟨(hexd (x % 16) :: r).toArray⟩ = some (⟨(hx x ++ r).toArray⟩, ())
  | 0, k, x, r, h, hk, _, hr, hx64 => by
    obtain ⟨k, rfl⟩ : ∃ j, k = j + 1 := ⟨k - 1, by omega⟩
    have : x < 1 := h
    obtain rfl : x = 0 := by omega
    rw [spec_WireWord.l0, cf (by omega), hx_small (by omega)]
    rfl
  | d + 1, k, x, r, h, hk, h16, hr, hx64 => by
    obtain ⟨k, rfl⟩ : ∃ j, k = j + 1 := ⟨k - 1, by omega⟩
    by_cases c : x < 16
    · rw [spec_WireWord.l0, cf (by omega), hx_small c, Nat.mod_eq_of_lt c]
      rfl
    · have e : IntKind.u64.wrap (Int.tdiv (x : Int) 16) = ((x / 16 : Nat) : Int) := by
        rw [show Int.tdiv (x : Int) 16 = ((x / 16 : Nat) : Int) by rw [Int.tdiv_eq_ediv_of_nonneg (by omega)]; omega]
        exact u64w (by omega) (by omega)
      have big : ∀ n : Nat, n ≤ 2000 → decide ((n : Int) > IntKind.i64.max) = false := fun n hn => decide_eq_false (by show ¬ ((n : Int) > 9223372036854775807); omega)
      rw [spec_WireWord.l0, ct (by omega), e, spec_l16Hex_eq]
      simp only [Option.bind_some]
      rw [inBytes_one, cond_true, mkBytes_one, ba_size2, ba_size2, big _ (by simp only [List.length_cons, List.length_nil]; omega), cond_false, ba_app2, hx_big c, List.append_assoc]
      exact spec_WireWord_loop N d k (x / 16) (hexd (x % 16) :: r) (by rw [Nat.pow_succ] at h; omega) (by omega) (by omega) (by simp only [List.length_cons]; omega) (by omega)
theorem spec_WireWord_eq (N : Nat) (hN : 100 < N) (x : Nat) (h : x < 18446744073709551616) : spec_WireWord N (x : Int) = some (⟨(hx x).toArray⟩, ()) := by
  unfold spec_WireWord
  rw [spec_l16Hex_eq]
  simp only [Option.bind_some]
  rw [inBytes_one, cond_true, mkBytes_one]
  have := spec_WireWord_loop N 16 N x [] h (by omega) (by omega) (by simp) h
  rw [List.append_nil] at this
  exact this
theorem lawWireWordSpec (y0 : Int) (w0 : Wf (.int .u64) y0) : ∃ x : Nat, y0 = x ∧ x < 18446744073709551616 ∧ spec_WireWord N0 (x : Int) = some (⟨(hx x).toArray⟩, ()) := by
  have h := wf_u64 w0
  exact ⟨y0.toNat, by omega, by omega, spec_WireWord_eq N0 (by unfold N0; decide) _ (by omega)⟩
end Go.Proofs.YtdkinmgpclbedaaDoor.Pv
