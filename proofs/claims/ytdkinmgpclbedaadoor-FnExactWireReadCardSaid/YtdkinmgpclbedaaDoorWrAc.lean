/- strconv.ParseUint at base 16, as this program has it. -/
import Derived.Test.YtdkinmgpclbedaaDoorWrAb
import Derived.Shelf.Lay
import Derived.Ground.Names7Prog
import Derived.Laws.IdiomStrings
import Derived.Lib.Builder
import Derived.Lib.UnsafeStr
import Derived.Lib.LaidU8
import Derived.MakeChecks
import Derived.Lib.ConvBytes
import Derived.Lib.AtoiAllMem
import Derived.Lib.Hide
import Derived.Laws.Strings3
import Derived.Laws.Closers25
import Derived.Laws.Closers25b
import Derived.WalkKit
import Derived.BigCall
import Derived.BigGuard
namespace Go.Proofs.YtdkinmgpclbedaaDoor.Pv
open Go Go.Pv Go.Proofs Go.RowKit Go.Shelf
set_option linter.unusedVariables false
set_option linter.unusedSimpArgs false
set_option maxRecDepth 100000
theorem bits_or_u8_nat (a b : Nat) (ha : a < 256) (hb : b < 256) : bits .or .u8 (a : Int) (b : Int) = ((a ||| b : Nat) : Int) := by
  have hx : a ||| b < 2 ^ 8 := Nat.or_lt_two_pow (by omega) (by omega)
  have h1 : (BitVec.ofInt 8 (a : Int)).toNat = a := by
    rw [BitVec.ofInt_natCast, BitVec.toNat_ofNat]; exact Nat.mod_eq_of_lt (by omega)
  have h2 : (BitVec.ofInt 8 (b : Int)).toNat = b := by
    rw [BitVec.ofInt_natCast, BitVec.toNat_ofNat]; exact Nat.mod_eq_of_lt (by omega)
  show IntKind.u8.wrap ((BitVec.ofInt 8 (a : Int) ||| BitVec.ofInt 8 (b : Int)).toNat : Int) = _
  rw [BitVec.toNat_or, h1, h2, IntKind.wrap_u8]
  omega
theorem lower130 (c : Int) (w : World) : Calls Tryd.prog 130 #[.int .u8 c] w fun e w' => e = .returned (.int .u8 (bits .or .u8 c 32)) ∧ w' = w := by
  go_enter Tryd.func130, Tryd.ntmps130
  go_wp2
  go_ret
  exact ⟨rfl, rfl⟩
/-- How a parse ends. -/
def Pu (bs : List UInt8) (n : Nat) (ev : Value) : Prop := n < 18446744073709551616 ∧ (ev = .nilIface ∨ ev = .iface 131 (.int .i64 1) ∨ ev = .iface 131 (.int .i64 2)) ∧ ∀ x, x < 18446744073709551616 → bs = hx x → n = x ∧ ev = .nilIface
theorem pu102_nil (w : World) : Calls Tryd.prog 102 #[.string ⟨#[]⟩, .int .i64 16, .int .i64 64] w fun e w' => e = .returned (.tuple #[.int .u64 0, .iface 131 (.int .i64 2)]) ∧ w' = w := by
  go_enter Tryd.func102, Tryd.ntmps102
  go_wp2
  go_ret2
  exact ⟨rfl, rfl⟩
set_option maxHeartbeats 32000000 in
set_option maxRecDepth 100000 in
theorem pu102 (t : ByteArray) (hne : t.size ≠ 0) (hmax : t.size ≤ 1000000) (w : World) :
    Calls Tryd.prog 102 #[.string t, .int .i64 16, .int .i64 64] w fun e w' => (∃ (n : Nat) (ev : Value), e = .returned (.tuple #[.int .u64 n, ev]) ∧ Pu t.data.toList n ev) ∧ w' = Lib.bytesWorld w 5 t := by
  have hemp : t.toList.isEmpty = false := by
    rw [← decide_eq_emptyBytes]
    exact decide_eq_false (fun h => hne (by rw [h]; rfl))
  have hcv := Lib.run_convert_string_bytes (P := Tryd.prog) w 9 32 5 t (u := .string) Tryd.underlying9 Tryd.underlying32 Tryd.underlying5
  have hB : ∀ j, j < t.size → (Lib.bytesWorld w 5 t).cell? ⟨w.heap.size, j, none⟩ = some (.int .u8 (t.data.toList.getD j 0).toNat) := fun j hj => Lib.bytesWorld_cell w 5 t j hj
  obtain ⟨W1, hW1⟩ : ∃ W1, W1 = Lib.bytesWorld w 5 t := ⟨_, rfl⟩
  rw [← hW1] at hcv hB ⊢
  clear hW1
  obtain ⟨bs, hL⟩ : ∃ bs, bs = t.data.toList := ⟨_, rfl⟩
  have hLn : bs.length = t.size := by rw [hL, Lib.size_eq]
  rw [← hL] at hB ⊢
  clear hL
  have hmv : IntKind.u64.wrap (IntKind.u64.wrap 18446744073709551616 - 1) = 18446744073709551615 := by
    rw [IntKind.wrap_u64, IntKind.wrap_u64]
    decide
  go_enter Tryd.func102, Tryd.ntmps102
  go_wp2
  go_loop [12, 13, 101] (fun vu vn vi => ∃ (k acc : Nat) (a : Int), vu = .bool false ∧ vn = .int .u64 a ∧ vi = .int .i64 k ∧ k ≤ t.size ∧ Hid (a = (acc : Int) ∧ acc < 18446744073709551616 ∧ Rd16 bs k acc))
    (fun _ _ vi => t.size - (intOf vi).toNat)
  case atStart => exact ⟨0, 0, 0, rfl, rfl, rfl, by omega, Lib.hid ⟨rfl, by omega, Rd16.start bs⟩⟩
  case round =>
    obtain ⟨k, acc, a, rfl, rfl, rfl, hk, hh⟩ := hrel
    obtain ⟨ha, hacc, hrd⟩ := hh.out
    clear hh
    have a0 : 0 ≤ a := by omega
    have a1 : a < 18446744073709551616 := by omega
    by_cases hkn : k < t.size
    · have hc := hB k hkn
      have hget : bs[k]? = some (bs.getD k 0) := by rw [List.getD_eq_getElem?_getD, List.getElem?_eq_getElem (by omega)]; simp
      generalize bs.getD k 0 = c at hc hget
      have hc256 : c.toNat < 256 := c.toNat_lt
      have hdg : ∀ x, x < 18446744073709551616 → bs = hx x → cval c.toNat = x / 16 ^ (bs.length - 1 - k) % 16 ∧ acc < 1152921504606846976 ∧ ((48 ≤ c.toNat ∧ c.toNat ≤ 57) ∨ (97 ≤ (c.toNat ||| 32) ∧ (c.toNat ||| 32) ≤ 122 ∧ (c.toNat ||| 32) - 87 < 16)) := fun x h1 h2 => Rd16.digit hrd hget h1 h2
      have hnx := Rd16.next hrd hget
      obtain ⟨lo, hlo⟩ : ∃ lo : Nat, lo = (c.toNat ||| 32) := ⟨_, rfl⟩
      have hlo256 : lo < 256 := by rw [hlo]; exact Nat.or_lt_two_pow (n := 8) hc256 (by decide)
      have hbo : bits .or .u8 (c.toNat : Int) 32 = (lo : Int) := by rw [hlo]; exact bits_or_u8_nat _ _ hc256 (by decide)
      rw [← hlo] at hdg
      have hcv : cval c.toNat = if 48 ≤ c.toNat ∧ c.toNat ≤ 57 then c.toNat - 48 else lo - 87 := by rw [hlo]; rfl
      have hlow : ∀ w : World, Calls Tryd.prog 130 #[.int .u8 (c.toNat : Int)] w fun e w' => e = .returned (.int .u8 (lo : Int)) ∧ w' = w := fun w => by rw [← hbo]; exact lower130 _ w
      have h95lo : c.toNat = 95 → lo = 127 := fun h => by rw [hlo, h]; rfl
      clear hlo hbo hget hB hrd
      generalize c.toNat = ch at *
      -- what a failing branch says
      have bad : ∀ (n : Nat) (ev : Value), n < 18446744073709551616 → (ev = .nilIface ∨ ev = .iface 131 (.int .i64 1) ∨ ev = .iface 131 (.int .i64 2)) → (∀ x, x < 18446744073709551616 → bs = hx x → False) → Pu bs n ev := fun n ev h1 h2 h3 => ⟨h1, h2, fun x h4 h5 => (h3 x h4 h5).elim⟩
      by_cases hdig : 48 ≤ ch ∧ ch ≤ 57
      · rw [if_pos hdig] at hcv
        obtain ⟨hd0, hd1⟩ := hdig
        by_cases hcut : 1152921504606846976 ≤ acc
        · have HP : Hid (Pu bs 18446744073709551615 (.iface 131 (.int .i64 1))) := Lib.hid (bad _ _ (by omega) (.inr (.inl rfl)) (fun x h1 h2 => by have := (hdg x h1 h2).2.1; omega))
          have icut : 1152921504606846976 ≤ a := by omega
          clear hcut hacc ha hdg hnx bad hcv
          go_wp2
          go_ret2
          exact ⟨⟨18446744073709551615, _, rfl, HP.out⟩, rfl⟩
        · have HN : Hid (a * 16 + ((ch : Int) - 48) = ((acc * 16 + cval ch : Nat) : Int) ∧ acc * 16 + cval ch < 18446744073709551616 ∧ Rd16 bs (k + 1) (acc * 16 + cval ch)) := Lib.hid ⟨by omega, by omega, hnx⟩
          have icut : a < 1152921504606846976 := by omega
          have iov : a * 16 + ((ch : Int) - 48) < 18446744073709551616 := by omega
          generalize cval ch = cv at *
          clear hcut hacc ha hdg hnx bad hcv
          go_wp2
          refine ⟨⟨k + 1, acc * 16 + cv, a * 16 + ((ch : Int) - 48), rfl, (by first | rfl | (congr 1; omega)), (by first | rfl | (congr 1; omega)), by omega, HN⟩, by simp [intOf]; omega⟩
      · rw [if_neg hdig] at hcv
        by_cases h95 : ch = 95
        · have HP : Hid (Pu bs 0 (.iface 131 (.int .i64 2))) := Lib.hid (bad _ _ (by omega) (.inr (.inr rfl)) (fun x h1 h2 => by have := (hdg x h1 h2).2.2; have := h95lo h95; omega))
          subst h95
          have hc95 : W1.cell? ⟨w.heap.size, k, none⟩ = some (.int .u8 95) := hc
          clear hacc ha hdg hnx bad hcv hlow hc h95lo hdig
          go_wp2_with (go_at_call 130; refine (lower130 95 _).mono ?_; rw [show bits .or .u8 95 32 = 127 by decide]; rintro e w' ⟨rfl, rfl⟩)
          go_ret2
          exact ⟨⟨0, _, rfl, HP.out⟩, rfl⟩
        have hne95 : (ch : Int) ≠ 95 := by omega
        clear h95lo
        by_cases hlet : 97 ≤ lo ∧ lo ≤ 122
        · obtain ⟨hl0, hl1⟩ := hlet
          by_cases hd16 : lo - 87 < 16
          · by_cases hcut : 1152921504606846976 ≤ acc
            · have HP : Hid (Pu bs 18446744073709551615 (.iface 131 (.int .i64 1))) := Lib.hid (bad _ _ (by omega) (.inr (.inl rfl)) (fun x h1 h2 => by have := (hdg x h1 h2).2.1; omega))
              have icut : 1152921504606846976 ≤ a := by omega
              have hnd : ¬ (48 ≤ (ch : Int) ∧ (ch : Int) ≤ 57) := by omega
              clear hcut hacc ha hdg hnx bad hcv hdig
              go_wp2_with (go_at_call 130; refine (hlow _).mono ?_; rintro e w' ⟨rfl, rfl⟩)
              all_goals go_ret2
              all_goals exact ⟨⟨18446744073709551615, _, rfl, HP.out⟩, rfl⟩
            · have HN : Hid (a * 16 + ((lo : Int) - 87) = ((acc * 16 + cval ch : Nat) : Int) ∧ acc * 16 + cval ch < 18446744073709551616 ∧ Rd16 bs (k + 1) (acc * 16 + cval ch)) := Lib.hid ⟨by omega, by omega, hnx⟩
              have icut : a < 1152921504606846976 := by omega
              have iov : a * 16 + ((lo : Int) - 87) < 18446744073709551616 := by omega
              generalize cval ch = cv at *
              clear hcut hacc ha hdg hnx bad hcv
              go_wp2_with (go_at_call 130; refine (hlow _).mono ?_; rintro e w' ⟨rfl, rfl⟩)
              all_goals refine ⟨⟨k + 1, acc * 16 + cv, a * 16 + ((lo : Int) - 87), rfl, (by first | rfl | (congr 1; omega)), (by first | rfl | (congr 1; omega)), by omega, HN⟩, by simp [intOf]; omega⟩
          · have HP : Hid (Pu bs 0 (.iface 131 (.int .i64 2))) := Lib.hid (bad _ _ (by omega) (.inr (.inr rfl)) (fun x h1 h2 => by have := (hdg x h1 h2).2.2; omega))
            clear hacc ha hdg hnx bad hcv
            go_wp2_with (go_at_call 130; refine (hlow _).mono ?_; rintro e w' ⟨rfl, rfl⟩)
            all_goals go_ret2
            all_goals exact ⟨⟨0, _, rfl, HP.out⟩, rfl⟩
        · have HP : Hid (Pu bs 0 (.iface 131 (.int .i64 2))) := Lib.hid (bad _ _ (by omega) (.inr (.inr rfl)) (fun x h1 h2 => by have := (hdg x h1 h2).2.2; omega))
          clear hacc ha hdg hnx bad hcv
          go_wp2_with (go_at_call 130; refine (hlow _).mono ?_; rintro e w' ⟨rfl, rfl⟩)
          all_goals go_ret2
          all_goals exact ⟨⟨0, _, rfl, HP.out⟩, rfl⟩
    · have hkk : k = t.size := by omega
      subst hkk
      subst ha
      have HP : Hid (Pu bs acc .nilIface) := Lib.hid ⟨hacc, .inl rfl, fun x h1 h2 => ⟨by have := hrd x h1 h2; rw [hLn, Nat.sub_self] at this; simpa using this, rfl⟩⟩
      clear hrd hacc a0 a1
      go_wp2
      go_ret2
      exact ⟨⟨acc, .nilIface, rfl, HP.out⟩, rfl⟩
end Go.Proofs.YtdkinmgpclbedaaDoor.Pv
