/- strconv.FormatUint at base 16, as this program has it. -/
import Derived.Test.YtdkinmgpclbedaaDoorWrP
import Derived.Shelf.Lay
import Derived.Shelf.Spec.TrailingZeros
import Derived.Ground.Names7Prog
import Derived.Laws.IdiomStrings
import Derived.WalkKit
import Derived.BigCall
import Derived.Lib.Hide
import Derived.Lib.Builder
import Derived.Lib.UnsafeStr
import Derived.Lib.LaidU8
import Derived.MakeChecks
namespace Go.Proofs.YtdkinmgpclbedaaDoor.Pv
open Go Go.Pv Go.Proofs Go.RowKit Go.Shelf
set_option linter.unusedVariables false
set_option linter.unusedSimpArgs false
set_option maxRecDepth 100000
shelf_lay Lays7.n27 Nm7 27 at Tryd as lays27
theorem pow2_16 (w : World) : Calls Tryd.prog 137 #[.int .i64 16] w fun e w' => e = .returned (.bool true) ∧ w' = w := by
  go_enter Tryd.func137, Tryd.ntmps137
  go_wp2
  go_ret
  exact ⟨rfl, rfl⟩
theorem tz16 (w : World) (hT : TabAt 5 Lib.deBruijn64tab w) : Calls Tryd.prog 138 #[.int .u64 16] w fun e w' => e = .returned (.int .i64 4) ∧ w' = w :=
  Any7.bits_TrailingZeros lays27 16 (by decide) w (fun _ => hT)
theorem and15 (x : Nat) (hx : x < 18446744073709551616) : bits .and .u64 (x : Int) 15 = ((x % 16 : Nat) : Int) := by
  have h := bits_and_u64_nat x 15 hx (by decide)
  rw [show ((15 : Nat) : Int) = 15 from rfl] at h
  rw [h, show (15 : Nat) = 2 ^ 4 - 1 from rfl, Nat.and_two_pow_sub_one_eq_mod]
theorem drop_set {α : Type} (l : List α) (i : Nat) (v : α) (h : i < l.length) : (l.set i v).drop i = v :: l.drop (i + 1) := by
  induction l generalizing i with
  | nil => simp at h
  | cons a l ih =>
    cases i with
    | zero => rfl
    | succ i => simp only [List.set_cons_succ, List.drop_succ_cons]; exact ih i (by simpa using h)
/-- The row of digits, filled from its end down to place k. -/
def Dig (w wr : World) (k : Nat) (l : List UInt8) : Prop := Below w.heap.size w wr ∧ ∃ cur, wr.heap[w.heap.size]? = some (.cells cur 143 (0, 0)) ∧ cur.size = 65 ∧ cur.toList.drop k = Lib.byteCells l
theorem Dig.cell {w wr : World} {k : Nat} {l : List UInt8} (h : Dig w wr k l) {j : Nat} (hj : j < 65) : ∃ v, wr.cell? ⟨w.heap.size, j, none⟩ = some v := by
  obtain ⟨_, cur, h1, h2, _⟩ := h
  rw [Lib.cell_of_heap h1]
  exact ⟨cur[j]'(by omega), Array.getElem?_eq_getElem (by omega)⟩
theorem Dig.frz {w wr : World} {k : Nat} {l : List UInt8} (h : Dig w wr k l) (j : Nat) : wr.frozen? ⟨w.heap.size, j, none⟩ = false := by
  obtain ⟨_, cur, h1, _⟩ := h
  exact Lib.frozen_of_heap h1 j
theorem Dig.put {w wr : World} {k : Nat} {l : List UInt8} (h : Dig w wr (k + 1) l) (hk : k < 65) (d : UInt8) (v : Value) (hv : v = .int .u8 d.toNat) : Dig w (wr.setCell ⟨w.heap.size, k, none⟩ v) k (d :: l) := by
  obtain ⟨hb, cur, h1, h2, h3⟩ := h
  refine ⟨hb.setCell (p := ⟨w.heap.size, k, none⟩) (Nat.le_refl _) _, cur.setIfInBounds k v, ?_, by simpa using h2, ?_⟩
  · rw [setCell_eq_setRow wr w.heap.size k cur 143 (0, 0) v h1]
    exact setRow_heap _ _ _ _ _ _ h1
  · rw [Array.toList_setIfInBounds, drop_set _ _ _ (by rw [Array.length_toList]; omega), h3, hv]
    rfl
theorem Dig.len {w wr : World} {k : Nat} {l : List UInt8} (h : Dig w wr k l) : l.length = 65 - k := by
  obtain ⟨_, cur, _, h2, h3⟩ := h
  have := congrArg List.length h3
  rw [List.length_drop, Array.length_toList, Lib.byteCells_length, h2] at this
  omega
theorem dig36 : ∀ (j : Nat) (h : j < 16) (h' : j < (ByteArray.mk #[48, 49, 50, 51, 52, 53, 54, 55, 56, 57, 97, 98, 99, 100, 101, 102, 103, 104, 105, 106, 107, 108, 109, 110, 111, 112, 113, 114, 115, 116, 117, 118, 119, 120, 121, 122]).size),
    (ByteArray.mk #[48, 49, 50, 51, 52, 53, 54, 55, 56, 57, 97, 98, 99, 100, 101, 102, 103, 104, 105, 106, 107, 108, 109, 110, 111, 112, 113, 114, 115, 116, 117, 118, 119, 120, 121, 122])[j]'h' = hexd j := by
  intro j h h'
  have : j = 0 ∨ j = 1 ∨ j = 2 ∨ j = 3 ∨ j = 4 ∨ j = 5 ∨ j = 6 ∨ j = 7 ∨ j = 8 ∨ j = 9 ∨ j = 10 ∨ j = 11 ∨ j = 12 ∨ j = 13 ∨ j = 14 ∨ j = 15 := by omega
  rcases this with rfl | rfl | rfl | rfl | rfl | rfl | rfl | rfl | rfl | rfl | rfl | rfl | rfl | rfl | rfl | rfl <;> rfl
theorem slice_dig (W : World) (B k : Nat) (hk : k < 65) : (Instr.sliceAt 143 (.pointer (some ⟨B, 0, none⟩)) (some (.int .i64 (k : Int))) none none).run Tryd.prog W = .ok (.slice (some ⟨B, k, none⟩) (65 - k) (65 - k)) W := by
  have hal : Tryd.prog.arrayLen 143 = 65 := by kernel_rfl
  have hel : Tryd.prog.elem 143 = 5 := by kernel_rfl
  rw [run_sliceAt_array_l W 143 ⟨B, 0, none⟩ (by rw [hel]; exact Tryd.underlying143) .i64 k (by omega) (by rw [hal]; omega), hel, hal, Tryd.sizeOf5]
  simp only [Result.andThen, slicedAt, Int.toNat_natCast]
  rw [if_neg (by omega)]
  simp [Addr.add]
  omega
theorem conv_dig {w W : World} {k : Nat} {l : List UInt8} (h : Dig w W k l) : (convert 32 9 (.slice (some ⟨w.heap.size, k, none⟩) (65 - k) (65 - k))).run Tryd.prog W = .ok (.string ⟨l.toArray⟩) W := by
  have hl := h.len
  obtain ⟨_, cur, h1, h2, h3⟩ := h
  have := run_convert_bytes_back (P := Tryd.prog) W 32 9 5 ⟨w.heap.size, k, none⟩ (65 - k) l Tryd.underlying32 Tryd.underlying5 Tryd.underlying9 (fun j hj => by
    rw [show (Addr.mk w.heap.size k none).add j = ⟨w.heap.size, k + j, none⟩ by simp [Addr.add], Lib.cell_of_heap h1]
    have e : (cur.toList.drop k)[j]? = some (.int .u8 ((l[j]'hj).toNat : Int)) := by
      rw [h3]
      simp [Lib.byteCells, hj]
    rw [List.getElem?_drop] at e
    rw [← Array.getElem?_toList]
    exact e)
  rw [hl] at this
  exact this
theorem fb16 (n : Nat) (hn : n < 18446744073709551616) (w : World) (hT : TabAt 5 Lib.deBruijn64tab w) (h5 : 5 < w.heap.size) :
    Calls Tryd.prog 114 #[.slice none 0 0, .int .u64 n, .int .i64 16, .bool false, .bool false] w fun e w' => e = .returned (.tuple #[.slice none 0 0, .string ⟨(hx n).toArray⟩]) ∧ Below w.heap.size w w' := by
  have hT2 : ∀ o, TabAt 5 Lib.deBruijn64tab (w.alloc o) := fun o j hj => by
    rw [← hT j hj]
    exact World.cell?_of_block (Below.heap_alloc w o 5 h5)
  have HT := Lib.hid hT2
  clear hT hT2
  go_enter Tryd.func114, Tryd.ntmps114
  go_wp2_with (first | (go_at_call 137; refine (pow2_16 _).mono ?_; rintro e w2 ⟨rfl, rfl⟩) | (go_at_call 138; refine (tz16 _ (HT.out _)).mono ?_; rintro e w2 ⟨rfl, rfl⟩))
  go_loopw [1, 13] (fun u i wr => ∃ (k x : Nat) (l : List UInt8), u = .int .u64 x ∧ i = .int .i64 k ∧ x < 18446744073709551616 ∧ 49 < k ∧ k ≤ 65 ∧ Hid (x < 16 ^ (k - 49)) ∧ Hid (hx x ++ l = hx n) ∧ Hid (Dig w wr k l)) (fun u _ _ => (intOf u).toNat)
  case atStart => exact ⟨65, n, [], rfl, rfl, hn, by omega, by omega, Lib.hid (by show n < 16 ^ 16; exact hn), Lib.hid (by simp), Lib.hid ⟨(Below.refl _ w).alloc (Nat.le_refl _) _, Tryd.zeroCells143, heap_alloc_new w _, by kernel_rfl, by kernel_rfl⟩⟩
  case round =>
    obtain ⟨k, x, l, rfl, rfl, hx64, hk1, hk2, HX, HL, HD⟩ := hrel
    obtain ⟨k, rfl⟩ : ∃ k', k = k' + 1 := ⟨k - 1, by omega⟩
    obtain ⟨v0, hv0⟩ := HD.out.cell (j := k) (by omega)
    have hf0 := HD.out.frz k
    have ha := and15 x hx64
    have hm : x % 16 < 16 := Nat.mod_lt _ (by omega)
    by_cases h16 : x < 16
    · have hd := HD.out.put (k := k) (by omega) (hexd x) (.int .u8 (((ByteArray.mk #[48, 49, 50, 51, 52, 53, 54, 55, 56, 57, 97, 98, 99, 100, 101, 102, 103, 104, 105, 106, 107, 108, 109, 110, 111, 112, 113, 114, 115, 116, 117, 118, 119, 120, 121, 122])[x]'(Nat.lt_of_lt_of_le h16 (by decide))).toNat : Int)) (by rw [dig36 _ h16])
      have HD2 := Lib.hid hd
      clear hd
      go_wp2
      rw [slice_dig _ _ k (by omega)]
      simp only [Result.andThen]
      rw [Oper.upon_value]
      go_wp2
      rw [conv_dig HD2.out]
      simp only [Result.andThen]
      rw [Oper.upon_value]
      go_wp2
      go_ret2
      have e := HL.out
      rw [hx_small h16] at e
      exact ⟨by rw [← e]; rfl, HD2.out.1⟩
    · have h16' : 16 ≤ x := by omega
      go_wp2
      go_roundw
      case rel => exact ⟨k, x / 16, hexd (x % 16) :: _, by go_num, by go_num, by omega, by
          by_cases c : k = 49
          · exfalso
            have := HX.out
            rw [c, show 49 + 1 - 49 = 1 from rfl] at this
            omega
          · omega, by omega, Lib.hid (by
          have := HX.out
          rw [show k + 1 - 49 = (k - 49) + 1 by omega, Nat.pow_succ] at this
          omega), Lib.hid (by rw [← HL.out, hx_big h16, List.append_assoc]; rfl), Lib.hid (HD.out.put (by omega) (hexd (x % 16)) _ (by rw [dig36 _ hm]))⟩
      case measure => simp [intOf]; omega
theorem fu89 (n : Nat) (hn : n < 18446744073709551616) (w : World) (hT : TabAt 5 Lib.deBruijn64tab w) (h5 : 5 < w.heap.size) :
    Calls Tryd.prog 89 #[.int .u64 n, .int .i64 16] w fun e w' => e = .returned (.string ⟨(hx n).toArray⟩) ∧ Below w.heap.size w w' := by
  go_enter Tryd.func89, Tryd.ntmps89
  go_wp2_with (go_at_call 114; refine (fb16 n hn _ hT h5).mono ?_; rintro e w2 ⟨rfl, hb⟩)
  go_ret
  exact ⟨rfl, hb⟩
theorem fu61 (n : Nat) (hn : n < 18446744073709551616) (w : World) (hT : TabAt 5 Lib.deBruijn64tab w) (h5 : 5 < w.heap.size) :
    Calls Tryd.prog 61 #[.int .u64 n, .int .i64 16] w fun e w' => e = .returned (.string ⟨(hx n).toArray⟩) ∧ Below w.heap.size w w' := by
  go_enter Tryd.func61, Tryd.ntmps61
  go_wp2_with (go_at_call 89; refine (fu89 n hn _ hT h5).mono ?_; rintro e w2 ⟨rfl, hb⟩)
  go_ret
  exact ⟨rfl, hb⟩
theorem ww24 (n : Nat) (hn : n < 18446744073709551616) (w : World) (hT : TabAt 5 Lib.deBruijn64tab w) (h5 : 5 < w.heap.size) :
    Calls Tryd.prog 24 #[.int .u64 n] w fun e w' => e = .returned (.string ⟨(hx n).toArray⟩) ∧ Below w.heap.size w w' := by
  go_enter Tryd.func24, Tryd.ntmps24
  go_wp2_with (go_at_call 61; refine (fu61 n hn _ hT h5).mono ?_; rintro e w2 ⟨rfl, hb⟩)
  go_ret
  exact ⟨rfl, hb⟩
/-- A call that writes nothing. -/
theorem quiet_calls {P : Program} {w : World} {fz bz : Nat → Prop} {φ : Nat → Value} {e : Ent} (he : EntOk P e) (hsto : e.sto = []) {x : e.par.D} {y : SD e.sto} {u : e.res.D × SD e.osto} (hu : e.fn x y = some u) {args : List Value}
    (hr : RepL w fz bz φ e.par x args) (hf : ∀ b, fz b → b < w.heap.size) (hb : ∀ b, bz b → b < w.heap.size) (ho : ∀ j, (φ j).oneCell' = true) :
    Calls P e.f args.toArray w fun r w' => (∃ v, r = .returned v ∧ ∃ fz' φ', RepV w' fz' bz φ' e.res u.1 v) ∧ Below w.heap.size w w' := by
  have hc0 : ∀ (l : List (Nat × CTy)) (_ : l = []) (z : SD l), cellsOf l z = [] := by intro l hl z; subst hl; rfl
  have hc := hc0 e.sto hsto y
  have hS : Go.Pv.Start w fz bz (fun _ => False) φ e.par x (cellsOf e.sto y) args := by
    refine ⟨hr, by rw [hc]; simp, by rw [hc]; simp, by rw [hc]; simp, hf, hb, ho⟩
  refine (he.run x y u hu args w _ _ _ _ hS).mono fun r w' hr => ?_
  cases r with
  | returned v =>
    obtain ⟨fz', φ', hF⟩ := hr
    exact ⟨⟨v, rfl, fz', φ', hF.rep⟩, hF.os, hF.tape, hF.output, hF.size, fun k hk => hF.frame k hk (fun h => h)⟩
  | panicked ch => exact hr.elim
  | outgrown => exact hr.elim
theorem TabAt.old {g : Nat} {tab : List Nat} {w w' : World} (h : TabAt g tab w) (hg : g < w.heap.size) (hb : Below w.heap.size w w') : TabAt g tab w' := fun j hj => by
  rw [← h j hj]
  exact World.cell?_of_block (hb.block g hg)
theorem spec23 (n : Nat) (hs : spec_WireWord N0 (n : Int) = some (⟨(hx n).toArray⟩, ())) (w : World) : Calls Tryd.prog 23 #[.int .u64 n] w fun e w' => e = .returned (.string ⟨(hx n).toArray⟩) ∧ Below w.heap.size w w' := by
  refine (quiet_calls (fz := fun _ => False) (bz := fun _ => False) (φ := fun _ => .slice none 0 0) (ok_spec_WireWord N0) rfl (x := (n : Int)) (y := ()) hs (args := [.int .u64 n]) ⟨_, rfl, (rfl : [Value.int .u64 (n : Int)] = [Value.int .u64 (n : Int)])⟩ (fun _ h => h.elim) (fun _ h => h.elim) (fun _ => rfl)).mono ?_
  rintro e w' ⟨⟨v, rfl, fz', φ', h1⟩, h2⟩
  have h1 : v = .string ⟨(hx n).toArray⟩ := by simpa [RepV, RepV0, RepC, E_spec_WireWord] using h1
  exact ⟨by rw [h1], h2⟩
theorem ww_law (n : Nat) (hn : n < 18446744073709551616) (hs : spec_WireWord N0 (n : Int) = some (⟨(hx n).toArray⟩, ())) (w : World) (hT : TabAt 5 Lib.deBruijn64tab w) (h5 : 5 < w.heap.size) :
    Calls Tryd.prog 6 #[.int .u64 n] w fun e w' => e = .returned (.bool true) ∧ Below w.heap.size w w' := by
  go_enter Tryd.func6, Tryd.ntmps6
  go_wp2_with (go_at_call 23; refine (spec23 n hs _).mono ?_; rintro e w2 ⟨rfl, hb⟩; refine Hid.out ?_)
  refine Lib.hid ?_
  have hT2 := TabAt.old hT h5 hb
  have h52 : 5 < w2.heap.size := Nat.lt_of_lt_of_le h5 hb.size
  go_wp2_with (go_at_call 24; refine (ww24 n hn _ hT2 h52).mono ?_; rintro e w3 ⟨rfl, hb3⟩)
  go_ret
  exact ⟨rfl, hb.trans (hb3.mono hb.size)⟩
theorem tab_at {l : List (String × DataW Unit)} {W : World} (h : laidMetH Tryd.prog l W) (hp : (l.all fun x => x.2.handleName?.isNone) = true) (hm : ("math/bits.deBruijn64tab", Lib.tabData .u8 (Lib.deBruijn64tab.map fun (z : Nat) => (z : Int))) ∈ l) : TabAt 5 Lib.deBruijn64tab W ∧ 5 < W.heap.size := by
  rw [MakeChecks.laidMetH_plain _ _ _ hp] at h
  obtain ⟨g, t, cs, fuel, p, hg, ht, hv, hd⟩ := Lib.laidMet.reads h hm
  obtain rfl := Option.some.inj ((show Tryd.prog.globalNamed "math/bits.deBruijn64tab" = some 5 by kernel_rfl).symm.trans hg)
  obtain rfl := Option.some.inj ((show (Tryd.prog.globals[5]?).map (·.type) = some 161 by kernel_rfl).symm.trans ht)
  have hc := Lib.cells_of_tab Tryd.underlying161 Tryd.underlying5 (by kernel_rfl) (by kernel_rfl) hd
  have key : ∀ j, j < Lib.deBruijn64tab.length → W.cell? ⟨5, j, none⟩ = some (.int .u8 (Lib.deBruijn64tab.getD j 0)) := fun j hj => by
    rw [World.var?_cell hg hv j, ← Array.getElem?_toList, hc, List.getElem?_map, List.getElem?_map, List.getElem?_eq_getElem hj]
    simp [List.getD, hj]
  exact ⟨key, World.block_lt_of_cell? _ _ (key 0 (by decide))⟩
end Go.Proofs.YtdkinmgpclbedaaDoor.Pv
