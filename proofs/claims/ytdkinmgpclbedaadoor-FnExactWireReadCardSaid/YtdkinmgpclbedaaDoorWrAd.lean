/- strconv.ParseUint and what else impl.WireRead calls. -/
import Derived.Test.YtdkinmgpclbedaaDoorWrAc
import Derived.Shelf.Strconv.ErrVarAll
import Derived.Shelf.Strconv.ToError
import Derived.Shelf.Strconv.ToErrorRange
import Derived.Shelf.Strings.SplitShaped
import Derived.Shelf.Small.Wraps
import Derived.Laws.AppendOwn
namespace Go.Proofs.YtdkinmgpclbedaaDoor.Pv
open Go Go.Pv Go.Proofs Go.RowKit Go.Shelf
set_option linter.unusedVariables false
set_option linter.unusedSimpArgs false
set_option maxRecDepth 100000
shelf_lay LaysC.n172 Nm 172 at Tryd as wr_lays172
shelf_lay LaysC.n245 Nm 245 at Tryd as wr_lays245
shelf_lay LaysM.n146 Nm 146 at Tryd as wr_lays146
shelf_lay Lays.n103 Nm 103 at Tryd as wr_lays103
theorem var_old {name : String} {v : Array Value} {w w' : World} (h : w.var? Tryd.prog name = some v) (hb : Below w.heap.size w w') : w'.var? Tryd.prog name = some v := by
  unfold World.var? at *
  cases hg : Tryd.prog.globalNamed name with
  | none => simp [hg] at h
  | some g =>
    simp only [hg, Option.bind_some] at h ⊢
    have hlt : g < w.heap.size := by
      rcases Nat.lt_or_ge g w.heap.size with h' | h'
      · exact h'
      · rw [Array.getElem?_eq_none h'] at h; simp at h
    rw [hb.block g hlt]
    exact h
/-- The two errors of strconv, as they lie in their variables. -/
structure Errs (w : World) : Prop where
  syn : ∃ tp p, w.var? Tryd.prog "strconv.ErrSyntax" = some #[.iface tp p]
  rng : ∃ tp p, w.var? Tryd.prog "strconv.ErrRange" = some #[.iface tp p]
theorem Errs.old {w w' : World} (h : Errs w) (hb : Below w.heap.size w w') : Errs w' := by
  obtain ⟨⟨t1, p1, h1⟩, t2, p2, h2⟩ := h
  exact ⟨⟨t1, p1, var_old h1 hb⟩, t2, p2, var_old h2 hb⟩
theorem toErr (fn s : ByteArray) (c : Int) (hc : c = 1 ∨ c = 2) (w : World) (hs : s.size ≤ 1000000) (hE : Errs w) :
    Calls Tryd.prog 101 #[.string fn, .string s, .int .i64 16, .int .i64 64, .iface 131 (.int .i64 c)] w fun e w' => (∃ tp p, e = .returned (.iface tp p)) ∧ Below w.heap.size w w' := by
  obtain ⟨⟨t1, p1, h1⟩, t2, p2, h2⟩ := hE
  rcases hc with rfl | rfl
  · refine (Any.strconv_toError_range wr_lays245 fn s 16 64 (.iface t2 p2) w (by omega) (by have h0 := World.var?_cell wr_lays245.m16 h2 0; simpa using h0) (.inr ⟨_, _, rfl⟩)).mono ?_
    rintro e w' ⟨N, rfl, _, _, h⟩
    exact ⟨⟨_, _, rfl⟩, h⟩
  · refine (Any.strconv_toError_syntax wr_lays245 fn s 16 64 (.iface t1 p1) w (by omega) (by have h0 := World.var?_cell wr_lays245.m15 h1 0; simpa using h0) (.inr ⟨_, _, rfl⟩)).mono ?_
    rintro e w' ⟨N, rfl, _, _, h⟩
    exact ⟨⟨_, _, rfl⟩, h⟩
/-- How a word is read. -/
def PuE (bs : List UInt8) (n : Nat) (ev : Value) : Prop := n < 18446744073709551616 ∧ ((ev = .nilIface ∧ ∀ x, x < 18446744073709551616 → bs = hx x → n = x) ∨ ((∃ tp p, ev = .iface tp p) ∧ ∀ x, x < 18446744073709551616 → bs ≠ hx x))
theorem bytes_below (w : World) (t : ByteArray) : Below w.heap.size w (Lib.bytesWorld w 5 t) := Lib.bytesWorld_below w 5 t
theorem pu72 (t : ByteArray) (hmax : t.size ≤ 1000000) (w : World) (hE : Errs w) :
    Calls Tryd.prog 72 #[.string t, .int .i64 16, .int .i64 64] w fun e w' => (∃ (n : Nat) (ev : Value), e = .returned (.tuple #[.int .u64 n, ev]) ∧ PuE t.data.toList n ev) ∧ Below w.heap.size w w' := by
  have call : Calls Tryd.prog 102 #[.string t, .int .i64 16, .int .i64 64] w fun e w' => (∃ (n : Nat) (ev : Value), e = .returned (.tuple #[.int .u64 n, ev]) ∧ Pu t.data.toList n ev) ∧ Below w.heap.size w w' := by
    by_cases h0 : t.size = 0
    · have ht : t = ⟨#[]⟩ := by
        have hl : t.data.toList = [] := List.eq_nil_of_length_eq_zero (by rw [← Lib.size_eq]; exact h0)
        apply ByteArray.ext
        exact Array.toList_inj.1 hl
      subst ht
      refine (pu102_nil w).mono ?_
      rintro e w' ⟨rfl, rfl⟩
      refine ⟨⟨0, _, rfl, by omega, .inr (.inr rfl), fun x h1 h2 => ?_⟩, Below.refl _ _⟩
      have := hx_pos x
      rw [← h2] at this
      simp at this
    · refine (pu102 t h0 hmax w).mono ?_
      rintro e w' ⟨h, rfl⟩
      exact ⟨h, bytes_below w t⟩
  have HC := Lib.hid call
  have HE := Lib.hid hE
  clear call hE
  go_enter Tryd.func72, Tryd.ntmps72
  go_wp2_with (go_at_call 102; refine HC.out.mono ?_; rintro e w2 ⟨⟨n, ev, rfl, hP⟩, hb⟩; refine Hid.out ?_)
  refine Lib.hid ?_
  have HB := Lib.hid hb
  have HE2 := Lib.hid (HE.out.old hb)
  clear hb
  obtain ⟨hn, he, hcan⟩ := hP
  rcases he with rfl | rfl | rfl
  · have HP : Hid (PuE t.data.toList n .nilIface) := Lib.hid ⟨hn, .inl ⟨rfl, fun x h1 h2 => (hcan x h1 h2).1⟩⟩
    clear hcan hn
    go_wp2
    go_ret2
    exact ⟨⟨n, _, rfl, HP.out⟩, HB.out⟩
  · have HP : ∀ tp p, Hid (PuE t.data.toList n (.iface tp p)) := fun tp p => Lib.hid ⟨hn, .inr ⟨⟨_, _, rfl⟩, fun x h1 h2 => by have := (hcan x h1 h2).2; cases this⟩⟩
    clear hcan hn
    go_wp2_with (go_at_call 101; refine (toErr _ _ 1 (.inl rfl) _ hmax HE2.out).mono ?_; rintro e w3 ⟨⟨tp, p, rfl⟩, hb⟩)
    go_ret2
    exact ⟨⟨n, _, rfl, (HP _ _).out⟩, HB.out.trans (hb.mono HB.out.size)⟩
  · have HP : ∀ tp p, Hid (PuE t.data.toList n (.iface tp p)) := fun tp p => Lib.hid ⟨hn, .inr ⟨⟨_, _, rfl⟩, fun x h1 h2 => by have := (hcan x h1 h2).2; cases this⟩⟩
    clear hcan hn
    go_wp2_with (go_at_call 101; refine (toErr _ _ 2 (.inr rfl) _ hmax HE2.out).mono ?_; rintro e w3 ⟨⟨tp, p, rfl⟩, hb⟩)
    go_ret2
    exact ⟨⟨n, _, rfl, (HP _ _).out⟩, HB.out.trans (hb.mono HB.out.size)⟩
/-- How a number is read. -/
def AtE (bs : List UInt8) (n : Int) (ev : Value) : Prop := (ev = .nilIface ∧ Lib.atoiAll bs = .ok n) ∨ ((∃ tp p, ev = .iface tp p) ∧ ∀ v, Lib.atoiAll bs ≠ .ok v)
theorem at71 (s : ByteArray) (hs : s.size ≤ 1000000) (w : World) (hE : Errs w) :
    Calls Tryd.prog 71 #[.string s] w fun e w' => (∃ (n : Int) (ev : Value), e = .returned (.tuple #[.int .i64 n, ev]) ∧ AtE s.data.toList n ev) ∧ Below w.heap.size w w' := by
  obtain ⟨⟨t1, p1, h1⟩, t2, p2, h2⟩ := hE
  rcases h : Lib.atoiAll s.data.toList with v | _ | _
  · refine (Any.strconv_Atoi_ok wr_lays172 s (by omega) v h w).mono ?_
    rintro e w' ⟨rfl, hw⟩
    refine ⟨⟨v, _, rfl, .inl ⟨rfl, h⟩⟩, ?_⟩
    rcases hw with rfl | ⟨t, rfl⟩
    · exact Below.refl _ _
    · exact bytes_below w t
  · refine (Any.strconv_Atoi_syntax_var wr_lays172 s (by omega) h t1 p1 w h1).mono ?_
    rintro e w' ⟨N, rfl, _, _, hb⟩
    exact ⟨⟨_, _, rfl, .inr ⟨⟨_, _, rfl⟩, fun v hv => by rw [h] at hv; cases hv⟩⟩, hb⟩
  · refine (Any.strconv_Atoi_range_var wr_lays172 s (by omega) h t2 p2 w h2).mono ?_
    rintro e w' ⟨N, rfl, _, _, hb⟩
    exact ⟨⟨_, _, rfl, .inr ⟨⟨_, _, rfl⟩, fun v hv => by rw [h] at hv; cases hv⟩⟩, hb⟩
theorem cut70 (s : ByteArray) (w : World) :
    Calls Tryd.prog 70 #[.string s, .string ⟨#[122]⟩] w fun e w' => e = .returned (.tuple #[.string ⟨(Lib.trimPrefix s.data.toList [122]).toArray⟩, .bool (Lib.hasPrefix s.data.toList [122])]) ∧ w' = w :=
  Any.strings_CutPrefix wr_lays103 s ⟨#[122]⟩ w
/-- internal/bytealg.MaxLen holds a number. -/
def MaxL (w : World) : Prop := ∃ m : Int, w.cell? ⟨wr_lays146_ren.g 1, 0, none⟩ = some (.int .i64 m)
theorem MaxL.of {w : World} (h : w.ShapedOpen Tryd.prog) : MaxL w := wr_lays146.s1_3 w h
theorem MaxL.old {w w' : World} (h : MaxL w) (hb : Below w.heap.size w w') : MaxL w' := by
  obtain ⟨m, h⟩ := h
  exact ⟨m, (World.cell?_of_block (hb.block _ (World.block_lt_of_cell? w _ h))).trans h⟩
theorem split69 (s : ByteArray) (hs : s.size ≤ 1000000) (w : World) (h : MaxL w) :
    Calls Tryd.prog 69 #[.string s, .string ⟨#[32]⟩] w fun e w' => e = .returned (.slice (some ⟨w.heap.size, 0, none⟩) ((Lib.countB s ⟨#[32]⟩ + 1 : Nat)) ((Lib.countB s ⟨#[32]⟩ + 1 : Nat))) ∧ w' = w.alloc (.cells ((Lib.splitB ⟨#[32]⟩ 0 (Lib.countB s ⟨#[32]⟩) s).map Value.string).toArray 9) := by
  obtain ⟨m, hm⟩ := h
  have L := wr_lays146
  exact Any.strings_Split { L with } L.i9 s ⟨#[32]⟩ m w (by omega) hm (by decide)
theorem within56 (n : Int) (w : World) : Calls Tryd.prog 56 #[.int .i64 n, .int .i64 1, .int .i64 1000] w fun e w' => e = .returned (.bool (decide (1 ≤ n ∧ n ≤ 1000))) ∧ w' = w := by
  by_cases h1 : 1 ≤ n
  · by_cases h2 : n ≤ 1000
    · rw [decide_eq_true (And.intro h1 h2)]
      go_enter Tryd.func56, Tryd.ntmps56
      go_wp2
      go_ret
      exact ⟨rfl, rfl⟩
    · rw [decide_eq_false (fun h : 1 ≤ n ∧ n ≤ 1000 => h2 h.2)]
      go_enter Tryd.func56, Tryd.ntmps56
      go_wp2
      go_ret
      exact ⟨rfl, rfl⟩
  · rw [decide_eq_false (fun h : 1 ≤ n ∧ n ≤ 1000 => h1 h.1)]
    go_enter Tryd.func56, Tryd.ntmps56
    go_wp2
    go_ret
    exact ⟨rfl, rfl⟩
end Go.Proofs.YtdkinmgpclbedaaDoor.Pv
