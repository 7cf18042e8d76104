/- The law FnExactTaleBook returns true, and the arguments read as they did; for every input. -/
import Derived.Test.YtdkinmgpclbedaaRows
import Derived.Test.YtdkinmgpclbedaaTbP
import Derived.Test.YtdkinmgpclbedaaPvRow
import Derived.WalkKit
import Derived.ProofKit
import Derived.OpenShut
import Derived.ShutString
import Derived.ChangeOld
import Derived.Below
import Derived.SizedLaws
namespace Go.Proofs.Ytdkinmgpclbedaa.fnExactTaleBook
open Go.ChangeShapes Go.WideShapes Go.ChangeAt Go.RowKit
set_option linter.unusedVariables false
theorem own : ownKnob Try.prog.godebug = none := by kernel_rfl
theorem laidOut : laidOutB Try.prog = true := by kernel_rfl
set_option maxRecDepth 100000 in
theorem lifted (os : Os) (started : os.Started) (H : Type) (enc : TypeId × Value → H) :
    ReturnsInHanded {} Try.checked os 3 .any (Rows.fnExactTaleBookSpec.pre6 enc Try.prog Try.f3 Rows.fnExactTaleBookRow.domain false) (Rows.fnExactTaleBookSpec.post enc Try.prog Try.f3 false true false false) := by
  refine returnsInHanded_of_change_sized (C := Try.checked) own started (by kernel_rfl) Try.func3
    (ChangeSpec.witness6 (enc := enc) (C := Try.checked) false ⟨#[], #[.agg #[.int .i64 0, .slice none 0 0, .slice none 0 0, .slice none 0 0, .slice none 0 0, .slice none 0 0, .slice none 0 0, .slice none 0 0, .slice none 0 0], .slice none 0 0], []⟩ 8 (by kernel_rfl) (by kernel_rfl) (by kernel_rfl) (by kernel_rfl)) ?_
  intro W base args ds gs before hval0 hW hcnd hsz0 _
  have hval : ∀ (j : Nat) t v, Try.f3.params[j]? = some t → args[j]? = some v → Value.okWide Try.prog W .any base t v := hval0
  have hW' := hW
  obtain ⟨p, q, hA0, hV, rfl, hfz, hnd⟩ := hW
  have hA : DataW.TrodAll enc Try.prog W 0 (fun _ => true) true Try.f3.params.toList args.toList ds p := hA0
  rw [Try.params3] at hA hval
  obtain ⟨v0, vs0, d0, ds0, p0, q0, hargs, rfl, rfl, h0, r0⟩ := trodAll_cons hA
  obtain ⟨v1, vs1, d1, ds1, p1, q1, rfl, rfl, rfl, h1, r1⟩ := trodAll_cons r0
  obtain ⟨rfl, rfl, rfl⟩ := trodAll_nil r1
  obtain rfl : args = #[v0, v1] := by cases args; simp_all
  obtain ⟨rfl, rfl⟩ := trodVars_none hV
  have lt0 : ∀ x ∈ p0, x.block < W.heap.size := by obtain ⟨m, hm⟩ := h0; exact DataW.trod_lt m _ _ _ hm
  have lt1 : ∀ x ∈ p1, x.block < W.heap.size := by obtain ⟨m, hm⟩ := h1; exact DataW.trod_lt m _ _ _ hm
  obtain ⟨c0, rfl, _⟩ := okWide_struct Try.underlying25 (hval 0 25 v0 rfl rfl)
  obtain ⟨a1, len1, cap1, rfl⟩ := okWide_slice Try.underlying26 (hval 1 26 v1 rfl rfl)
  obtain ⟨y0, g0, w0⟩ := Go.Pv.arg_rep (fz := fun b => b < W.heap.size) (bz := fun _ => False) (φ := fun _ => .slice none 0 0) (c := .agg (.pair (.int .i64) (.pair (.sl .frz (.int .i64)) (.pair (.agg (.pair (.sl .frz (.int .i64)) (.pair (.sl .frz (.int .i64)) (.pair (.sl .frz (.int .i64)) (.sl .frz (.int .i64)))))) (.pair (.sl .frz (.int .i64)) (.pair (.sl .frz (.int .i64)) (.sl .frz (.int .i64)))))))) (fun _ h => h) (by kernel_rfl) h0
  obtain ⟨y1, g1, w1⟩ := Go.Pv.arg_rep (fz := fun b => b < W.heap.size) (bz := fun _ => False) (φ := fun _ => .slice none 0 0) (c := .sl .frz (.agg (.pair .bool (.pair (.int .i64) (.pair (.agg (.pair (.int .i64) (.pair (.int .i64) (.pair (.int .i64) (.int .i64))))) (.pair (.int .i64) (.int .i64))))))) (fun _ h => h) (by kernel_rfl) h1
  refine (Go.Pv.law_calls (Pv.ok_laws_FnExactTaleBook Pv.N0) rfl rfl (x := (y0, y1)) (y := ()) (Pv.lawFnExactTaleBook y0 y1 w0 w1) (fun v h => by simpa [Pv.E_laws_FnExactTaleBook, Go.Pv.RepV0, Go.Pv.RepC] using h) (args := [.agg c0, .slice a1 len1 cap1])
    ⟨_, _, rfl, Go.Pv.rep_agg g0, _, rfl, Go.Pv.rep_leaf rfl g1 rfl⟩).mono fun e W' ⟨he, bel⟩ => ?_
  subst he
  exact ⟨_, rfl, _, _, _, [], _, [], hW', trodAll_mk1 (shut_bool Try.underlying4 _), (trodAll_cons_mk (Below.trod laidOut (by kernel_rfl) (of_decide_eq_true (by kernel_rfl)) h0 bel lt0) (trodAll_cons_mk (Below.trod laidOut (by kernel_rfl) (of_decide_eq_true (by kernel_rfl)) h1 bel lt1) trodAll_mk0)), rfl, bel.frame _, fun h => by cases h⟩
theorem over : Rows.fnExactTaleBookRow.holds Try.pinned (OpenSpec.ofChange Rows.fnExactTaleBookSpec) :=
  OpenClaim.holds_of_wide 3 Try.f3 rfl rfl rfl rfl rfl rfl rfl ⟨rfl, rfl, rfl, rfl, rfl⟩ rfl rfl rfl rfl rfl (by kernel_rfl) Try.func3 (by kernel_rfl)
    (of_decide_eq_true (by kernel_rfl)) (by unfold Func.isWrapper; first | (rw [if_pos (by decide +kernel)]; kernel_rfl) | (rw [if_neg (by decide +kernel)]; exact ⟨rfl, rfl⟩))
    (fun os started H enc _ => lifted os started H enc)
theorem proved : Rows.FnExactTaleBookSaid := over
#print axioms proved
end Go.Proofs.Ytdkinmgpclbedaa.fnExactTaleBook
namespace Go.Proofs.Ytdkinmgpclbedaa
/-- The row, under a short name, for the claim. -/
theorem fnExactTaleBook_holds : Rows.FnExactTaleBookSaid := fnExactTaleBook.proved
end Go.Proofs.Ytdkinmgpclbedaa
