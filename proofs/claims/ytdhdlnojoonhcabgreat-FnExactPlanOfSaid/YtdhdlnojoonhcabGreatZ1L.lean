/- The law FnExactPlanOf returns true, and the arguments read as they did; for every input. -/
import Derived.Test.YtdhdlnojoonhcabGreatRows
import Derived.Test.YtdhdlnojoonhcabGreatZ1P
import Derived.Test.YtdhdlnojoonhcabGreatPvRow
import Derived.WalkKit
import Derived.ProofKit
import Derived.OpenShut
import Derived.ShutString
import Derived.ChangeOld
import Derived.Below
import Derived.SizedLaws
namespace Go.Proofs.YtdhdlnojoonhcabGreat.fnExactPlanOf
open Go.ChangeShapes Go.WideShapes Go.ChangeAt Go.RowKit
set_option linter.unusedVariables false
theorem own : ownKnob Tryz.prog.godebug = none := by kernel_rfl
theorem laidOut : laidOutB Tryz.prog = true := by kernel_rfl
set_option maxRecDepth 100000 in
theorem lifted (os : Os) (started : os.Started) (H : Type) (enc : TypeId × Value → H) :
    ReturnsInHanded {} Tryz.checked os 3 .any (Rows.fnExactPlanOfSpec.pre6 enc Tryz.prog Tryz.f3 Rows.fnExactPlanOfRow.domain false) (Rows.fnExactPlanOfSpec.post enc Tryz.prog Tryz.f3 false true false false) := by
  refine returnsInHanded_of_change_sized (C := Tryz.checked) own started (by kernel_rfl) Tryz.func3
    (ChangeSpec.witness6 (enc := enc) (C := Tryz.checked) false ⟨#[], #[.slice none 0 0, .agg #[.int .i64 0, .int .i64 0, .int .i64 0, .int .i64 0], .int .i64 0], []⟩ 8 (by kernel_rfl) (by kernel_rfl) (by kernel_rfl) (by kernel_rfl)) ?_
  intro W base args ds gs before hval0 hW hcnd hsz0 _
  have hval : ∀ (j : Nat) t v, Tryz.f3.params[j]? = some t → args[j]? = some v → Value.okWide Tryz.prog W .any base t v := hval0
  have hW' := hW
  obtain ⟨p, q, hA0, hV, rfl, hfz, hnd⟩ := hW
  have hA : DataW.TrodAll enc Tryz.prog W 0 (fun _ => true) true Tryz.f3.params.toList args.toList ds p := hA0
  rw [Tryz.params3] at hA hval
  obtain ⟨v0, vs0, d0, ds0, p0, q0, hargs, rfl, rfl, h0, r0⟩ := trodAll_cons hA
  obtain ⟨v1, vs1, d1, ds1, p1, q1, rfl, rfl, rfl, h1, r1⟩ := trodAll_cons r0
  obtain ⟨v2, vs2, d2, ds2, p2, q2, rfl, rfl, rfl, h2, r2⟩ := trodAll_cons r1
  obtain ⟨rfl, rfl, rfl⟩ := trodAll_nil r2
  obtain rfl : args = #[v0, v1, v2] := by cases args; simp_all
  obtain ⟨rfl, rfl⟩ := trodVars_none hV
  have lt0 : ∀ x ∈ p0, x.block < W.heap.size := by obtain ⟨m, hm⟩ := h0; exact DataW.trod_lt m _ _ _ hm
  have lt1 : ∀ x ∈ p1, x.block < W.heap.size := by obtain ⟨m, hm⟩ := h1; exact DataW.trod_lt m _ _ _ hm
  have lt2 : ∀ x ∈ p2, x.block < W.heap.size := by obtain ⟨m, hm⟩ := h2; exact DataW.trod_lt m _ _ _ hm
  obtain ⟨a0, len0, cap0, rfl⟩ := okWide_slice Tryz.underlying22 (hval 0 22 v0 rfl rfl)
  obtain ⟨c1, rfl, _⟩ := okWide_struct Tryz.underlying24 (hval 1 24 v1 rfl rfl)
  obtain ⟨n2, rfl⟩ := okWide_int Tryz.underlying3 (hval 2 3 v2 rfl rfl)
  obtain ⟨y0, g0, w0⟩ := Go.Pv.arg_rep (fz := fun b => b < W.heap.size) (bz := fun _ => False) (φ := fun _ => .slice none 0 0) (c := .sl .frz (.int .u64)) (fun _ h => h) (by kernel_rfl) h0
  obtain ⟨y1, g1, w1⟩ := Go.Pv.arg_rep (fz := fun b => b < W.heap.size) (bz := fun _ => False) (φ := fun _ => .slice none 0 0) (c := .agg (.pair (.int .i64) (.pair (.int .i64) (.pair (.int .i64) (.int .i64))))) (fun _ h => h) (by kernel_rfl) h1
  obtain ⟨y2, g2, w2⟩ := Go.Pv.arg_rep (fz := fun b => b < W.heap.size) (bz := fun _ => False) (φ := fun _ => .slice none 0 0) (c := .int .i64) (fun _ h => h) (by kernel_rfl) h2
  refine (Go.Pv.law_calls (Pv.ok_laws_FnExactPlanOf Pv.N0) rfl rfl (x := (y0, y1, y2)) (y := ()) (Pv.lawFnExactPlanOf y0 y1 y2 w0 w1 w2) (fun v h => by simpa [Pv.E_laws_FnExactPlanOf, Go.Pv.RepV0, Go.Pv.RepC] using h) (args := [.slice a0 len0 cap0, .agg c1, .int .i64 n2])
    ⟨_, _, rfl, Go.Pv.rep_leaf rfl g0 rfl, _, _, rfl, Go.Pv.rep_agg g1, _, rfl, Go.Pv.rep_leaf rfl g2 rfl⟩).mono fun e W' ⟨he, bel⟩ => ?_
  subst he
  exact ⟨_, rfl, _, _, _, [], _, [], hW', trodAll_mk1 (shut_bool Tryz.underlying4 _), (trodAll_cons_mk (Below.trod laidOut (by kernel_rfl) (of_decide_eq_true (by kernel_rfl)) h0 bel lt0) (trodAll_cons_mk (Below.trod laidOut (by kernel_rfl) (of_decide_eq_true (by kernel_rfl)) h1 bel lt1) (trodAll_cons_mk (Below.trod laidOut (by kernel_rfl) (of_decide_eq_true (by kernel_rfl)) h2 bel lt2) trodAll_mk0))), rfl, bel.frame _, fun h => by cases h⟩
theorem over : Rows.fnExactPlanOfRow.holds Tryz.pinned (OpenSpec.ofChange Rows.fnExactPlanOfSpec) :=
  OpenClaim.holds_of_wide 3 Tryz.f3 rfl rfl rfl rfl rfl rfl rfl ⟨rfl, rfl, rfl, rfl, rfl⟩ rfl rfl rfl rfl rfl (by kernel_rfl) Tryz.func3 (by kernel_rfl)
    (of_decide_eq_true (by kernel_rfl)) (by unfold Func.isWrapper; first | (rw [if_pos (by decide +kernel)]; kernel_rfl) | (rw [if_neg (by decide +kernel)]; exact ⟨rfl, rfl⟩))
    (fun os started H enc _ => lifted os started H enc)
theorem proved : Rows.FnExactPlanOfSaid := over
#print axioms proved
end Go.Proofs.YtdhdlnojoonhcabGreat.fnExactPlanOf
namespace Go.Proofs.YtdhdlnojoonhcabGreat
/-- The row, under a short name, for the claim. -/
theorem fnExactPlanOf_holds : Rows.FnExactPlanOfSaid := fnExactPlanOf.proved
end Go.Proofs.YtdhdlnojoonhcabGreat
