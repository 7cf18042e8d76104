/- The law FnExactWireText returns true, and the arguments read as they did; for every input. -/
import Derived.Test.YtdkinmgpclbedaaDoorRows
import Derived.Test.YtdkinmgpclbedaaDoorWtAb
import Derived.Test.YtdkinmgpclbedaaDoorPvRow
import Derived.Test.YtdkinmgpclbedaaDoorCards
import Derived.Test.YtdkinmgpclbedaaDoorTie
import Derived.LaidMore
import Derived.SevenTiedAt
import Derived.Stop.Joined
import Derived.WalkKit
import Derived.ProofKit
import Derived.OpenShut
import Derived.ShutString
import Derived.ChangeOld
import Derived.Below
import Derived.SizedLaws
namespace Go.Proofs.YtdkinmgpclbedaaDoor.fnExactWireText
open Go.ChangeShapes Go.WideShapes Go.ChangeAt Go.RowKit
set_option linter.unusedVariables false
theorem own : ownKnob Tryd.prog.godebug = none := by kernel_rfl
theorem laidOut : laidOutB Tryd.prog = true := by kernel_rfl
set_option maxRecDepth 100000 in
theorem door_met (os : Os) (args : Array Value) : laidMetH Tryd.prog Rows.fnExactWireTextRow.laid ((World.doorLaid Tryd.prog 4000 os).forCall (fun _ _ => 0) ⟨#[], args, []⟩).memory :=
  laidMetH_of_parts3 (fuel := 8) (laidMet_of_run' 8 (by kernel_rfl) (by kernel_rfl)) (by kernel_rfl) (by kernel_rfl)
set_option maxRecDepth 100000 in
theorem lifted (os : Os) (started : os.Started) (H : Type) (enc : TypeId × Value → H) :
    ReturnsInHanded {} Tryd.checked os 7 .any (fun w args => (Rows.fnExactWireTextSpec.pre enc Tryd.prog Tryd.f7 [] false w args ∧ laidMetH Tryd.prog Rows.fnExactWireTextRow.laid w) ∧ sizedMet enc Tryd.prog Tryd.f7 (OpenSpec.ofChange Rows.fnExactWireTextSpec) false w args) (Rows.fnExactWireTextSpec.post enc Tryd.prog Tryd.f7 false true false false) := by
  refine returnsInHanded_of_change_and (C := Tryd.checked) (X := fun w _ => laidMetH Tryd.prog Rows.fnExactWireTextRow.laid w) (fun _ _ _ hh h => h.of_heap hh) own started (by kernel_rfl) Tryd.func7
    (ChangeSpec.witness_shaped (enc := enc) (C := Tryd.checked) (os := os) (X := fun w _ => laidMetH Tryd.prog Rows.fnExactWireTextRow.laid w) false (World.doorLaid Tryd.prog 4000 os) #[.slice none 0 0] 8 rfl (World.shaped_of_RefB (by kernel_rfl) (by kernel_rfl)) (by kernel_rfl) (by kernel_rfl) (by kernel_rfl) (door_met os _)) ?_
  intro W base args ds gs before hval0 hW hcnd hsz0 hL0 _
  have hval : ∀ (j : Nat) t v, Tryd.f7.params[j]? = some t → args[j]? = some v → Value.okWide Tryd.prog W .any base t v := hval0
  have hW' := hW
  obtain ⟨p, q, hA0, hV, rfl, hfz, hnd⟩ := hW
  have hA : DataW.TrodAll enc Tryd.prog W 0 (fun _ => true) true Tryd.f7.params.toList args.toList ds p := hA0
  rw [Tryd.params7] at hA hval
  obtain ⟨v0, vs0, d0, ds0, p0, q0, hargs, rfl, rfl, h0, r0⟩ := trodAll_cons hA
  obtain ⟨rfl, rfl, rfl⟩ := trodAll_nil r0
  obtain rfl : args = #[v0] := by cases args; simp_all
  obtain ⟨rfl, rfl⟩ := trodVars_none hV
  have lt0 : ∀ x ∈ p0, x.block < W.heap.size := by obtain ⟨m, hm⟩ := h0; exact DataW.trod_lt m _ _ _ hm
  obtain ⟨a0, len0, cap0, rfl⟩ := okWide_slice Tryd.underlying43 (hval 0 43 v0 rfl rfl)
  obtain ⟨y0, g0, w0⟩ := Go.Pv.arg_rep (fz := fun b => b < W.heap.size) (bz := fun _ => False) (φ := fun _ => .slice none 0 0) (c := .sl .frz (.int .u64)) (fun _ h => h) (by kernel_rfl) h0
  have hr0 : Go.Pv.RepC W (fun b => b < W.heap.size) (fun _ => False) (fun _ => .slice none 0 0) (.sl .frz (.int .u64)) y0 [.slice a0 len0 cap0] := g0
  obtain ⟨A, c, ea, h1, h2⟩ := hr0
  have ea : Value.slice a0 len0 cap0 = .slice A y0.length c := by simpa using ea
  have hU : Pv.U64At W (.slice A y0.length c) y0 := by
    refine ⟨A, c, rfl, h1, h2.imp id ?_⟩
    rintro ⟨B, off, rfl, hB, hc⟩
    refine ⟨B, off, rfl, hB, fun i hi => ?_⟩
    obtain ⟨ys, k1, k2⟩ := hc i y0[i] (List.getElem?_eq_getElem hi)
    have k1 : ys = [.int .u64 y0[i]] := k1
    have := k2 0 (.int .u64 y0[i]) (by rw [k1]; rfl)
    rw [show Go.Pv.Ty.sz (.int .u64) = 1 from rfl, Nat.mul_one, Nat.add_zero] at this
    rw [this]
    simp [List.getD, hi]
  have fin : Calls Tryd.prog 7 #[.slice A y0.length c] W fun e w' => e = .returned (.bool true) ∧ Below W.heap.size W w' := by
    by_cases hl : y0.length ≤ 1048576
    · obtain ⟨s1, s2, s3, s4, s5, s6, s7, s8, cc, b, s9, s10, s11⟩ := Pv.lawWireTextSpec y0 w0 hl
      obtain ⟨hT, h5⟩ := Pv.tab_at hL0 (by kernel_rfl) (by exact List.mem_cons_of_mem _ List.mem_cons_self)
      exact Pv.wt_law hl s1 s2 s3 s4 s5 s6 s7 s8 s9 s10 s11 A c W hU ⟨hT, h5, Pv.pow_tab hL0 (by kernel_rfl) (by exact List.mem_cons_of_mem _ (List.mem_cons_of_mem _ List.mem_cons_self))⟩
    · exact Pv.wt_long (by omega) A c W
  rw [← ea] at fin
  refine fin.mono fun e W' ⟨he, bel⟩ => ?_
  subst he
  exact ⟨_, rfl, _, _, _, [], _, [], hW', trodAll_mk1 (shut_bool Tryd.underlying4 _), (trodAll_cons_mk (Below.trod laidOut (by kernel_rfl) (of_decide_eq_true (by kernel_rfl)) h0 bel lt0) trodAll_mk0), rfl, bel.frame _, fun h => by cases h⟩
theorem over : Rows.fnExactWireTextRow.holds Tryd.pinned (OpenSpec.ofChange Rows.fnExactWireTextSpec) :=
  OpenClaim.holds_of_wide 7 Tryd.f7 rfl rfl rfl rfl rfl rfl rfl ⟨rfl, rfl, rfl, rfl, rfl⟩ rfl rfl rfl rfl rfl (by kernel_rfl) Tryd.func7 (by kernel_rfl)
    (of_decide_eq_true (by kernel_rfl)) (by unfold Func.isWrapper; first | (rw [if_pos (by decide +kernel)]; kernel_rfl) | (rw [if_neg (by decide +kernel)]; exact ⟨rfl, rfl⟩))
    (fun os started H enc _ => lifted os started H enc)
theorem proved : Rows.FnExactWireTextSaid := over
theorem card_holds : Rows.FnExactWireTextCardSaid :=
  Claim7.holds_tied_plain_at .later [] [.data, .data, .data] true (true, "ec37ec1dac5ed9857a7389bd53fb50e02ab1b23e79ca251eb7b697608fc8fd56") true
    proved (fun _ h => by cases h) (by kernel_rfl) (fun _ h => by cases h) fnExactWireText_row_tie rfl ⟨rfl, rfl⟩ (by kernel_rfl) rfl
    (fun f fn hf hfn => by
      obtain rfl : f = 7 := Option.some.inj ((show Tryd.prog.funcNamed "loop.example/hostel/laws.FnExactWireText" = some 7 by kernel_rfl).symm.trans hf) |>.symm
      obtain rfl : fn = Tryd.f7 := (Option.some.inj (Tryd.func7.symm.trans hfn)).symm
      exact ⟨by kernel_rfl, fun j t ht => by
        rw [Tryd.params7] at ht
        have hm : t ∈ [43] := by simpa using Array.mem_of_getElem? ht
        have hall : ([43].all fun u => !Tryd.prog.wantsStandIn u) = true := by kernel_rfl
        exact (show Tryd.prog.wantsStandIn t = false by simpa using List.all_eq_true.1 hall t hm)⟩)
    (by kernel_rfl)
#print axioms card_holds
end Go.Proofs.YtdkinmgpclbedaaDoor.fnExactWireText
namespace Go.Proofs.YtdkinmgpclbedaaDoor
/-- The card, under a short name, for the claim. -/
theorem fnExactWireText_holds : Rows.FnExactWireTextCardSaid := fnExactWireText.card_holds
end Go.Proofs.YtdkinmgpclbedaaDoor
