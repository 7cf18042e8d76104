/-
  No cell of these rows narrows 'for every input' (looked for: loops, veiled, ifaces, maps, wideKeys, modest, calm, conditions, laid).
  DERIVED. THE GIVEN ROWS OF THIS SEAT. 5 by the template 'for every input the law returns true; each argument reads behind the call as it read before'; 0 by the template 'total and deterministic' (their statements: YtdhdlnojoonhcabGreatTotals.lean).
  GIVEN WITH THE SEED: the statements are not yours to turn. If you find one false, say at which input.
  Laid BY PROGRAM, IN A SANDBOX (cutbox-rows.mjs): the forced cells as the released guide's own fill.sh prints them over the translation 96a49e3ddcdaa86d… (all of the seat's roots in one cut). By AI agents, Wed Nov 11 2026. No macro, syntax, notation, axiom, sorry.
-/
import Derived.Test.YtdhdlnojoonhcabGreatChecked
import GoSem.Claim
import GoSem.ClaimJoined
import GoSem.ClaimMapViews
import Derived.JoinedTies
import Derived.KernelRfl
namespace Go.Proofs.YtdhdlnojoonhcabGreat
/- THE CELL 'sum', in the pinned program and in every row, IS THE sha256 OF THE DUMP (.gsa) THAT YtdhdlnojoonhcabGreatProg.lean LOADS. Nothing in Lean hashes anything: it is a label: what it is worth is what the hold of that sum in a sandbox is worth. -/
noncomputable def Tryz.pinned : Pinned := { name := "ytdhdlnojoonhcabgreat", sum := "96a49e3ddcdaa86df1164b7c9b0a8e83de24d804cf2e5f4bf257c789fc33b02d", checked := Tryz.checked }
namespace Rows
def none {H : Type} : Left H := { results := [], args := [] }

/-- 'laws.FnExactPlanOf': WHATEVER THE INPUT: true; the input reads as it did. -/
def fnExactPlanOfSpec : ChangeSpec := { name := "fnExactPlanOf", fn := fun _ => fun
  | [d1, d2, d3] => { results := [.lit (.bool true)], args := [d1, d2, d3] }
  | _ => none }
def fnExactPlanOfRow : OpenClaim := { program := "ytdhdlnojoonhcabgreat", sum := "96a49e3ddcdaa86df1164b7c9b0a8e83de24d804cf2e5f4bf257c789fc33b02d", func := "loop.example/hostel/laws.FnExactPlanOf", spec := "fnExactPlanOf", inPlace := ["slices.overlaps[int]"], unfollowed := true, recurses := true, apart := false }
def FnExactPlanOfSaid : Prop := fnExactPlanOfRow.holds Tryz.pinned (OpenSpec.ofChange fnExactPlanOfSpec)

/-- ITS FALSE NEIGHBOUR: 'it returns false'. Refute it at one input. -/
def fnExactPlanOfWrong : ChangeSpec := { name := "fnExactPlanOf", fn := fun _ => fun
  | [d1, d2, d3] => { results := [.lit (.bool false)], args := [d1, d2, d3] }
  | _ => none }
def FnExactPlanOfWrongFalsely : Prop := fnExactPlanOfRow.holds Tryz.pinned (OpenSpec.ofChange fnExactPlanOfWrong)

/-- 'laws.FnExactWorldBook': WHATEVER THE INPUT: true; the input reads as it did. -/
def fnExactWorldBookSpec : ChangeSpec := { name := "fnExactWorldBook", fn := fun _ => fun
  | [d] => { results := [.lit (.bool true)], args := [d] }
  | _ => none }
def fnExactWorldBookRow : OpenClaim := { program := "ytdhdlnojoonhcabgreat", sum := "96a49e3ddcdaa86df1164b7c9b0a8e83de24d804cf2e5f4bf257c789fc33b02d", func := "loop.example/hostel/laws.FnExactWorldBook", spec := "fnExactWorldBook", unfollowed := true, recurses := true, apart := false }
def FnExactWorldBookSaid : Prop := fnExactWorldBookRow.holds Tryz.pinned (OpenSpec.ofChange fnExactWorldBookSpec)

/-- ITS FALSE NEIGHBOUR: 'it returns false'. Refute it at one input. -/
def fnExactWorldBookWrong : ChangeSpec := { name := "fnExactWorldBook", fn := fun _ => fun
  | [d] => { results := [.lit (.bool false)], args := [d] }
  | _ => none }
def FnExactWorldBookWrongFalsely : Prop := fnExactWorldBookRow.holds Tryz.pinned (OpenSpec.ofChange fnExactWorldBookWrong)

/-- 'laws.FnPlanEach': WHATEVER THE INPUT: true; the input reads as it did. -/
def fnPlanEachSpec : ChangeSpec := { name := "fnPlanEach", fn := fun _ => fun
  | [d] => { results := [.lit (.bool true)], args := [d] }
  | _ => none }
def fnPlanEachRow : OpenClaim := { program := "ytdhdlnojoonhcabgreat", sum := "96a49e3ddcdaa86df1164b7c9b0a8e83de24d804cf2e5f4bf257c789fc33b02d", func := "loop.example/hostel/laws.FnPlanEach", spec := "fnPlanEach", inPlace := ["slices.overlaps[int]"], unfollowed := true, recurses := true, apart := false }
def FnPlanEachSaid : Prop := fnPlanEachRow.holds Tryz.pinned (OpenSpec.ofChange fnPlanEachSpec)

/-- ITS FALSE NEIGHBOUR: 'it returns false'. Refute it at one input. -/
def fnPlanEachWrong : ChangeSpec := { name := "fnPlanEach", fn := fun _ => fun
  | [d] => { results := [.lit (.bool false)], args := [d] }
  | _ => none }
def FnPlanEachWrongFalsely : Prop := fnPlanEachRow.holds Tryz.pinned (OpenSpec.ofChange fnPlanEachWrong)

/-- 'laws.FnPlan': WHATEVER THE INPUT: true; the input reads as it did. -/
def fnPlanSpec : ChangeSpec := { name := "fnPlan", fn := fun _ => fun
  | [d] => { results := [.lit (.bool true)], args := [d] }
  | _ => none }
def fnPlanRow : OpenClaim := { program := "ytdhdlnojoonhcabgreat", sum := "96a49e3ddcdaa86df1164b7c9b0a8e83de24d804cf2e5f4bf257c789fc33b02d", func := "loop.example/hostel/laws.FnPlan", spec := "fnPlan", inPlace := ["slices.overlaps[int]"], unfollowed := true, recurses := true, apart := false }
def FnPlanSaid : Prop := fnPlanRow.holds Tryz.pinned (OpenSpec.ofChange fnPlanSpec)

/-- ITS FALSE NEIGHBOUR: 'it returns false'. Refute it at one input. -/
def fnPlanWrong : ChangeSpec := { name := "fnPlan", fn := fun _ => fun
  | [d] => { results := [.lit (.bool false)], args := [d] }
  | _ => none }
def FnPlanWrongFalsely : Prop := fnPlanRow.holds Tryz.pinned (OpenSpec.ofChange fnPlanWrong)

/-- 'laws.FnWireDiff': WHATEVER THE INPUT: true; the input reads as it did. -/
def fnWireDiffSpec : ChangeSpec := { name := "fnWireDiff", fn := fun _ => fun
  | [d] => { results := [.lit (.bool true)], args := [d] }
  | _ => none }
def fnWireDiffRow : OpenClaim := { program := "ytdhdlnojoonhcabgreat", sum := "96a49e3ddcdaa86df1164b7c9b0a8e83de24d804cf2e5f4bf257c789fc33b02d", func := "loop.example/hostel/laws.FnWireDiff", spec := "fnWireDiff", apart := false }
def FnWireDiffSaid : Prop := fnWireDiffRow.holds Tryz.pinned (OpenSpec.ofChange fnWireDiffSpec)

/-- ITS FALSE NEIGHBOUR: 'it returns false'. Refute it at one input. -/
def fnWireDiffWrong : ChangeSpec := { name := "fnWireDiff", fn := fun _ => fun
  | [d] => { results := [.lit (.bool false)], args := [d] }
  | _ => none }
def FnWireDiffWrongFalsely : Prop := fnWireDiffRow.holds Tryz.pinned (OpenSpec.ofChange fnWireDiffWrong)

/- THE SECOND FORM. 'bulk': how many values and letters a reading holds, each counted each time it is reached (what is shared counts as often as it is met; a slice's spare places count too). A statement '..UptoSaid' is the law's where the arguments, and the package variables that the reading takes, are together of bulk at most 1048576: NARROWER than '..Said'. Prove '..Said' where nothing that the law and all that it calls make is longer than what came in: it says more and counts as full. Else prove '..UptoSaid'. A law counts once. -/
mutual
def uptoBulk {H : Type} : DataW H → Nat
  | .lit (.string bytes) => bytes.length + 1
  | .lit _ => 1
  | .nil => 1
  | .ptr d => uptoBulk d + 1
  | .slice elems spare => uptoBulkAll elems + uptoBulkAll spare + 1
  | .agg parts => uptoBulkAll parts + 1
  | .iface _ d => uptoBulk d + 1
  | .map entries => uptoBulkEntries entries + 1
  | .held _ => 1
def uptoBulkAll {H : Type} : List (DataW H) → Nat
  | [] => 0
  | d :: r => uptoBulk d + uptoBulkAll r
def uptoBulkEntries {H : Type} : List (Lit × DataW H) → Nat
  | [] => 0
  | x :: r => uptoBulkEntry x + uptoBulkEntries r
def uptoBulkEntry {H : Type} : Lit × DataW H → Nat
  | (.string bytes, d) => bytes.length + uptoBulk d + 1
  | (_, d) => uptoBulk d + 1
 end
def uptoSmall : (H : Type) → List (DataW H) → Bool := fun _ ds => decide (uptoBulkAll ds ≤ 1048576)
def OpenSpec.upto (s : _root_.Go.ChangeSpec) : _root_.Go.OpenSpec := { _root_.Go.OpenSpec.ofChange s with cond := some uptoSmall }

/-- 'laws.FnExactPlanOf', WHERE WHAT IT READS IS OF BULK AT MOST 1048576: true; the input reads as it did. -/
def fnExactPlanOfUptoRow : OpenClaim := { program := "ytdhdlnojoonhcabgreat", sum := "96a49e3ddcdaa86df1164b7c9b0a8e83de24d804cf2e5f4bf257c789fc33b02d", func := "loop.example/hostel/laws.FnExactPlanOf", spec := "fnExactPlanOf", inPlace := ["slices.overlaps[int]"], unfollowed := true, recurses := true, apart := false, narrowed := true }
def FnExactPlanOfUptoSaid : Prop := fnExactPlanOfUptoRow.holds Tryz.pinned (OpenSpec.upto fnExactPlanOfSpec)

/-- 'laws.FnExactWorldBook', WHERE WHAT IT READS IS OF BULK AT MOST 1048576: true; the input reads as it did. -/
def fnExactWorldBookUptoRow : OpenClaim := { program := "ytdhdlnojoonhcabgreat", sum := "96a49e3ddcdaa86df1164b7c9b0a8e83de24d804cf2e5f4bf257c789fc33b02d", func := "loop.example/hostel/laws.FnExactWorldBook", spec := "fnExactWorldBook", unfollowed := true, recurses := true, apart := false, narrowed := true }
def FnExactWorldBookUptoSaid : Prop := fnExactWorldBookUptoRow.holds Tryz.pinned (OpenSpec.upto fnExactWorldBookSpec)

/-- 'laws.FnPlanEach', WHERE WHAT IT READS IS OF BULK AT MOST 1048576: true; the input reads as it did. -/
def fnPlanEachUptoRow : OpenClaim := { program := "ytdhdlnojoonhcabgreat", sum := "96a49e3ddcdaa86df1164b7c9b0a8e83de24d804cf2e5f4bf257c789fc33b02d", func := "loop.example/hostel/laws.FnPlanEach", spec := "fnPlanEach", inPlace := ["slices.overlaps[int]"], unfollowed := true, recurses := true, apart := false, narrowed := true }
def FnPlanEachUptoSaid : Prop := fnPlanEachUptoRow.holds Tryz.pinned (OpenSpec.upto fnPlanEachSpec)

/-- 'laws.FnPlan', WHERE WHAT IT READS IS OF BULK AT MOST 1048576: true; the input reads as it did. -/
def fnPlanUptoRow : OpenClaim := { program := "ytdhdlnojoonhcabgreat", sum := "96a49e3ddcdaa86df1164b7c9b0a8e83de24d804cf2e5f4bf257c789fc33b02d", func := "loop.example/hostel/laws.FnPlan", spec := "fnPlan", inPlace := ["slices.overlaps[int]"], unfollowed := true, recurses := true, apart := false, narrowed := true }
def FnPlanUptoSaid : Prop := fnPlanUptoRow.holds Tryz.pinned (OpenSpec.upto fnPlanSpec)

/-- 'laws.FnWireDiff', WHERE WHAT IT READS IS OF BULK AT MOST 1048576: true; the input reads as it did. -/
def fnWireDiffUptoRow : OpenClaim := { program := "ytdhdlnojoonhcabgreat", sum := "96a49e3ddcdaa86df1164b7c9b0a8e83de24d804cf2e5f4bf257c789fc33b02d", func := "loop.example/hostel/laws.FnWireDiff", spec := "fnWireDiff", apart := false, narrowed := true }
def FnWireDiffUptoSaid : Prop := fnWireDiffUptoRow.holds Tryz.pinned (OpenSpec.upto fnWireDiffSpec)

end Rows
end Go.Proofs.YtdhdlnojoonhcabGreat
