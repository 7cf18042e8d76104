/-
  No cell of these rows narrows 'for every input' (looked for: loops, veiled, ifaces, maps, wideKeys, modest, calm, conditions, laid).
  DERIVED. THE GIVEN ROWS OF THIS SEAT. 6 by the template 'for every input the law returns true; each argument reads behind the call as it read before'; 0 by the template 'total and deterministic' (their statements: YtdhdlnojoonhcaaGreatTotals.lean).
  GIVEN WITH THE SEED: the statements are not yours to turn. If you find one false, say at which input.
  Laid BY PROGRAM, IN A SANDBOX (cutbox-rows.mjs): the forced cells as the released guide's own fill.sh prints them over the translation e32d0a837d68500d… (all of the seat's roots in one cut). By AI agents, Wed Nov 11 2026. No macro, syntax, notation, axiom, sorry.
-/
import Derived.Test.YtdhdlnojoonhcaaGreatChecked
import GoSem.Claim
import GoSem.ClaimJoined
import GoSem.ClaimMapViews
import Derived.JoinedTies
import Derived.KernelRfl
namespace Go.Proofs.YtdhdlnojoonhcaaGreat
/- THE CELL 'sum', in the pinned program and in every row, IS THE sha256 OF THE DUMP (.gsa) THAT YtdhdlnojoonhcaaGreatProg.lean LOADS. Nothing in Lean hashes anything: it is a label: what it is worth is what the hold of that sum in a sandbox is worth. -/
noncomputable def Tryz.pinned : Pinned := { name := "ytdhdlnojoonhcaagreat", sum := "e32d0a837d68500ddf56c9770e51e9d7dce6bfba146f70fbe23cb68c599e89c8", checked := Tryz.checked }
namespace Rows
def none {H : Type} : Left H := { results := [], args := [] }

/-- 'laws.FnTerm': WHATEVER THE INPUT: true; the input reads as it did. -/
def fnTermSpec : ChangeSpec := { name := "fnTerm", fn := fun _ => fun
  | [d] => { results := [.lit (.bool true)], args := [d] }
  | _ => none }
def fnTermRow : OpenClaim := { program := "ytdhdlnojoonhcaagreat", sum := "e32d0a837d68500ddf56c9770e51e9d7dce6bfba146f70fbe23cb68c599e89c8", func := "loop.example/hostel/laws.FnTerm", spec := "fnTerm", unfollowed := true, recurses := true, apart := false }
def FnTermSaid : Prop := fnTermRow.holds Tryz.pinned (OpenSpec.ofChange fnTermSpec)

/-- ITS FALSE NEIGHBOUR: 'it returns false'. Refute it at one input. -/
def fnTermWrong : ChangeSpec := { name := "fnTerm", fn := fun _ => fun
  | [d] => { results := [.lit (.bool false)], args := [d] }
  | _ => none }
def FnTermWrongFalsely : Prop := fnTermRow.holds Tryz.pinned (OpenSpec.ofChange fnTermWrong)

/-- 'laws.FnExactCostWords': WHATEVER THE INPUT: true; the input reads as it did. -/
def fnExactCostWordsSpec : ChangeSpec := { name := "fnExactCostWords", fn := fun _ => fun
  | [d1, d2, d3] => { results := [.lit (.bool true)], args := [d1, d2, d3] }
  | _ => none }
def fnExactCostWordsRow : OpenClaim := { program := "ytdhdlnojoonhcaagreat", sum := "e32d0a837d68500ddf56c9770e51e9d7dce6bfba146f70fbe23cb68c599e89c8", func := "loop.example/hostel/laws.FnExactCostWords", spec := "fnExactCostWords", inPlace := ["slices.overlaps[int]"], unfollowed := true, recurses := true, apart := false }
def FnExactCostWordsSaid : Prop := fnExactCostWordsRow.holds Tryz.pinned (OpenSpec.ofChange fnExactCostWordsSpec)

/-- ITS FALSE NEIGHBOUR: 'it returns false'. Refute it at one input. -/
def fnExactCostWordsWrong : ChangeSpec := { name := "fnExactCostWords", fn := fun _ => fun
  | [d1, d2, d3] => { results := [.lit (.bool false)], args := [d1, d2, d3] }
  | _ => none }
def FnExactCostWordsWrongFalsely : Prop := fnExactCostWordsRow.holds Tryz.pinned (OpenSpec.ofChange fnExactCostWordsWrong)

/-- 'laws.FnExactCostSteps': WHATEVER THE INPUT: true; the input reads as it did. -/
def fnExactCostStepsSpec : ChangeSpec := { name := "fnExactCostSteps", fn := fun _ => fun
  | [d1, d2, d3] => { results := [.lit (.bool true)], args := [d1, d2, d3] }
  | _ => none }
def fnExactCostStepsRow : OpenClaim := { program := "ytdhdlnojoonhcaagreat", sum := "e32d0a837d68500ddf56c9770e51e9d7dce6bfba146f70fbe23cb68c599e89c8", func := "loop.example/hostel/laws.FnExactCostSteps", spec := "fnExactCostSteps", inPlace := ["slices.overlaps[int]"], unfollowed := true, recurses := true, apart := false }
def FnExactCostStepsSaid : Prop := fnExactCostStepsRow.holds Tryz.pinned (OpenSpec.ofChange fnExactCostStepsSpec)

/-- ITS FALSE NEIGHBOUR: 'it returns false'. Refute it at one input. -/
def fnExactCostStepsWrong : ChangeSpec := { name := "fnExactCostSteps", fn := fun _ => fun
  | [d1, d2, d3] => { results := [.lit (.bool false)], args := [d1, d2, d3] }
  | _ => none }
def FnExactCostStepsWrongFalsely : Prop := fnExactCostStepsRow.holds Tryz.pinned (OpenSpec.ofChange fnExactCostStepsWrong)

/-- 'laws.FnCensDone': WHATEVER THE INPUT: true; the input reads as it did. -/
def fnCensDoneSpec : ChangeSpec := { name := "fnCensDone", fn := fun _ => fun
  | [d1, d2] => { results := [.lit (.bool true)], args := [d1, d2] }
  | _ => none }
def fnCensDoneRow : OpenClaim := { program := "ytdhdlnojoonhcaagreat", sum := "e32d0a837d68500ddf56c9770e51e9d7dce6bfba146f70fbe23cb68c599e89c8", func := "loop.example/hostel/laws.FnCensDone", spec := "fnCensDone", apart := false }
def FnCensDoneSaid : Prop := fnCensDoneRow.holds Tryz.pinned (OpenSpec.ofChange fnCensDoneSpec)

/-- ITS FALSE NEIGHBOUR: 'it returns false'. Refute it at one input. -/
def fnCensDoneWrong : ChangeSpec := { name := "fnCensDone", fn := fun _ => fun
  | [d1, d2] => { results := [.lit (.bool false)], args := [d1, d2] }
  | _ => none }
def FnCensDoneWrongFalsely : Prop := fnCensDoneRow.holds Tryz.pinned (OpenSpec.ofChange fnCensDoneWrong)

/-- 'laws.FnExactCleanIs': WHATEVER THE INPUT: true; the input reads as it did. -/
def fnExactCleanIsSpec : ChangeSpec := { name := "fnExactCleanIs", fn := fun _ => fun
  | [d] => { results := [.lit (.bool true)], args := [d] }
  | _ => none }
def fnExactCleanIsRow : OpenClaim := { program := "ytdhdlnojoonhcaagreat", sum := "e32d0a837d68500ddf56c9770e51e9d7dce6bfba146f70fbe23cb68c599e89c8", func := "loop.example/hostel/laws.FnExactCleanIs", spec := "fnExactCleanIs", unfollowed := true, recurses := true, apart := false }
def FnExactCleanIsSaid : Prop := fnExactCleanIsRow.holds Tryz.pinned (OpenSpec.ofChange fnExactCleanIsSpec)

/-- ITS FALSE NEIGHBOUR: 'it returns false'. Refute it at one input. -/
def fnExactCleanIsWrong : ChangeSpec := { name := "fnExactCleanIs", fn := fun _ => fun
  | [d] => { results := [.lit (.bool false)], args := [d] }
  | _ => none }
def FnExactCleanIsWrongFalsely : Prop := fnExactCleanIsRow.holds Tryz.pinned (OpenSpec.ofChange fnExactCleanIsWrong)

/-- 'laws.FnExactVowWorld': WHATEVER THE INPUT: true; the input reads as it did. -/
def fnExactVowWorldSpec : ChangeSpec := { name := "fnExactVowWorld", fn := fun _ => fun
  | [d] => { results := [.lit (.bool true)], args := [d] }
  | _ => none }
def fnExactVowWorldRow : OpenClaim := { program := "ytdhdlnojoonhcaagreat", sum := "e32d0a837d68500ddf56c9770e51e9d7dce6bfba146f70fbe23cb68c599e89c8", func := "loop.example/hostel/laws.FnExactVowWorld", spec := "fnExactVowWorld", unfollowed := true, recurses := true, apart := false }
def FnExactVowWorldSaid : Prop := fnExactVowWorldRow.holds Tryz.pinned (OpenSpec.ofChange fnExactVowWorldSpec)

/-- ITS FALSE NEIGHBOUR: 'it returns false'. Refute it at one input. -/
def fnExactVowWorldWrong : ChangeSpec := { name := "fnExactVowWorld", fn := fun _ => fun
  | [d] => { results := [.lit (.bool false)], args := [d] }
  | _ => none }
def FnExactVowWorldWrongFalsely : Prop := fnExactVowWorldRow.holds Tryz.pinned (OpenSpec.ofChange fnExactVowWorldWrong)

/- THE SECOND FORM. 'bulk': how many values and letters a reading holds, each counted each time it is reached (what is shared counts as often as it is met; a slice's spare places count too). A statement '..UptoSaid' is the law's where the arguments, and the package variables that the reading takes, are together of bulk at most 1048576: NARROWER than '..Said'. Prove '..Said' where nothing that the law and all that it calls make is longer than what came in: it says more and counts as full. Else prove '..UptoSaid'. A law counts once. -/
mutual
def uptoBulk {H : Type} : DataW H → Nat
  | .lit (.string bytes) => bytes.length + 1
  | .lit _ => 1
  | .nil => 1
  | .ptr d => uptoBulk d + 1
  | .slice elems spare => uptoBulkAll elems + uptoBulkAll spare + 1
  | .agg parts => uptoBulkAll parts + 1
  | .iface _ d => uptoBulk d + 1
  | .map entries => uptoBulkEntries entries + 1
  | .held _ => 1
def uptoBulkAll {H : Type} : List (DataW H) → Nat
  | [] => 0
  | d :: r => uptoBulk d + uptoBulkAll r
def uptoBulkEntries {H : Type} : List (Lit × DataW H) → Nat
  | [] => 0
  | x :: r => uptoBulkEntry x + uptoBulkEntries r
def uptoBulkEntry {H : Type} : Lit × DataW H → Nat
  | (.string bytes, d) => bytes.length + uptoBulk d + 1
  | (_, d) => uptoBulk d + 1
 end
def uptoSmall : (H : Type) → List (DataW H) → Bool := fun _ ds => decide (uptoBulkAll ds ≤ 1048576)
def OpenSpec.upto (s : _root_.Go.ChangeSpec) : _root_.Go.OpenSpec := { _root_.Go.OpenSpec.ofChange s with cond := some uptoSmall }

/-- 'laws.FnTerm', WHERE WHAT IT READS IS OF BULK AT MOST 1048576: true; the input reads as it did. -/
def fnTermUptoRow : OpenClaim := { program := "ytdhdlnojoonhcaagreat", sum := "e32d0a837d68500ddf56c9770e51e9d7dce6bfba146f70fbe23cb68c599e89c8", func := "loop.example/hostel/laws.FnTerm", spec := "fnTerm", unfollowed := true, recurses := true, apart := false, narrowed := true }
def FnTermUptoSaid : Prop := fnTermUptoRow.holds Tryz.pinned (OpenSpec.upto fnTermSpec)

/-- 'laws.FnExactCostWords', WHERE WHAT IT READS IS OF BULK AT MOST 1048576: true; the input reads as it did. -/
def fnExactCostWordsUptoRow : OpenClaim := { program := "ytdhdlnojoonhcaagreat", sum := "e32d0a837d68500ddf56c9770e51e9d7dce6bfba146f70fbe23cb68c599e89c8", func := "loop.example/hostel/laws.FnExactCostWords", spec := "fnExactCostWords", inPlace := ["slices.overlaps[int]"], unfollowed := true, recurses := true, apart := false, narrowed := true }
def FnExactCostWordsUptoSaid : Prop := fnExactCostWordsUptoRow.holds Tryz.pinned (OpenSpec.upto fnExactCostWordsSpec)

/-- 'laws.FnExactCostSteps', WHERE WHAT IT READS IS OF BULK AT MOST 1048576: true; the input reads as it did. -/
def fnExactCostStepsUptoRow : OpenClaim := { program := "ytdhdlnojoonhcaagreat", sum := "e32d0a837d68500ddf56c9770e51e9d7dce6bfba146f70fbe23cb68c599e89c8", func := "loop.example/hostel/laws.FnExactCostSteps", spec := "fnExactCostSteps", inPlace := ["slices.overlaps[int]"], unfollowed := true, recurses := true, apart := false, narrowed := true }
def FnExactCostStepsUptoSaid : Prop := fnExactCostStepsUptoRow.holds Tryz.pinned (OpenSpec.upto fnExactCostStepsSpec)

/-- 'laws.FnCensDone', WHERE WHAT IT READS IS OF BULK AT MOST 1048576: true; the input reads as it did. -/
def fnCensDoneUptoRow : OpenClaim := { program := "ytdhdlnojoonhcaagreat", sum := "e32d0a837d68500ddf56c9770e51e9d7dce6bfba146f70fbe23cb68c599e89c8", func := "loop.example/hostel/laws.FnCensDone", spec := "fnCensDone", apart := false, narrowed := true }
def FnCensDoneUptoSaid : Prop := fnCensDoneUptoRow.holds Tryz.pinned (OpenSpec.upto fnCensDoneSpec)

/-- 'laws.FnExactCleanIs', WHERE WHAT IT READS IS OF BULK AT MOST 1048576: true; the input reads as it did. -/
def fnExactCleanIsUptoRow : OpenClaim := { program := "ytdhdlnojoonhcaagreat", sum := "e32d0a837d68500ddf56c9770e51e9d7dce6bfba146f70fbe23cb68c599e89c8", func := "loop.example/hostel/laws.FnExactCleanIs", spec := "fnExactCleanIs", unfollowed := true, recurses := true, apart := false, narrowed := true }
def FnExactCleanIsUptoSaid : Prop := fnExactCleanIsUptoRow.holds Tryz.pinned (OpenSpec.upto fnExactCleanIsSpec)

/-- 'laws.FnExactVowWorld', WHERE WHAT IT READS IS OF BULK AT MOST 1048576: true; the input reads as it did. -/
def fnExactVowWorldUptoRow : OpenClaim := { program := "ytdhdlnojoonhcaagreat", sum := "e32d0a837d68500ddf56c9770e51e9d7dce6bfba146f70fbe23cb68c599e89c8", func := "loop.example/hostel/laws.FnExactVowWorld", spec := "fnExactVowWorld", unfollowed := true, recurses := true, apart := false, narrowed := true }
def FnExactVowWorldUptoSaid : Prop := fnExactVowWorldUptoRow.holds Tryz.pinned (OpenSpec.upto fnExactVowWorldSpec)

end Rows
end Go.Proofs.YtdhdlnojoonhcaaGreat
