/-
  No cell of these rows narrows 'for every input' (looked for: loops, veiled, ifaces, maps, wideKeys, modest, calm, conditions, laid).
  DERIVED. THE GIVEN ROWS OF THIS SEAT. 6 by the template 'for every input the law returns true; each argument reads behind the call as it read before'; 0 by the template 'total and deterministic' (their statements: YtdhdlnojoonhcaaTotals.lean).
  GIVEN WITH THE SEED: the statements are not yours to turn. If you find one false, say at which input.
  Laid BY PROGRAM, IN A SANDBOX (cutbox-rows.mjs): the forced cells as the released guide's own fill.sh prints them over the translation 76a5499f92b63539… (all of the seat's roots in one cut). By AI agents, Wed Nov 11 2026. No macro, syntax, notation, axiom, sorry.
-/
import Derived.Test.YtdhdlnojoonhcaaChecked
import GoSem.Claim
import GoSem.ClaimJoined
import GoSem.ClaimMapViews
import Derived.JoinedTies
import Derived.KernelRfl
namespace Go.Proofs.Ytdhdlnojoonhcaa
/- THE CELL 'sum', in the pinned program and in every row, IS THE sha256 OF THE DUMP (.gsa) THAT YtdhdlnojoonhcaaProg.lean LOADS. Nothing in Lean hashes anything: it is a label: what it is worth is what the hold of that sum in a sandbox is worth. -/
noncomputable def Try.pinned : Pinned := { name := "ytdhdlnojoonhcaa", sum := "76a5499f92b63539d3287c909d76b0e3179e2dd31bb4c6e2d09e154a94d93c0a", checked := Try.checked }
namespace Rows
def none {H : Type} : Left H := { results := [], args := [] }

/-- 'laws.FnStatSplit': WHATEVER THE INPUT: true; the input reads as it did. -/
def fnStatSplitSpec : ChangeSpec := { name := "fnStatSplit", fn := fun _ => fun
  | [d1, d2] => { results := [.lit (.bool true)], args := [d1, d2] }
  | _ => none }
def fnStatSplitRow : OpenClaim := { program := "ytdhdlnojoonhcaa", sum := "76a5499f92b63539d3287c909d76b0e3179e2dd31bb4c6e2d09e154a94d93c0a", func := "loop.example/hostel/laws.FnStatSplit", spec := "fnStatSplit", unfollowed := true, recurses := true, apart := false }
def FnStatSplitSaid : Prop := fnStatSplitRow.holds Try.pinned (OpenSpec.ofChange fnStatSplitSpec)

/-- ITS FALSE NEIGHBOUR: 'it returns false'. Refute it at one input. -/
def fnStatSplitWrong : ChangeSpec := { name := "fnStatSplit", fn := fun _ => fun
  | [d1, d2] => { results := [.lit (.bool false)], args := [d1, d2] }
  | _ => none }
def FnStatSplitWrongFalsely : Prop := fnStatSplitRow.holds Try.pinned (OpenSpec.ofChange fnStatSplitWrong)

/-- 'laws.FnStatSum': WHATEVER THE INPUT: true; the input reads as it did. -/
def fnStatSumSpec : ChangeSpec := { name := "fnStatSum", fn := fun _ => fun
  | [d] => { results := [.lit (.bool true)], args := [d] }
  | _ => none }
def fnStatSumRow : OpenClaim := { program := "ytdhdlnojoonhcaa", sum := "76a5499f92b63539d3287c909d76b0e3179e2dd31bb4c6e2d09e154a94d93c0a", func := "loop.example/hostel/laws.FnStatSum", spec := "fnStatSum", apart := false }
def FnStatSumSaid : Prop := fnStatSumRow.holds Try.pinned (OpenSpec.ofChange fnStatSumSpec)

/-- ITS FALSE NEIGHBOUR: 'it returns false'. Refute it at one input. -/
def fnStatSumWrong : ChangeSpec := { name := "fnStatSum", fn := fun _ => fun
  | [d] => { results := [.lit (.bool false)], args := [d] }
  | _ => none }
def FnStatSumWrongFalsely : Prop := fnStatSumRow.holds Try.pinned (OpenSpec.ofChange fnStatSumWrong)

/-- 'laws.FnExactCensBook': WHATEVER THE INPUT: true; the input reads as it did. -/
def fnExactCensBookSpec : ChangeSpec := { name := "fnExactCensBook", fn := fun _ => fun
  | [d] => { results := [.lit (.bool true)], args := [d] }
  | _ => none }
def fnExactCensBookRow : OpenClaim := { program := "ytdhdlnojoonhcaa", sum := "76a5499f92b63539d3287c909d76b0e3179e2dd31bb4c6e2d09e154a94d93c0a", func := "loop.example/hostel/laws.FnExactCensBook", spec := "fnExactCensBook", apart := false }
def FnExactCensBookSaid : Prop := fnExactCensBookRow.holds Try.pinned (OpenSpec.ofChange fnExactCensBookSpec)

/-- ITS FALSE NEIGHBOUR: 'it returns false'. Refute it at one input. -/
def fnExactCensBookWrong : ChangeSpec := { name := "fnExactCensBook", fn := fun _ => fun
  | [d] => { results := [.lit (.bool false)], args := [d] }
  | _ => none }
def FnExactCensBookWrongFalsely : Prop := fnExactCensBookRow.holds Try.pinned (OpenSpec.ofChange fnExactCensBookWrong)

/-- 'laws.FnExactCensTrue': WHATEVER THE INPUT: true; the input reads as it did. -/
def fnExactCensTrueSpec : ChangeSpec := { name := "fnExactCensTrue", fn := fun _ => fun
  | [d] => { results := [.lit (.bool true)], args := [d] }
  | _ => none }
def fnExactCensTrueRow : OpenClaim := { program := "ytdhdlnojoonhcaa", sum := "76a5499f92b63539d3287c909d76b0e3179e2dd31bb4c6e2d09e154a94d93c0a", func := "loop.example/hostel/laws.FnExactCensTrue", spec := "fnExactCensTrue", apart := false }
def FnExactCensTrueSaid : Prop := fnExactCensTrueRow.holds Try.pinned (OpenSpec.ofChange fnExactCensTrueSpec)

/-- ITS FALSE NEIGHBOUR: 'it returns false'. Refute it at one input. -/
def fnExactCensTrueWrong : ChangeSpec := { name := "fnExactCensTrue", fn := fun _ => fun
  | [d] => { results := [.lit (.bool false)], args := [d] }
  | _ => none }
def FnExactCensTrueWrongFalsely : Prop := fnExactCensTrueRow.holds Try.pinned (OpenSpec.ofChange fnExactCensTrueWrong)

/-- 'laws.FnCensOne': WHATEVER THE INPUT: true; the input reads as it did. -/
def fnCensOneSpec : ChangeSpec := { name := "fnCensOne", fn := fun _ => fun
  | [d1, d2] => { results := [.lit (.bool true)], args := [d1, d2] }
  | _ => none }
def fnCensOneRow : OpenClaim := { program := "ytdhdlnojoonhcaa", sum := "76a5499f92b63539d3287c909d76b0e3179e2dd31bb4c6e2d09e154a94d93c0a", func := "loop.example/hostel/laws.FnCensOne", spec := "fnCensOne", unfollowed := true, recurses := true, apart := false }
def FnCensOneSaid : Prop := fnCensOneRow.holds Try.pinned (OpenSpec.ofChange fnCensOneSpec)

/-- ITS FALSE NEIGHBOUR: 'it returns false'. Refute it at one input. -/
def fnCensOneWrong : ChangeSpec := { name := "fnCensOne", fn := fun _ => fun
  | [d1, d2] => { results := [.lit (.bool false)], args := [d1, d2] }
  | _ => none }
def FnCensOneWrongFalsely : Prop := fnCensOneRow.holds Try.pinned (OpenSpec.ofChange fnCensOneWrong)

/-- 'laws.FnCensBack': WHATEVER THE INPUT: true; the input reads as it did. -/
def fnCensBackSpec : ChangeSpec := { name := "fnCensBack", fn := fun _ => fun
  | [d1, d2] => { results := [.lit (.bool true)], args := [d1, d2] }
  | _ => none }
def fnCensBackRow : OpenClaim := { program := "ytdhdlnojoonhcaa", sum := "76a5499f92b63539d3287c909d76b0e3179e2dd31bb4c6e2d09e154a94d93c0a", func := "loop.example/hostel/laws.FnCensBack", spec := "fnCensBack", apart := false }
def FnCensBackSaid : Prop := fnCensBackRow.holds Try.pinned (OpenSpec.ofChange fnCensBackSpec)

/-- ITS FALSE NEIGHBOUR: 'it returns false'. Refute it at one input. -/
def fnCensBackWrong : ChangeSpec := { name := "fnCensBack", fn := fun _ => fun
  | [d1, d2] => { results := [.lit (.bool false)], args := [d1, d2] }
  | _ => none }
def FnCensBackWrongFalsely : Prop := fnCensBackRow.holds Try.pinned (OpenSpec.ofChange fnCensBackWrong)

/- THE SECOND FORM. 'bulk': how many values and letters a reading holds, each counted each time it is reached (what is shared counts as often as it is met; a slice's spare places count too). A statement '..UptoSaid' is the law's where the arguments, and the package variables that the reading takes, are together of bulk at most 1048576: NARROWER than '..Said'. Prove '..Said' where nothing that the law and all that it calls make is longer than what came in: it says more and counts as full. Else prove '..UptoSaid'. A law counts once. -/
mutual
def uptoBulk {H : Type} : DataW H → Nat
  | .lit (.string bytes) => bytes.length + 1
  | .lit _ => 1
  | .nil => 1
  | .ptr d => uptoBulk d + 1
  | .slice elems spare => uptoBulkAll elems + uptoBulkAll spare + 1
  | .agg parts => uptoBulkAll parts + 1
  | .iface _ d => uptoBulk d + 1
  | .map entries => uptoBulkEntries entries + 1
  | .held _ => 1
def uptoBulkAll {H : Type} : List (DataW H) → Nat
  | [] => 0
  | d :: r => uptoBulk d + uptoBulkAll r
def uptoBulkEntries {H : Type} : List (Lit × DataW H) → Nat
  | [] => 0
  | x :: r => uptoBulkEntry x + uptoBulkEntries r
def uptoBulkEntry {H : Type} : Lit × DataW H → Nat
  | (.string bytes, d) => bytes.length + uptoBulk d + 1
  | (_, d) => uptoBulk d + 1
 end
def uptoSmall : (H : Type) → List (DataW H) → Bool := fun _ ds => decide (uptoBulkAll ds ≤ 1048576)
def OpenSpec.upto (s : _root_.Go.ChangeSpec) : _root_.Go.OpenSpec := { _root_.Go.OpenSpec.ofChange s with cond := some uptoSmall }

/-- 'laws.FnStatSplit', WHERE WHAT IT READS IS OF BULK AT MOST 1048576: true; the input reads as it did. -/
def fnStatSplitUptoRow : OpenClaim := { program := "ytdhdlnojoonhcaa", sum := "76a5499f92b63539d3287c909d76b0e3179e2dd31bb4c6e2d09e154a94d93c0a", func := "loop.example/hostel/laws.FnStatSplit", spec := "fnStatSplit", unfollowed := true, recurses := true, apart := false, narrowed := true }
def FnStatSplitUptoSaid : Prop := fnStatSplitUptoRow.holds Try.pinned (OpenSpec.upto fnStatSplitSpec)

/-- 'laws.FnStatSum', WHERE WHAT IT READS IS OF BULK AT MOST 1048576: true; the input reads as it did. -/
def fnStatSumUptoRow : OpenClaim := { program := "ytdhdlnojoonhcaa", sum := "76a5499f92b63539d3287c909d76b0e3179e2dd31bb4c6e2d09e154a94d93c0a", func := "loop.example/hostel/laws.FnStatSum", spec := "fnStatSum", apart := false, narrowed := true }
def FnStatSumUptoSaid : Prop := fnStatSumUptoRow.holds Try.pinned (OpenSpec.upto fnStatSumSpec)

/-- 'laws.FnExactCensBook', WHERE WHAT IT READS IS OF BULK AT MOST 1048576: true; the input reads as it did. -/
def fnExactCensBookUptoRow : OpenClaim := { program := "ytdhdlnojoonhcaa", sum := "76a5499f92b63539d3287c909d76b0e3179e2dd31bb4c6e2d09e154a94d93c0a", func := "loop.example/hostel/laws.FnExactCensBook", spec := "fnExactCensBook", apart := false, narrowed := true }
def FnExactCensBookUptoSaid : Prop := fnExactCensBookUptoRow.holds Try.pinned (OpenSpec.upto fnExactCensBookSpec)

/-- 'laws.FnExactCensTrue', WHERE WHAT IT READS IS OF BULK AT MOST 1048576: true; the input reads as it did. -/
def fnExactCensTrueUptoRow : OpenClaim := { program := "ytdhdlnojoonhcaa", sum := "76a5499f92b63539d3287c909d76b0e3179e2dd31bb4c6e2d09e154a94d93c0a", func := "loop.example/hostel/laws.FnExactCensTrue", spec := "fnExactCensTrue", apart := false, narrowed := true }
def FnExactCensTrueUptoSaid : Prop := fnExactCensTrueUptoRow.holds Try.pinned (OpenSpec.upto fnExactCensTrueSpec)

/-- 'laws.FnCensOne', WHERE WHAT IT READS IS OF BULK AT MOST 1048576: true; the input reads as it did. -/
def fnCensOneUptoRow : OpenClaim := { program := "ytdhdlnojoonhcaa", sum := "76a5499f92b63539d3287c909d76b0e3179e2dd31bb4c6e2d09e154a94d93c0a", func := "loop.example/hostel/laws.FnCensOne", spec := "fnCensOne", unfollowed := true, recurses := true, apart := false, narrowed := true }
def FnCensOneUptoSaid : Prop := fnCensOneUptoRow.holds Try.pinned (OpenSpec.upto fnCensOneSpec)

/-- 'laws.FnCensBack', WHERE WHAT IT READS IS OF BULK AT MOST 1048576: true; the input reads as it did. -/
def fnCensBackUptoRow : OpenClaim := { program := "ytdhdlnojoonhcaa", sum := "76a5499f92b63539d3287c909d76b0e3179e2dd31bb4c6e2d09e154a94d93c0a", func := "loop.example/hostel/laws.FnCensBack", spec := "fnCensBack", apart := false, narrowed := true }
def FnCensBackUptoSaid : Prop := fnCensBackUptoRow.holds Try.pinned (OpenSpec.upto fnCensBackSpec)

end Rows
end Go.Proofs.Ytdhdlnojoonhcaa
