/-
  No cell of these rows narrows 'for every input' (looked for: loops, veiled, ifaces, maps, wideKeys, modest, calm, conditions, laid).
  DERIVED. THE GIVEN ROWS OF THIS SEAT. 5 by the template 'for every input the law returns true; each argument reads behind the call as it read before'; 0 by the template 'total and deterministic' (their statements: YtpanngbbofkeoaaTotals.lean).
  GIVEN WITH THE SEED: the statements are not yours to turn. If you find one false, say at which input.
  Laid BY PROGRAM, IN A SANDBOX (cutbox-rows.mjs): the forced cells as the released guide's own fill.sh prints them over the translation 5359208d3564b75a… (all of the seat's roots in one cut). By AI agents, Wed Nov 11 2026. No macro, syntax, notation, axiom, sorry.
-/
import Derived.Test.YtpanngbbofkeoaaChecked
import GoSem.Claim
import GoSem.ClaimJoined
import GoSem.ClaimMapViews
import Derived.JoinedTies
import Derived.KernelRfl
namespace Go.Proofs.Ytpanngbbofkeoaa
/- THE CELL 'sum', in the pinned program and in every row, IS THE sha256 OF THE DUMP (.gsa) THAT YtpanngbbofkeoaaProg.lean LOADS. Nothing in Lean hashes anything: it is a label: what it is worth is what the hold of that sum in a sandbox is worth. -/
noncomputable def Try.pinned : Pinned := { name := "ytpanngbbofkeoaa", sum := "5359208d3564b75a944814c014b3eec5d2031d4bc2e1cd3959029e2e6f3f0e6f", checked := Try.checked }
namespace Rows
def none {H : Type} : Left H := { results := [], args := [] }

/-- 'laws.FnExactRoundMost': WHATEVER THE INPUT: true; the input reads as it did. -/
def fnExactRoundMostSpec : ChangeSpec := { name := "fnExactRoundMost", fn := fun _ => fun
  | [d1, d2] => { results := [.lit (.bool true)], args := [d1, d2] }
  | _ => none }
def fnExactRoundMostRow : OpenClaim := { program := "ytpanngbbofkeoaa", sum := "5359208d3564b75a944814c014b3eec5d2031d4bc2e1cd3959029e2e6f3f0e6f", func := "loop.example/hostel/laws.FnExactRoundMost", spec := "fnExactRoundMost", apart := false }
def FnExactRoundMostSaid : Prop := fnExactRoundMostRow.holds Try.pinned (OpenSpec.ofChange fnExactRoundMostSpec)

/-- ITS FALSE NEIGHBOUR: 'it returns false'. Refute it at one input. -/
def fnExactRoundMostWrong : ChangeSpec := { name := "fnExactRoundMost", fn := fun _ => fun
  | [d1, d2] => { results := [.lit (.bool false)], args := [d1, d2] }
  | _ => none }
def FnExactRoundMostWrongFalsely : Prop := fnExactRoundMostRow.holds Try.pinned (OpenSpec.ofChange fnExactRoundMostWrong)

/-- 'laws.FnExactWireDiff': WHATEVER THE INPUT: true; the input reads as it did. -/
def fnExactWireDiffSpec : ChangeSpec := { name := "fnExactWireDiff", fn := fun _ => fun
  | [d1, d2] => { results := [.lit (.bool true)], args := [d1, d2] }
  | _ => none }
def fnExactWireDiffRow : OpenClaim := { program := "ytpanngbbofkeoaa", sum := "5359208d3564b75a944814c014b3eec5d2031d4bc2e1cd3959029e2e6f3f0e6f", func := "loop.example/hostel/laws.FnExactWireDiff", spec := "fnExactWireDiff", apart := false }
def FnExactWireDiffSaid : Prop := fnExactWireDiffRow.holds Try.pinned (OpenSpec.ofChange fnExactWireDiffSpec)

/-- ITS FALSE NEIGHBOUR: 'it returns false'. Refute it at one input. -/
def fnExactWireDiffWrong : ChangeSpec := { name := "fnExactWireDiff", fn := fun _ => fun
  | [d1, d2] => { results := [.lit (.bool false)], args := [d1, d2] }
  | _ => none }
def FnExactWireDiffWrongFalsely : Prop := fnExactWireDiffRow.holds Try.pinned (OpenSpec.ofChange fnExactWireDiffWrong)

/-- 'laws.FnExactStatLast': WHATEVER THE INPUT: true; the input reads as it did. -/
def fnExactStatLastSpec : ChangeSpec := { name := "fnExactStatLast", fn := fun _ => fun
  | [d1, d2] => { results := [.lit (.bool true)], args := [d1, d2] }
  | _ => none }
def fnExactStatLastRow : OpenClaim := { program := "ytpanngbbofkeoaa", sum := "5359208d3564b75a944814c014b3eec5d2031d4bc2e1cd3959029e2e6f3f0e6f", func := "loop.example/hostel/laws.FnExactStatLast", spec := "fnExactStatLast", apart := false }
def FnExactStatLastSaid : Prop := fnExactStatLastRow.holds Try.pinned (OpenSpec.ofChange fnExactStatLastSpec)

/-- ITS FALSE NEIGHBOUR: 'it returns false'. Refute it at one input. -/
def fnExactStatLastWrong : ChangeSpec := { name := "fnExactStatLast", fn := fun _ => fun
  | [d1, d2] => { results := [.lit (.bool false)], args := [d1, d2] }
  | _ => none }
def FnExactStatLastWrongFalsely : Prop := fnExactStatLastRow.holds Try.pinned (OpenSpec.ofChange fnExactStatLastWrong)

/-- 'laws.FnExactStatCodes': WHATEVER THE INPUT: true; the input reads as it did. -/
def fnExactStatCodesSpec : ChangeSpec := { name := "fnExactStatCodes", fn := fun _ => fun
  | [d] => { results := [.lit (.bool true)], args := [d] }
  | _ => none }
def fnExactStatCodesRow : OpenClaim := { program := "ytpanngbbofkeoaa", sum := "5359208d3564b75a944814c014b3eec5d2031d4bc2e1cd3959029e2e6f3f0e6f", func := "loop.example/hostel/laws.FnExactStatCodes", spec := "fnExactStatCodes", apart := false }
def FnExactStatCodesSaid : Prop := fnExactStatCodesRow.holds Try.pinned (OpenSpec.ofChange fnExactStatCodesSpec)

/-- ITS FALSE NEIGHBOUR: 'it returns false'. Refute it at one input. -/
def fnExactStatCodesWrong : ChangeSpec := { name := "fnExactStatCodes", fn := fun _ => fun
  | [d] => { results := [.lit (.bool false)], args := [d] }
  | _ => none }
def FnExactStatCodesWrongFalsely : Prop := fnExactStatCodesRow.holds Try.pinned (OpenSpec.ofChange fnExactStatCodesWrong)

/-- 'laws.FnExactTermLeft': WHATEVER THE INPUT: true; the input reads as it did. -/
def fnExactTermLeftSpec : ChangeSpec := { name := "fnExactTermLeft", fn := fun _ => fun
  | [d1, d2] => { results := [.lit (.bool true)], args := [d1, d2] }
  | _ => none }
def fnExactTermLeftRow : OpenClaim := { program := "ytpanngbbofkeoaa", sum := "5359208d3564b75a944814c014b3eec5d2031d4bc2e1cd3959029e2e6f3f0e6f", func := "loop.example/hostel/laws.FnExactTermLeft", spec := "fnExactTermLeft", apart := false }
def FnExactTermLeftSaid : Prop := fnExactTermLeftRow.holds Try.pinned (OpenSpec.ofChange fnExactTermLeftSpec)

/-- ITS FALSE NEIGHBOUR: 'it returns false'. Refute it at one input. -/
def fnExactTermLeftWrong : ChangeSpec := { name := "fnExactTermLeft", fn := fun _ => fun
  | [d1, d2] => { results := [.lit (.bool false)], args := [d1, d2] }
  | _ => none }
def FnExactTermLeftWrongFalsely : Prop := fnExactTermLeftRow.holds Try.pinned (OpenSpec.ofChange fnExactTermLeftWrong)

/- THE SECOND FORM. 'bulk': how many values and letters a reading holds, each counted each time it is reached (what is shared counts as often as it is met; a slice's spare places count too). A statement '..UptoSaid' is the law's where the arguments, and the package variables that the reading takes, are together of bulk at most 1048576: NARROWER than '..Said'. Prove '..Said' where nothing that the law and all that it calls make is longer than what came in: it says more and counts as full. Else prove '..UptoSaid'. A law counts once. -/
mutual
def uptoBulk {H : Type} : DataW H → Nat
  | .lit (.string bytes) => bytes.length + 1
  | .lit _ => 1
  | .nil => 1
  | .ptr d => uptoBulk d + 1
  | .slice elems spare => uptoBulkAll elems + uptoBulkAll spare + 1
  | .agg parts => uptoBulkAll parts + 1
  | .iface _ d => uptoBulk d + 1
  | .map entries => uptoBulkEntries entries + 1
  | .held _ => 1
def uptoBulkAll {H : Type} : List (DataW H) → Nat
  | [] => 0
  | d :: r => uptoBulk d + uptoBulkAll r
def uptoBulkEntries {H : Type} : List (Lit × DataW H) → Nat
  | [] => 0
  | x :: r => uptoBulkEntry x + uptoBulkEntries r
def uptoBulkEntry {H : Type} : Lit × DataW H → Nat
  | (.string bytes, d) => bytes.length + uptoBulk d + 1
  | (_, d) => uptoBulk d + 1
 end
def uptoSmall : (H : Type) → List (DataW H) → Bool := fun _ ds => decide (uptoBulkAll ds ≤ 1048576)
def OpenSpec.upto (s : _root_.Go.ChangeSpec) : _root_.Go.OpenSpec := { _root_.Go.OpenSpec.ofChange s with cond := some uptoSmall }

/-- 'laws.FnExactRoundMost', WHERE WHAT IT READS IS OF BULK AT MOST 1048576: true; the input reads as it did. -/
def fnExactRoundMostUptoRow : OpenClaim := { program := "ytpanngbbofkeoaa", sum := "5359208d3564b75a944814c014b3eec5d2031d4bc2e1cd3959029e2e6f3f0e6f", func := "loop.example/hostel/laws.FnExactRoundMost", spec := "fnExactRoundMost", apart := false, narrowed := true }
def FnExactRoundMostUptoSaid : Prop := fnExactRoundMostUptoRow.holds Try.pinned (OpenSpec.upto fnExactRoundMostSpec)

/-- 'laws.FnExactWireDiff', WHERE WHAT IT READS IS OF BULK AT MOST 1048576: true; the input reads as it did. -/
def fnExactWireDiffUptoRow : OpenClaim := { program := "ytpanngbbofkeoaa", sum := "5359208d3564b75a944814c014b3eec5d2031d4bc2e1cd3959029e2e6f3f0e6f", func := "loop.example/hostel/laws.FnExactWireDiff", spec := "fnExactWireDiff", apart := false, narrowed := true }
def FnExactWireDiffUptoSaid : Prop := fnExactWireDiffUptoRow.holds Try.pinned (OpenSpec.upto fnExactWireDiffSpec)

/-- 'laws.FnExactStatLast', WHERE WHAT IT READS IS OF BULK AT MOST 1048576: true; the input reads as it did. -/
def fnExactStatLastUptoRow : OpenClaim := { program := "ytpanngbbofkeoaa", sum := "5359208d3564b75a944814c014b3eec5d2031d4bc2e1cd3959029e2e6f3f0e6f", func := "loop.example/hostel/laws.FnExactStatLast", spec := "fnExactStatLast", apart := false, narrowed := true }
def FnExactStatLastUptoSaid : Prop := fnExactStatLastUptoRow.holds Try.pinned (OpenSpec.upto fnExactStatLastSpec)

/-- 'laws.FnExactStatCodes', WHERE WHAT IT READS IS OF BULK AT MOST 1048576: true; the input reads as it did. -/
def fnExactStatCodesUptoRow : OpenClaim := { program := "ytpanngbbofkeoaa", sum := "5359208d3564b75a944814c014b3eec5d2031d4bc2e1cd3959029e2e6f3f0e6f", func := "loop.example/hostel/laws.FnExactStatCodes", spec := "fnExactStatCodes", apart := false, narrowed := true }
def FnExactStatCodesUptoSaid : Prop := fnExactStatCodesUptoRow.holds Try.pinned (OpenSpec.upto fnExactStatCodesSpec)

/-- 'laws.FnExactTermLeft', WHERE WHAT IT READS IS OF BULK AT MOST 1048576: true; the input reads as it did. -/
def fnExactTermLeftUptoRow : OpenClaim := { program := "ytpanngbbofkeoaa", sum := "5359208d3564b75a944814c014b3eec5d2031d4bc2e1cd3959029e2e6f3f0e6f", func := "loop.example/hostel/laws.FnExactTermLeft", spec := "fnExactTermLeft", apart := false, narrowed := true }
def FnExactTermLeftUptoSaid : Prop := fnExactTermLeftUptoRow.holds Try.pinned (OpenSpec.upto fnExactTermLeftSpec)

end Rows
end Go.Proofs.Ytpanngbbofkeoaa
