/-
  No cell of these rows narrows 'for every input' (looked for: loops, veiled, ifaces, maps, wideKeys, modest, calm, conditions, laid).
  DERIVED. THE GIVEN ROWS OF THIS SEAT. 4 by the template 'for every input the law returns true; each argument reads behind the call as it read before'; 0 by the template 'total and deterministic' (their statements: YtpanngbbofkeoabTotals.lean).
  GIVEN WITH THE SEED: the statements are not yours to turn. If you find one false, say at which input.
  Laid BY PROGRAM, IN A SANDBOX (cutbox-rows.mjs): the forced cells as the released guide's own fill.sh prints them over the translation 52d794a210085af3… (all of the seat's roots in one cut). By AI agents, Wed Nov 11 2026. No macro, syntax, notation, axiom, sorry.
-/
import Derived.Test.YtpanngbbofkeoabChecked
import GoSem.Claim
import GoSem.ClaimJoined
import GoSem.ClaimMapViews
import Derived.JoinedTies
import Derived.KernelRfl
namespace Go.Proofs.Ytpanngbbofkeoab
/- THE CELL 'sum', in the pinned program and in every row, IS THE sha256 OF THE DUMP (.gsa) THAT YtpanngbbofkeoabProg.lean LOADS. Nothing in Lean hashes anything: it is a label: what it is worth is what the hold of that sum in a sandbox is worth. -/
noncomputable def Try.pinned : Pinned := { name := "ytpanngbbofkeoab", sum := "52d794a210085af33d4c15e8aa78c34ff658914ea897c75b7a2235925573d878", checked := Try.checked }
namespace Rows
def none {H : Type} : Left H := { results := [], args := [] }

/-- 'laws.FnExactStatGuests': WHATEVER THE INPUT: true; the input reads as it did. -/
def fnExactStatGuestsSpec : ChangeSpec := { name := "fnExactStatGuests", fn := fun _ => fun
  | [d1, d2] => { results := [.lit (.bool true)], args := [d1, d2] }
  | _ => none }
def fnExactStatGuestsRow : OpenClaim := { program := "ytpanngbbofkeoab", sum := "52d794a210085af33d4c15e8aa78c34ff658914ea897c75b7a2235925573d878", func := "loop.example/hostel/laws.FnExactStatGuests", spec := "fnExactStatGuests", apart := false }
def FnExactStatGuestsSaid : Prop := fnExactStatGuestsRow.holds Try.pinned (OpenSpec.ofChange fnExactStatGuestsSpec)

/-- ITS FALSE NEIGHBOUR: 'it returns false'. Refute it at one input. -/
def fnExactStatGuestsWrong : ChangeSpec := { name := "fnExactStatGuests", fn := fun _ => fun
  | [d1, d2] => { results := [.lit (.bool false)], args := [d1, d2] }
  | _ => none }
def FnExactStatGuestsWrongFalsely : Prop := fnExactStatGuestsRow.holds Try.pinned (OpenSpec.ofChange fnExactStatGuestsWrong)

/-- 'laws.FnExactTermDead': WHATEVER THE INPUT: true; the input reads as it did. -/
def fnExactTermDeadSpec : ChangeSpec := { name := "fnExactTermDead", fn := fun _ => fun
  | [d] => { results := [.lit (.bool true)], args := [d] }
  | _ => none }
def fnExactTermDeadRow : OpenClaim := { program := "ytpanngbbofkeoab", sum := "52d794a210085af33d4c15e8aa78c34ff658914ea897c75b7a2235925573d878", func := "loop.example/hostel/laws.FnExactTermDead", spec := "fnExactTermDead", apart := false }
def FnExactTermDeadSaid : Prop := fnExactTermDeadRow.holds Try.pinned (OpenSpec.ofChange fnExactTermDeadSpec)

/-- ITS FALSE NEIGHBOUR: 'it returns false'. Refute it at one input. -/
def fnExactTermDeadWrong : ChangeSpec := { name := "fnExactTermDead", fn := fun _ => fun
  | [d] => { results := [.lit (.bool false)], args := [d] }
  | _ => none }
def FnExactTermDeadWrongFalsely : Prop := fnExactTermDeadRow.holds Try.pinned (OpenSpec.ofChange fnExactTermDeadWrong)

/-- 'laws.FnExactForkSame': WHATEVER THE INPUT: true; the input reads as it did. -/
def fnExactForkSameSpec : ChangeSpec := { name := "fnExactForkSame", fn := fun _ => fun
  | [d1, d2] => { results := [.lit (.bool true)], args := [d1, d2] }
  | _ => none }
def fnExactForkSameRow : OpenClaim := { program := "ytpanngbbofkeoab", sum := "52d794a210085af33d4c15e8aa78c34ff658914ea897c75b7a2235925573d878", func := "loop.example/hostel/laws.FnExactForkSame", spec := "fnExactForkSame", unfollowed := true, recurses := true, apart := false }
def FnExactForkSameSaid : Prop := fnExactForkSameRow.holds Try.pinned (OpenSpec.ofChange fnExactForkSameSpec)

/-- ITS FALSE NEIGHBOUR: 'it returns false'. Refute it at one input. -/
def fnExactForkSameWrong : ChangeSpec := { name := "fnExactForkSame", fn := fun _ => fun
  | [d1, d2] => { results := [.lit (.bool false)], args := [d1, d2] }
  | _ => none }
def FnExactForkSameWrongFalsely : Prop := fnExactForkSameRow.holds Try.pinned (OpenSpec.ofChange fnExactForkSameWrong)

/-- 'laws.FnExactTidyAt': WHATEVER THE INPUT: true; the input reads as it did. -/
def fnExactTidyAtSpec : ChangeSpec := { name := "fnExactTidyAt", fn := fun _ => fun
  | [d1, d2] => { results := [.lit (.bool true)], args := [d1, d2] }
  | _ => none }
def fnExactTidyAtRow : OpenClaim := { program := "ytpanngbbofkeoab", sum := "52d794a210085af33d4c15e8aa78c34ff658914ea897c75b7a2235925573d878", func := "loop.example/hostel/laws.FnExactTidyAt", spec := "fnExactTidyAt", apart := false }
def FnExactTidyAtSaid : Prop := fnExactTidyAtRow.holds Try.pinned (OpenSpec.ofChange fnExactTidyAtSpec)

/-- ITS FALSE NEIGHBOUR: 'it returns false'. Refute it at one input. -/
def fnExactTidyAtWrong : ChangeSpec := { name := "fnExactTidyAt", fn := fun _ => fun
  | [d1, d2] => { results := [.lit (.bool false)], args := [d1, d2] }
  | _ => none }
def FnExactTidyAtWrongFalsely : Prop := fnExactTidyAtRow.holds Try.pinned (OpenSpec.ofChange fnExactTidyAtWrong)

/- THE SECOND FORM. 'bulk': how many values and letters a reading holds, each counted each time it is reached (what is shared counts as often as it is met; a slice's spare places count too). A statement '..UptoSaid' is the law's where the arguments, and the package variables that the reading takes, are together of bulk at most 1048576: NARROWER than '..Said'. Prove '..Said' where nothing that the law and all that it calls make is longer than what came in: it says more and counts as full. Else prove '..UptoSaid'. A law counts once. -/
mutual
def uptoBulk {H : Type} : DataW H → Nat
  | .lit (.string bytes) => bytes.length + 1
  | .lit _ => 1
  | .nil => 1
  | .ptr d => uptoBulk d + 1
  | .slice elems spare => uptoBulkAll elems + uptoBulkAll spare + 1
  | .agg parts => uptoBulkAll parts + 1
  | .iface _ d => uptoBulk d + 1
  | .map entries => uptoBulkEntries entries + 1
  | .held _ => 1
def uptoBulkAll {H : Type} : List (DataW H) → Nat
  | [] => 0
  | d :: r => uptoBulk d + uptoBulkAll r
def uptoBulkEntries {H : Type} : List (Lit × DataW H) → Nat
  | [] => 0
  | x :: r => uptoBulkEntry x + uptoBulkEntries r
def uptoBulkEntry {H : Type} : Lit × DataW H → Nat
  | (.string bytes, d) => bytes.length + uptoBulk d + 1
  | (_, d) => uptoBulk d + 1
 end
def uptoSmall : (H : Type) → List (DataW H) → Bool := fun _ ds => decide (uptoBulkAll ds ≤ 1048576)
def OpenSpec.upto (s : _root_.Go.ChangeSpec) : _root_.Go.OpenSpec := { _root_.Go.OpenSpec.ofChange s with cond := some uptoSmall }

/-- 'laws.FnExactStatGuests', WHERE WHAT IT READS IS OF BULK AT MOST 1048576: true; the input reads as it did. -/
def fnExactStatGuestsUptoRow : OpenClaim := { program := "ytpanngbbofkeoab", sum := "52d794a210085af33d4c15e8aa78c34ff658914ea897c75b7a2235925573d878", func := "loop.example/hostel/laws.FnExactStatGuests", spec := "fnExactStatGuests", apart := false, narrowed := true }
def FnExactStatGuestsUptoSaid : Prop := fnExactStatGuestsUptoRow.holds Try.pinned (OpenSpec.upto fnExactStatGuestsSpec)

/-- 'laws.FnExactTermDead', WHERE WHAT IT READS IS OF BULK AT MOST 1048576: true; the input reads as it did. -/
def fnExactTermDeadUptoRow : OpenClaim := { program := "ytpanngbbofkeoab", sum := "52d794a210085af33d4c15e8aa78c34ff658914ea897c75b7a2235925573d878", func := "loop.example/hostel/laws.FnExactTermDead", spec := "fnExactTermDead", apart := false, narrowed := true }
def FnExactTermDeadUptoSaid : Prop := fnExactTermDeadUptoRow.holds Try.pinned (OpenSpec.upto fnExactTermDeadSpec)

/-- 'laws.FnExactForkSame', WHERE WHAT IT READS IS OF BULK AT MOST 1048576: true; the input reads as it did. -/
def fnExactForkSameUptoRow : OpenClaim := { program := "ytpanngbbofkeoab", sum := "52d794a210085af33d4c15e8aa78c34ff658914ea897c75b7a2235925573d878", func := "loop.example/hostel/laws.FnExactForkSame", spec := "fnExactForkSame", unfollowed := true, recurses := true, apart := false, narrowed := true }
def FnExactForkSameUptoSaid : Prop := fnExactForkSameUptoRow.holds Try.pinned (OpenSpec.upto fnExactForkSameSpec)

/-- 'laws.FnExactTidyAt', WHERE WHAT IT READS IS OF BULK AT MOST 1048576: true; the input reads as it did. -/
def fnExactTidyAtUptoRow : OpenClaim := { program := "ytpanngbbofkeoab", sum := "52d794a210085af33d4c15e8aa78c34ff658914ea897c75b7a2235925573d878", func := "loop.example/hostel/laws.FnExactTidyAt", spec := "fnExactTidyAt", apart := false, narrowed := true }
def FnExactTidyAtUptoSaid : Prop := fnExactTidyAtUptoRow.holds Try.pinned (OpenSpec.upto fnExactTidyAtSpec)

end Rows
end Go.Proofs.Ytpanngbbofkeoab
