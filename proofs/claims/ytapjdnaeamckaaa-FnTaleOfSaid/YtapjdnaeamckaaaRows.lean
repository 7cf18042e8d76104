/-
  No cell of these rows narrows 'for every input' (looked for: loops, veiled, ifaces, maps, wideKeys, modest, calm, conditions, laid).
  DERIVED. THE GIVEN ROWS OF THIS SEAT. 12 by the template 'for every input the law returns true; each argument reads behind the call as it read before'; 0 by the template 'total and deterministic' (their statements: YtapjdnaeamckaaaTotals.lean).
  GIVEN WITH THE SEED: the statements are not yours to turn. If you find one false, say at which input.
  Laid BY PROGRAM, IN A SANDBOX (cutbox-rows.mjs): the forced cells as the released guide's own fill.sh prints them over the translation 82c8de50ef29fd6c… (all of the seat's roots in one cut). By AI agents, Wed Nov 11 2026. No macro, syntax, notation, axiom, sorry.
-/
import Derived.Test.YtapjdnaeamckaaaChecked
import GoSem.Claim
import GoSem.ClaimJoined
import GoSem.ClaimMapViews
import Derived.JoinedTies
import Derived.KernelRfl
namespace Go.Proofs.Ytapjdnaeamckaaa
/- THE CELL 'sum', in the pinned program and in every row, IS THE sha256 OF THE DUMP (.gsa) THAT YtapjdnaeamckaaaProg.lean LOADS. Nothing in Lean hashes anything: it is a label: what it is worth is what the hold of that sum in a sandbox is worth. -/
noncomputable def Try.pinned : Pinned := { name := "ytapjdnaeamckaaa", sum := "82c8de50ef29fd6c9c381f51943095e22e705b93aa6a6aef91a353591e85c63d", checked := Try.checked }
namespace Rows
def none {H : Type} : Left H := { results := [], args := [] }

/-- 'laws.FnExactTidyMany': WHATEVER THE INPUT: true; the input reads as it did. -/
def fnExactTidyManySpec : ChangeSpec := { name := "fnExactTidyMany", fn := fun _ => fun
  | [d1, d2] => { results := [.lit (.bool true)], args := [d1, d2] }
  | _ => none }
def fnExactTidyManyRow : OpenClaim := { program := "ytapjdnaeamckaaa", sum := "82c8de50ef29fd6c9c381f51943095e22e705b93aa6a6aef91a353591e85c63d", func := "loop.example/hostel/laws.FnExactTidyMany", spec := "fnExactTidyMany", unfollowed := true, recurses := true, apart := false }
def FnExactTidyManySaid : Prop := fnExactTidyManyRow.holds Try.pinned (OpenSpec.ofChange fnExactTidyManySpec)

/-- ITS FALSE NEIGHBOUR: 'it returns false'. Refute it at one input. -/
def fnExactTidyManyWrong : ChangeSpec := { name := "fnExactTidyMany", fn := fun _ => fun
  | [d1, d2] => { results := [.lit (.bool false)], args := [d1, d2] }
  | _ => none }
def FnExactTidyManyWrongFalsely : Prop := fnExactTidyManyRow.holds Try.pinned (OpenSpec.ofChange fnExactTidyManyWrong)

/-- 'laws.FnBookFull': WHATEVER THE INPUT: true; the input reads as it did. -/
def fnBookFullSpec : ChangeSpec := { name := "fnBookFull", fn := fun _ => fun
  | [d] => { results := [.lit (.bool true)], args := [d] }
  | _ => none }
def fnBookFullRow : OpenClaim := { program := "ytapjdnaeamckaaa", sum := "82c8de50ef29fd6c9c381f51943095e22e705b93aa6a6aef91a353591e85c63d", func := "loop.example/hostel/laws.FnBookFull", spec := "fnBookFull", inPlace := ["slices.overlaps[int]"], unfollowed := true, recurses := true, apart := false }
def FnBookFullSaid : Prop := fnBookFullRow.holds Try.pinned (OpenSpec.ofChange fnBookFullSpec)

/-- ITS FALSE NEIGHBOUR: 'it returns false'. Refute it at one input. -/
def fnBookFullWrong : ChangeSpec := { name := "fnBookFull", fn := fun _ => fun
  | [d] => { results := [.lit (.bool false)], args := [d] }
  | _ => none }
def FnBookFullWrongFalsely : Prop := fnBookFullRow.holds Try.pinned (OpenSpec.ofChange fnBookFullWrong)

/-- 'laws.FnBookTake': WHATEVER THE INPUT: true; the input reads as it did. -/
def fnBookTakeSpec : ChangeSpec := { name := "fnBookTake", fn := fun _ => fun
  | [d] => { results := [.lit (.bool true)], args := [d] }
  | _ => none }
def fnBookTakeRow : OpenClaim := { program := "ytapjdnaeamckaaa", sum := "82c8de50ef29fd6c9c381f51943095e22e705b93aa6a6aef91a353591e85c63d", func := "loop.example/hostel/laws.FnBookTake", spec := "fnBookTake", inPlace := ["slices.overlaps[int]"], unfollowed := true, recurses := true, apart := false }
def FnBookTakeSaid : Prop := fnBookTakeRow.holds Try.pinned (OpenSpec.ofChange fnBookTakeSpec)

/-- ITS FALSE NEIGHBOUR: 'it returns false'. Refute it at one input. -/
def fnBookTakeWrong : ChangeSpec := { name := "fnBookTake", fn := fun _ => fun
  | [d] => { results := [.lit (.bool false)], args := [d] }
  | _ => none }
def FnBookTakeWrongFalsely : Prop := fnBookTakeRow.holds Try.pinned (OpenSpec.ofChange fnBookTakeWrong)

/-- 'laws.FnBookCut': WHATEVER THE INPUT: true; the input reads as it did. -/
def fnBookCutSpec : ChangeSpec := { name := "fnBookCut", fn := fun _ => fun
  | [d] => { results := [.lit (.bool true)], args := [d] }
  | _ => none }
def fnBookCutRow : OpenClaim := { program := "ytapjdnaeamckaaa", sum := "82c8de50ef29fd6c9c381f51943095e22e705b93aa6a6aef91a353591e85c63d", func := "loop.example/hostel/laws.FnBookCut", spec := "fnBookCut", inPlace := ["slices.overlaps[int]"], unfollowed := true, recurses := true, apart := false }
def FnBookCutSaid : Prop := fnBookCutRow.holds Try.pinned (OpenSpec.ofChange fnBookCutSpec)

/-- ITS FALSE NEIGHBOUR: 'it returns false'. Refute it at one input. -/
def fnBookCutWrong : ChangeSpec := { name := "fnBookCut", fn := fun _ => fun
  | [d] => { results := [.lit (.bool false)], args := [d] }
  | _ => none }
def FnBookCutWrongFalsely : Prop := fnBookCutRow.holds Try.pinned (OpenSpec.ofChange fnBookCutWrong)

/-- 'laws.FnBookHand': WHATEVER THE INPUT: true; the input reads as it did. -/
def fnBookHandSpec : ChangeSpec := { name := "fnBookHand", fn := fun _ => fun
  | [d] => { results := [.lit (.bool true)], args := [d] }
  | _ => none }
def fnBookHandRow : OpenClaim := { program := "ytapjdnaeamckaaa", sum := "82c8de50ef29fd6c9c381f51943095e22e705b93aa6a6aef91a353591e85c63d", func := "loop.example/hostel/laws.FnBookHand", spec := "fnBookHand", inPlace := ["slices.overlaps[int]"], unfollowed := true, recurses := true, apart := false }
def FnBookHandSaid : Prop := fnBookHandRow.holds Try.pinned (OpenSpec.ofChange fnBookHandSpec)

/-- ITS FALSE NEIGHBOUR: 'it returns false'. Refute it at one input. -/
def fnBookHandWrong : ChangeSpec := { name := "fnBookHand", fn := fun _ => fun
  | [d] => { results := [.lit (.bool false)], args := [d] }
  | _ => none }
def FnBookHandWrongFalsely : Prop := fnBookHandRow.holds Try.pinned (OpenSpec.ofChange fnBookHandWrong)

/-- 'laws.FnBookLast': WHATEVER THE INPUT: true; the input reads as it did. -/
def fnBookLastSpec : ChangeSpec := { name := "fnBookLast", fn := fun _ => fun
  | [d] => { results := [.lit (.bool true)], args := [d] }
  | _ => none }
def fnBookLastRow : OpenClaim := { program := "ytapjdnaeamckaaa", sum := "82c8de50ef29fd6c9c381f51943095e22e705b93aa6a6aef91a353591e85c63d", func := "loop.example/hostel/laws.FnBookLast", spec := "fnBookLast", inPlace := ["slices.overlaps[int]"], unfollowed := true, recurses := true, apart := false }
def FnBookLastSaid : Prop := fnBookLastRow.holds Try.pinned (OpenSpec.ofChange fnBookLastSpec)

/-- ITS FALSE NEIGHBOUR: 'it returns false'. Refute it at one input. -/
def fnBookLastWrong : ChangeSpec := { name := "fnBookLast", fn := fun _ => fun
  | [d] => { results := [.lit (.bool false)], args := [d] }
  | _ => none }
def FnBookLastWrongFalsely : Prop := fnBookLastRow.holds Try.pinned (OpenSpec.ofChange fnBookLastWrong)

/-- 'laws.FnBookReap': WHATEVER THE INPUT: true; the input reads as it did. -/
def fnBookReapSpec : ChangeSpec := { name := "fnBookReap", fn := fun _ => fun
  | [d] => { results := [.lit (.bool true)], args := [d] }
  | _ => none }
def fnBookReapRow : OpenClaim := { program := "ytapjdnaeamckaaa", sum := "82c8de50ef29fd6c9c381f51943095e22e705b93aa6a6aef91a353591e85c63d", func := "loop.example/hostel/laws.FnBookReap", spec := "fnBookReap", inPlace := ["slices.overlaps[int]"], unfollowed := true, recurses := true, apart := false }
def FnBookReapSaid : Prop := fnBookReapRow.holds Try.pinned (OpenSpec.ofChange fnBookReapSpec)

/-- ITS FALSE NEIGHBOUR: 'it returns false'. Refute it at one input. -/
def fnBookReapWrong : ChangeSpec := { name := "fnBookReap", fn := fun _ => fun
  | [d] => { results := [.lit (.bool false)], args := [d] }
  | _ => none }
def FnBookReapWrongFalsely : Prop := fnBookReapRow.holds Try.pinned (OpenSpec.ofChange fnBookReapWrong)

/-- 'laws.FnBookOk': WHATEVER THE INPUT: true; the input reads as it did. -/
def fnBookOkSpec : ChangeSpec := { name := "fnBookOk", fn := fun _ => fun
  | [d] => { results := [.lit (.bool true)], args := [d] }
  | _ => none }
def fnBookOkRow : OpenClaim := { program := "ytapjdnaeamckaaa", sum := "82c8de50ef29fd6c9c381f51943095e22e705b93aa6a6aef91a353591e85c63d", func := "loop.example/hostel/laws.FnBookOk", spec := "fnBookOk", inPlace := ["slices.overlaps[int]"], unfollowed := true, recurses := true, apart := false }
def FnBookOkSaid : Prop := fnBookOkRow.holds Try.pinned (OpenSpec.ofChange fnBookOkSpec)

/-- ITS FALSE NEIGHBOUR: 'it returns false'. Refute it at one input. -/
def fnBookOkWrong : ChangeSpec := { name := "fnBookOk", fn := fun _ => fun
  | [d] => { results := [.lit (.bool false)], args := [d] }
  | _ => none }
def FnBookOkWrongFalsely : Prop := fnBookOkRow.holds Try.pinned (OpenSpec.ofChange fnBookOkWrong)

/-- 'laws.FnTidyMost': WHATEVER THE INPUT: true; the input reads as it did. -/
def fnTidyMostSpec : ChangeSpec := { name := "fnTidyMost", fn := fun _ => fun
  | [d] => { results := [.lit (.bool true)], args := [d] }
  | _ => none }
def fnTidyMostRow : OpenClaim := { program := "ytapjdnaeamckaaa", sum := "82c8de50ef29fd6c9c381f51943095e22e705b93aa6a6aef91a353591e85c63d", func := "loop.example/hostel/laws.FnTidyMost", spec := "fnTidyMost", inPlace := ["slices.overlaps[int]"], unfollowed := true, recurses := true, apart := false }
def FnTidyMostSaid : Prop := fnTidyMostRow.holds Try.pinned (OpenSpec.ofChange fnTidyMostSpec)

/-- ITS FALSE NEIGHBOUR: 'it returns false'. Refute it at one input. -/
def fnTidyMostWrong : ChangeSpec := { name := "fnTidyMost", fn := fun _ => fun
  | [d] => { results := [.lit (.bool false)], args := [d] }
  | _ => none }
def FnTidyMostWrongFalsely : Prop := fnTidyMostRow.holds Try.pinned (OpenSpec.ofChange fnTidyMostWrong)

/-- 'laws.FnExactBookDo': WHATEVER THE INPUT: true; the input reads as it did. -/
def fnExactBookDoSpec : ChangeSpec := { name := "fnExactBookDo", fn := fun _ => fun
  | [d1, d2] => { results := [.lit (.bool true)], args := [d1, d2] }
  | _ => none }
def fnExactBookDoRow : OpenClaim := { program := "ytapjdnaeamckaaa", sum := "82c8de50ef29fd6c9c381f51943095e22e705b93aa6a6aef91a353591e85c63d", func := "loop.example/hostel/laws.FnExactBookDo", spec := "fnExactBookDo", inPlace := ["slices.overlaps[int]"], unfollowed := true, recurses := true, apart := false }
def FnExactBookDoSaid : Prop := fnExactBookDoRow.holds Try.pinned (OpenSpec.ofChange fnExactBookDoSpec)

/-- ITS FALSE NEIGHBOUR: 'it returns false'. Refute it at one input. -/
def fnExactBookDoWrong : ChangeSpec := { name := "fnExactBookDo", fn := fun _ => fun
  | [d1, d2] => { results := [.lit (.bool false)], args := [d1, d2] }
  | _ => none }
def FnExactBookDoWrongFalsely : Prop := fnExactBookDoRow.holds Try.pinned (OpenSpec.ofChange fnExactBookDoWrong)

/-- 'laws.FnTidyTake': WHATEVER THE INPUT: true; the input reads as it did. -/
def fnTidyTakeSpec : ChangeSpec := { name := "fnTidyTake", fn := fun _ => fun
  | [d] => { results := [.lit (.bool true)], args := [d] }
  | _ => none }
def fnTidyTakeRow : OpenClaim := { program := "ytapjdnaeamckaaa", sum := "82c8de50ef29fd6c9c381f51943095e22e705b93aa6a6aef91a353591e85c63d", func := "loop.example/hostel/laws.FnTidyTake", spec := "fnTidyTake", inPlace := ["slices.overlaps[int]"], unfollowed := true, recurses := true, apart := false }
def FnTidyTakeSaid : Prop := fnTidyTakeRow.holds Try.pinned (OpenSpec.ofChange fnTidyTakeSpec)

/-- ITS FALSE NEIGHBOUR: 'it returns false'. Refute it at one input. -/
def fnTidyTakeWrong : ChangeSpec := { name := "fnTidyTake", fn := fun _ => fun
  | [d] => { results := [.lit (.bool false)], args := [d] }
  | _ => none }
def FnTidyTakeWrongFalsely : Prop := fnTidyTakeRow.holds Try.pinned (OpenSpec.ofChange fnTidyTakeWrong)

/-- 'laws.FnTaleOf': WHATEVER THE INPUT: true; the input reads as it did. -/
def fnTaleOfSpec : ChangeSpec := { name := "fnTaleOf", fn := fun _ => fun
  | [d1, d2] => { results := [.lit (.bool true)], args := [d1, d2] }
  | _ => none }
def fnTaleOfRow : OpenClaim := { program := "ytapjdnaeamckaaa", sum := "82c8de50ef29fd6c9c381f51943095e22e705b93aa6a6aef91a353591e85c63d", func := "loop.example/hostel/laws.FnTaleOf", spec := "fnTaleOf", inPlace := ["slices.overlaps[int]"], unfollowed := true, recurses := true, apart := false }
def FnTaleOfSaid : Prop := fnTaleOfRow.holds Try.pinned (OpenSpec.ofChange fnTaleOfSpec)

/-- ITS FALSE NEIGHBOUR: 'it returns false'. Refute it at one input. -/
def fnTaleOfWrong : ChangeSpec := { name := "fnTaleOf", fn := fun _ => fun
  | [d1, d2] => { results := [.lit (.bool false)], args := [d1, d2] }
  | _ => none }
def FnTaleOfWrongFalsely : Prop := fnTaleOfRow.holds Try.pinned (OpenSpec.ofChange fnTaleOfWrong)

/- THE SECOND FORM. 'bulk': how many values and letters a reading holds, each counted each time it is reached (what is shared counts as often as it is met; a slice's spare places count too). A statement '..UptoSaid' is the law's where the arguments, and the package variables that the reading takes, are together of bulk at most 1048576: NARROWER than '..Said'. Prove '..Said' where nothing that the law and all that it calls make is longer than what came in: it says more and counts as full. Else prove '..UptoSaid'. A law counts once. -/
mutual
def uptoBulk {H : Type} : DataW H → Nat
  | .lit (.string bytes) => bytes.length + 1
  | .lit _ => 1
  | .nil => 1
  | .ptr d => uptoBulk d + 1
  | .slice elems spare => uptoBulkAll elems + uptoBulkAll spare + 1
  | .agg parts => uptoBulkAll parts + 1
  | .iface _ d => uptoBulk d + 1
  | .map entries => uptoBulkEntries entries + 1
  | .held _ => 1
def uptoBulkAll {H : Type} : List (DataW H) → Nat
  | [] => 0
  | d :: r => uptoBulk d + uptoBulkAll r
def uptoBulkEntries {H : Type} : List (Lit × DataW H) → Nat
  | [] => 0
  | x :: r => uptoBulkEntry x + uptoBulkEntries r
def uptoBulkEntry {H : Type} : Lit × DataW H → Nat
  | (.string bytes, d) => bytes.length + uptoBulk d + 1
  | (_, d) => uptoBulk d + 1
 end
def uptoSmall : (H : Type) → List (DataW H) → Bool := fun _ ds => decide (uptoBulkAll ds ≤ 1048576)
def OpenSpec.upto (s : _root_.Go.ChangeSpec) : _root_.Go.OpenSpec := { _root_.Go.OpenSpec.ofChange s with cond := some uptoSmall }

/-- 'laws.FnExactTidyMany', WHERE WHAT IT READS IS OF BULK AT MOST 1048576: true; the input reads as it did. -/
def fnExactTidyManyUptoRow : OpenClaim := { program := "ytapjdnaeamckaaa", sum := "82c8de50ef29fd6c9c381f51943095e22e705b93aa6a6aef91a353591e85c63d", func := "loop.example/hostel/laws.FnExactTidyMany", spec := "fnExactTidyMany", unfollowed := true, recurses := true, apart := false, narrowed := true }
def FnExactTidyManyUptoSaid : Prop := fnExactTidyManyUptoRow.holds Try.pinned (OpenSpec.upto fnExactTidyManySpec)

/-- 'laws.FnBookFull', WHERE WHAT IT READS IS OF BULK AT MOST 1048576: true; the input reads as it did. -/
def fnBookFullUptoRow : OpenClaim := { program := "ytapjdnaeamckaaa", sum := "82c8de50ef29fd6c9c381f51943095e22e705b93aa6a6aef91a353591e85c63d", func := "loop.example/hostel/laws.FnBookFull", spec := "fnBookFull", inPlace := ["slices.overlaps[int]"], unfollowed := true, recurses := true, apart := false, narrowed := true }
def FnBookFullUptoSaid : Prop := fnBookFullUptoRow.holds Try.pinned (OpenSpec.upto fnBookFullSpec)

/-- 'laws.FnBookTake', WHERE WHAT IT READS IS OF BULK AT MOST 1048576: true; the input reads as it did. -/
def fnBookTakeUptoRow : OpenClaim := { program := "ytapjdnaeamckaaa", sum := "82c8de50ef29fd6c9c381f51943095e22e705b93aa6a6aef91a353591e85c63d", func := "loop.example/hostel/laws.FnBookTake", spec := "fnBookTake", inPlace := ["slices.overlaps[int]"], unfollowed := true, recurses := true, apart := false, narrowed := true }
def FnBookTakeUptoSaid : Prop := fnBookTakeUptoRow.holds Try.pinned (OpenSpec.upto fnBookTakeSpec)

/-- 'laws.FnBookCut', WHERE WHAT IT READS IS OF BULK AT MOST 1048576: true; the input reads as it did. -/
def fnBookCutUptoRow : OpenClaim := { program := "ytapjdnaeamckaaa", sum := "82c8de50ef29fd6c9c381f51943095e22e705b93aa6a6aef91a353591e85c63d", func := "loop.example/hostel/laws.FnBookCut", spec := "fnBookCut", inPlace := ["slices.overlaps[int]"], unfollowed := true, recurses := true, apart := false, narrowed := true }
def FnBookCutUptoSaid : Prop := fnBookCutUptoRow.holds Try.pinned (OpenSpec.upto fnBookCutSpec)

/-- 'laws.FnBookHand', WHERE WHAT IT READS IS OF BULK AT MOST 1048576: true; the input reads as it did. -/
def fnBookHandUptoRow : OpenClaim := { program := "ytapjdnaeamckaaa", sum := "82c8de50ef29fd6c9c381f51943095e22e705b93aa6a6aef91a353591e85c63d", func := "loop.example/hostel/laws.FnBookHand", spec := "fnBookHand", inPlace := ["slices.overlaps[int]"], unfollowed := true, recurses := true, apart := false, narrowed := true }
def FnBookHandUptoSaid : Prop := fnBookHandUptoRow.holds Try.pinned (OpenSpec.upto fnBookHandSpec)

/-- 'laws.FnBookLast', WHERE WHAT IT READS IS OF BULK AT MOST 1048576: true; the input reads as it did. -/
def fnBookLastUptoRow : OpenClaim := { program := "ytapjdnaeamckaaa", sum := "82c8de50ef29fd6c9c381f51943095e22e705b93aa6a6aef91a353591e85c63d", func := "loop.example/hostel/laws.FnBookLast", spec := "fnBookLast", inPlace := ["slices.overlaps[int]"], unfollowed := true, recurses := true, apart := false, narrowed := true }
def FnBookLastUptoSaid : Prop := fnBookLastUptoRow.holds Try.pinned (OpenSpec.upto fnBookLastSpec)

/-- 'laws.FnBookReap', WHERE WHAT IT READS IS OF BULK AT MOST 1048576: true; the input reads as it did. -/
def fnBookReapUptoRow : OpenClaim := { program := "ytapjdnaeamckaaa", sum := "82c8de50ef29fd6c9c381f51943095e22e705b93aa6a6aef91a353591e85c63d", func := "loop.example/hostel/laws.FnBookReap", spec := "fnBookReap", inPlace := ["slices.overlaps[int]"], unfollowed := true, recurses := true, apart := false, narrowed := true }
def FnBookReapUptoSaid : Prop := fnBookReapUptoRow.holds Try.pinned (OpenSpec.upto fnBookReapSpec)

/-- 'laws.FnBookOk', WHERE WHAT IT READS IS OF BULK AT MOST 1048576: true; the input reads as it did. -/
def fnBookOkUptoRow : OpenClaim := { program := "ytapjdnaeamckaaa", sum := "82c8de50ef29fd6c9c381f51943095e22e705b93aa6a6aef91a353591e85c63d", func := "loop.example/hostel/laws.FnBookOk", spec := "fnBookOk", inPlace := ["slices.overlaps[int]"], unfollowed := true, recurses := true, apart := false, narrowed := true }
def FnBookOkUptoSaid : Prop := fnBookOkUptoRow.holds Try.pinned (OpenSpec.upto fnBookOkSpec)

/-- 'laws.FnTidyMost', WHERE WHAT IT READS IS OF BULK AT MOST 1048576: true; the input reads as it did. -/
def fnTidyMostUptoRow : OpenClaim := { program := "ytapjdnaeamckaaa", sum := "82c8de50ef29fd6c9c381f51943095e22e705b93aa6a6aef91a353591e85c63d", func := "loop.example/hostel/laws.FnTidyMost", spec := "fnTidyMost", inPlace := ["slices.overlaps[int]"], unfollowed := true, recurses := true, apart := false, narrowed := true }
def FnTidyMostUptoSaid : Prop := fnTidyMostUptoRow.holds Try.pinned (OpenSpec.upto fnTidyMostSpec)

/-- 'laws.FnExactBookDo', WHERE WHAT IT READS IS OF BULK AT MOST 1048576: true; the input reads as it did. -/
def fnExactBookDoUptoRow : OpenClaim := { program := "ytapjdnaeamckaaa", sum := "82c8de50ef29fd6c9c381f51943095e22e705b93aa6a6aef91a353591e85c63d", func := "loop.example/hostel/laws.FnExactBookDo", spec := "fnExactBookDo", inPlace := ["slices.overlaps[int]"], unfollowed := true, recurses := true, apart := false, narrowed := true }
def FnExactBookDoUptoSaid : Prop := fnExactBookDoUptoRow.holds Try.pinned (OpenSpec.upto fnExactBookDoSpec)

/-- 'laws.FnTidyTake', WHERE WHAT IT READS IS OF BULK AT MOST 1048576: true; the input reads as it did. -/
def fnTidyTakeUptoRow : OpenClaim := { program := "ytapjdnaeamckaaa", sum := "82c8de50ef29fd6c9c381f51943095e22e705b93aa6a6aef91a353591e85c63d", func := "loop.example/hostel/laws.FnTidyTake", spec := "fnTidyTake", inPlace := ["slices.overlaps[int]"], unfollowed := true, recurses := true, apart := false, narrowed := true }
def FnTidyTakeUptoSaid : Prop := fnTidyTakeUptoRow.holds Try.pinned (OpenSpec.upto fnTidyTakeSpec)

/-- 'laws.FnTaleOf', WHERE WHAT IT READS IS OF BULK AT MOST 1048576: true; the input reads as it did. -/
def fnTaleOfUptoRow : OpenClaim := { program := "ytapjdnaeamckaaa", sum := "82c8de50ef29fd6c9c381f51943095e22e705b93aa6a6aef91a353591e85c63d", func := "loop.example/hostel/laws.FnTaleOf", spec := "fnTaleOf", inPlace := ["slices.overlaps[int]"], unfollowed := true, recurses := true, apart := false, narrowed := true }
def FnTaleOfUptoSaid : Prop := fnTaleOfUptoRow.holds Try.pinned (OpenSpec.upto fnTaleOfSpec)

end Rows
end Go.Proofs.Ytapjdnaeamckaaa
