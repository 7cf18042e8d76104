/- The types of the program that the proofs look at. Written by a program of the prover's own. -/
import Derived.Test.YtdkinmgpclbedaaDoorChecked
import Derived.Shelf.Lay
import Derived.Shelf.Strings.BuilderK
import Derived.Shelf.Strconv.Itoa3
import Derived.WalkKit
import Derived.BigCall
import Derived.Test.YtdkinmgpclbedaaDoorPvKit
namespace Go.Proofs.YtdkinmgpclbedaaDoor.Pv
open Go Go.Pv Go.Proofs
set_option maxRecDepth 100000
noncomputable def tt : List (Nat × TInfo) := [(3, ⟨.int .i64, 1, 8, (.int .i64), ⟨(.int .i64), 0⟩⟩),
  (4, ⟨.bool, 1, 1, .bool, ⟨.bool, false⟩⟩),
  (5, ⟨.int .u8, 1, 1, (.int .u8), ⟨(.int .u8), 0⟩⟩),
  (9, ⟨.str, 1, 16, .str, ⟨.str, ByteArray.empty⟩⟩),
  (22, ⟨.sl 3, 1, 24, (.sl .frz (.int .i64)), ⟨(.sl .emp .unit), ()⟩⟩),
  (23, ⟨.ar 4 22, 4, 96, (.agg (.pair (.sl .frz (.int .i64)) (.pair (.sl .frz (.int .i64)) (.pair (.sl .frz (.int .i64)) (.sl .frz (.int .i64)))))), ⟨(.agg (.pair (.sl .emp .unit) (.pair (.sl .emp .unit) (.pair (.sl .emp .unit) (.sl .emp .unit))))), ((), ((), ((), ())))⟩⟩),
  (28, ⟨.st [(3, 0), (22, 1), (23, 2), (22, 6), (22, 7), (22, 8)], 9, 200, (.agg (.pair (.int .i64) (.pair (.sl .frz (.int .i64)) (.pair (.agg (.pair (.sl .frz (.int .i64)) (.pair (.sl .frz (.int .i64)) (.pair (.sl .frz (.int .i64)) (.sl .frz (.int .i64)))))) (.pair (.sl .frz (.int .i64)) (.pair (.sl .frz (.int .i64)) (.sl .frz (.int .i64)))))))), ⟨(.agg (.pair (.int .i64) (.pair (.sl .emp .unit) (.pair (.agg (.pair (.sl .emp .unit) (.pair (.sl .emp .unit) (.pair (.sl .emp .unit) (.sl .emp .unit))))) (.pair (.sl .emp .unit) (.pair (.sl .emp .unit) (.sl .emp .unit))))))), (0, ((), (((), ((), ((), ()))), ((), ((), ())))))⟩⟩),
  (32, ⟨.sl 5, 1, 24, (.sl .frz (.int .u8)), ⟨(.sl .emp .unit), ()⟩⟩),
  (82, ⟨.st [(3, 0), (3, 1), (3, 2)], 3, 24, (.agg (.pair (.int .i64) (.pair (.int .i64) (.int .i64)))), ⟨(.agg (.pair (.int .i64) (.pair (.int .i64) (.int .i64)))), (0, (0, 0))⟩⟩),
  (102, ⟨.st [(32, 0), (3, 1)], 2, 32, (.agg (.pair (.sl .frz (.int .u8)) (.int .i64))), ⟨(.agg (.pair (.sl .emp .unit) (.int .i64))), ((), 0)⟩⟩),
  (119, ⟨.st [(3, 0), (3, 1), (3, 2), (3, 3)], 4, 32, (.agg (.pair (.int .i64) (.pair (.int .i64) (.pair (.int .i64) (.int .i64))))), ⟨(.agg (.pair (.int .i64) (.pair (.int .i64) (.pair (.int .i64) (.int .i64))))), (0, (0, (0, 0)))⟩⟩)]
theorem tt_ok : TTOk Tryd.prog tt := ChkAll.ok (l := tt) ⟨⟨by kernel_rfl, by kernel_rfl, by kernel_rfl, by kernel_rfl⟩,
  ⟨⟨by kernel_rfl, by kernel_rfl, by kernel_rfl, by kernel_rfl⟩,
  ⟨⟨by kernel_rfl, by kernel_rfl, by kernel_rfl, by kernel_rfl⟩,
  ⟨⟨by kernel_rfl, by kernel_rfl, by kernel_rfl, by kernel_rfl⟩,
  ⟨⟨by kernel_rfl, by kernel_rfl, by kernel_rfl, by kernel_rfl⟩,
  ⟨⟨by kernel_rfl, by kernel_rfl, by kernel_rfl, by kernel_rfl⟩,
  ⟨⟨by kernel_rfl, by kernel_rfl, by kernel_rfl, by kernel_rfl⟩,
  ⟨⟨by kernel_rfl, by kernel_rfl, by kernel_rfl, by kernel_rfl⟩,
  ⟨⟨by kernel_rfl, by kernel_rfl, by kernel_rfl, by kernel_rfl⟩,
  ⟨⟨by kernel_rfl, by kernel_rfl, by kernel_rfl, by kernel_rfl⟩,
  ⟨⟨by kernel_rfl, by kernel_rfl, by kernel_rfl, by kernel_rfl⟩,
  trivial⟩⟩⟩⟩⟩⟩⟩⟩⟩⟩⟩
theorem mixed : Tryd.prog.follows .mixedOrders = true := by kernel_rfl
end Go.Proofs.YtdkinmgpclbedaaDoor.Pv
