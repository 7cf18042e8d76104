/- The types of the program that the proofs look at. Written by a program of the prover's own. -/
import Derived.Test.YtdkinmgpclbedaaDoorChecked
import Derived.Test.YtdkinmgpclbedaaDoorPvKit
namespace Go.Proofs.YtdkinmgpclbedaaDoor.Pv
open Go Go.Pv Go.Proofs
set_option maxRecDepth 100000
noncomputable def tt : List (Nat × TInfo) := [(3, ⟨.int .i64, 1, 8, (.int .i64), ⟨(.int .i64), 0⟩⟩),
  (5, ⟨.int .u8, 1, 1, (.int .u8), ⟨(.int .u8), 0⟩⟩),
  (9, ⟨.str, 1, 16, .str, ⟨.str, ByteArray.empty⟩⟩),
  (32, ⟨.sl 5, 1, 24, (.sl .frz (.int .u8)), ⟨(.sl .emp .unit), ()⟩⟩),
  (40, ⟨.int .u64, 1, 8, (.int .u64), ⟨(.int .u64), 0⟩⟩),
  (43, ⟨.sl 40, 1, 24, (.sl .frz (.int .u64)), ⟨(.sl .emp .unit), ()⟩⟩),
  (82, ⟨.st [(3, 0), (3, 1), (3, 2)], 3, 24, (.agg (.pair (.int .i64) (.pair (.int .i64) (.int .i64)))), ⟨(.agg (.pair (.int .i64) (.pair (.int .i64) (.int .i64)))), (0, (0, 0))⟩⟩),
  (85, ⟨.sl 9, 1, 24, (.sl .frz .str), ⟨(.sl .emp .unit), ()⟩⟩)]
theorem tt_ok : TTOk Tryd.prog tt := ChkAll.ok (l := tt) ⟨⟨by kernel_rfl, by kernel_rfl, by kernel_rfl, by kernel_rfl⟩,
  ⟨⟨by kernel_rfl, by kernel_rfl, by kernel_rfl, by kernel_rfl⟩,
  ⟨⟨by kernel_rfl, by kernel_rfl, by kernel_rfl, by kernel_rfl⟩,
  ⟨⟨by kernel_rfl, by kernel_rfl, by kernel_rfl, by kernel_rfl⟩,
  ⟨⟨by kernel_rfl, by kernel_rfl, by kernel_rfl, by kernel_rfl⟩,
  ⟨⟨by kernel_rfl, by kernel_rfl, by kernel_rfl, by kernel_rfl⟩,
  ⟨⟨by kernel_rfl, by kernel_rfl, by kernel_rfl, by kernel_rfl⟩,
  ⟨⟨by kernel_rfl, by kernel_rfl, by kernel_rfl, by kernel_rfl⟩,
  trivial⟩⟩⟩⟩⟩⟩⟩⟩
theorem mixed : Tryd.prog.follows .mixedOrders = true := by kernel_rfl
end Go.Proofs.YtdkinmgpclbedaaDoor.Pv
