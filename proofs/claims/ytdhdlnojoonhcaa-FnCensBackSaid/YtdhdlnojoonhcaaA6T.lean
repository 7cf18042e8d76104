/- The types of the program that the proofs look at. Written by a program of the prover's own. -/
import Derived.Test.YtdhdlnojoonhcaaChecked
import Derived.Test.YtdhdlnojoonhcaaPvKit
namespace Go.Proofs.Ytdhdlnojoonhcaa.Pv
open Go Go.Pv Go.Proofs
set_option maxRecDepth 100000
noncomputable def tt : List (Nat × TInfo) := [(3, ⟨.int .i64, 1, 8, (.int .i64), ⟨(.int .i64), 0⟩⟩),
  (4, ⟨.bool, 1, 1, .bool, ⟨.bool, false⟩⟩),
  (5, ⟨.int .u8, 1, 1, (.int .u8), ⟨(.int .u8), 0⟩⟩),
  (22, ⟨.sl 5, 1, 24, (.sl .frz (.int .u8)), ⟨(.sl .emp .unit), ()⟩⟩),
  (27, ⟨.sl 3, 1, 24, (.sl .frz (.int .i64)), ⟨(.sl .emp .unit), ()⟩⟩),
  (32, ⟨.st [(3, 0), (3, 1), (3, 2), (3, 3)], 4, 32, (.agg (.pair (.int .i64) (.pair (.int .i64) (.pair (.int .i64) (.int .i64))))), ⟨(.agg (.pair (.int .i64) (.pair (.int .i64) (.pair (.int .i64) (.int .i64))))), (0, (0, (0, 0)))⟩⟩),
  (38, ⟨.sl 52, 1, 24, (.sl .frz (.int .u64)), ⟨(.sl .emp .unit), ()⟩⟩),
  (39, ⟨.ar 4 27, 4, 96, (.agg (.pair (.sl .frz (.int .i64)) (.pair (.sl .frz (.int .i64)) (.pair (.sl .frz (.int .i64)) (.sl .frz (.int .i64)))))), ⟨(.agg (.pair (.sl .emp .unit) (.pair (.sl .emp .unit) (.pair (.sl .emp .unit) (.sl .emp .unit))))), ((), ((), ((), ())))⟩⟩),
  (41, ⟨.st [(3, 0), (27, 1), (39, 2), (27, 6), (27, 7), (27, 8)], 9, 200, (.agg (.pair (.int .i64) (.pair (.sl .frz (.int .i64)) (.pair (.agg (.pair (.sl .frz (.int .i64)) (.pair (.sl .frz (.int .i64)) (.pair (.sl .frz (.int .i64)) (.sl .frz (.int .i64)))))) (.pair (.sl .frz (.int .i64)) (.pair (.sl .frz (.int .i64)) (.sl .frz (.int .i64)))))))), ⟨(.agg (.pair (.int .i64) (.pair (.sl .emp .unit) (.pair (.agg (.pair (.sl .emp .unit) (.pair (.sl .emp .unit) (.pair (.sl .emp .unit) (.sl .emp .unit))))) (.pair (.sl .emp .unit) (.pair (.sl .emp .unit) (.sl .emp .unit))))))), (0, ((), (((), ((), ((), ()))), ((), ((), ())))))⟩⟩),
  (52, ⟨.int .u64, 1, 8, (.int .u64), ⟨(.int .u64), 0⟩⟩),
  (54, ⟨.st [(3, 0), (3, 1), (3, 2)], 3, 24, (.agg (.pair (.int .i64) (.pair (.int .i64) (.int .i64)))), ⟨(.agg (.pair (.int .i64) (.pair (.int .i64) (.int .i64)))), (0, (0, 0))⟩⟩),
  (107, ⟨.st [(22, 0), (3, 1)], 2, 32, (.agg (.pair (.sl .frz (.int .u8)) (.int .i64))), ⟨(.agg (.pair (.sl .emp .unit) (.int .i64))), ((), 0)⟩⟩)]
theorem tt_ok : TTOk Try.prog tt := ChkAll.ok (l := tt) ⟨⟨by kernel_rfl, by kernel_rfl, by kernel_rfl, by kernel_rfl⟩,
  ⟨⟨by kernel_rfl, by kernel_rfl, by kernel_rfl, by kernel_rfl⟩,
  ⟨⟨by kernel_rfl, by kernel_rfl, by kernel_rfl, by kernel_rfl⟩,
  ⟨⟨by kernel_rfl, by kernel_rfl, by kernel_rfl, by kernel_rfl⟩,
  ⟨⟨by kernel_rfl, by kernel_rfl, by kernel_rfl, by kernel_rfl⟩,
  ⟨⟨by kernel_rfl, by kernel_rfl, by kernel_rfl, by kernel_rfl⟩,
  ⟨⟨by kernel_rfl, by kernel_rfl, by kernel_rfl, by kernel_rfl⟩,
  ⟨⟨by kernel_rfl, by kernel_rfl, by kernel_rfl, by kernel_rfl⟩,
  ⟨⟨by kernel_rfl, by kernel_rfl, by kernel_rfl, by kernel_rfl⟩,
  ⟨⟨by kernel_rfl, by kernel_rfl, by kernel_rfl, by kernel_rfl⟩,
  ⟨⟨by kernel_rfl, by kernel_rfl, by kernel_rfl, by kernel_rfl⟩,
  ⟨⟨by kernel_rfl, by kernel_rfl, by kernel_rfl, by kernel_rfl⟩,
  trivial⟩⟩⟩⟩⟩⟩⟩⟩⟩⟩⟩⟩
theorem mixed : Try.prog.follows .mixedOrders = true := by kernel_rfl
end Go.Proofs.Ytdhdlnojoonhcaa.Pv
