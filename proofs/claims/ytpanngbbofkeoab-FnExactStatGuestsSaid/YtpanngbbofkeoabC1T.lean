/- The types of the program that the proofs look at. Written by a program of the prover's own. -/
import Derived.Test.YtpanngbbofkeoabChecked
import Derived.Test.YtpanngbbofkeoabPvKit
namespace Go.Proofs.Ytpanngbbofkeoab.Pv
open Go Go.Pv Go.Proofs
set_option maxRecDepth 100000
noncomputable def tt : List (Nat × TInfo) := [(3, ⟨.int .i64, 1, 8, (.int .i64), ⟨(.int .i64), 0⟩⟩),
  (4, ⟨.bool, 1, 1, .bool, ⟨.bool, false⟩⟩),
  (22, ⟨.sl 67, 1, 24, (.sl .frz (.agg (.pair .bool (.pair (.int .i64) (.pair (.agg (.pair (.int .i64) (.pair (.int .i64) (.pair (.int .i64) (.int .i64))))) (.pair (.int .i64) (.int .i64))))))), ⟨(.sl .emp .unit), ()⟩⟩),
  (24, ⟨.sl 3, 1, 24, (.sl .frz (.int .i64)), ⟨(.sl .emp .unit), ()⟩⟩),
  (26, ⟨.sl 63, 1, 24, (.sl .frz (.agg (.pair .bool (.pair (.int .i64) (.pair (.agg (.pair (.int .i64) (.pair (.int .i64) (.pair (.int .i64) (.int .i64))))) (.pair (.int .i64) (.int .i64))))))), ⟨(.sl .emp .unit), ()⟩⟩),
  (61, ⟨.st [(3, 0), (3, 1), (3, 2), (3, 3)], 4, 32, (.agg (.pair (.int .i64) (.pair (.int .i64) (.pair (.int .i64) (.int .i64))))), ⟨(.agg (.pair (.int .i64) (.pair (.int .i64) (.pair (.int .i64) (.int .i64))))), (0, (0, (0, 0)))⟩⟩),
  (63, ⟨.st [(4, 0), (3, 1), (61, 2), (3, 6), (3, 7)], 8, 64, (.agg (.pair .bool (.pair (.int .i64) (.pair (.agg (.pair (.int .i64) (.pair (.int .i64) (.pair (.int .i64) (.int .i64))))) (.pair (.int .i64) (.int .i64)))))), ⟨(.agg (.pair .bool (.pair (.int .i64) (.pair (.agg (.pair (.int .i64) (.pair (.int .i64) (.pair (.int .i64) (.int .i64))))) (.pair (.int .i64) (.int .i64)))))), (false, (0, ((0, (0, (0, 0))), (0, 0))))⟩⟩),
  (65, ⟨.st [(3, 0), (3, 1), (3, 2), (3, 3)], 4, 32, (.agg (.pair (.int .i64) (.pair (.int .i64) (.pair (.int .i64) (.int .i64))))), ⟨(.agg (.pair (.int .i64) (.pair (.int .i64) (.pair (.int .i64) (.int .i64))))), (0, (0, (0, 0)))⟩⟩),
  (67, ⟨.st [(4, 0), (3, 1), (65, 2), (3, 6), (3, 7)], 8, 64, (.agg (.pair .bool (.pair (.int .i64) (.pair (.agg (.pair (.int .i64) (.pair (.int .i64) (.pair (.int .i64) (.int .i64))))) (.pair (.int .i64) (.int .i64)))))), ⟨(.agg (.pair .bool (.pair (.int .i64) (.pair (.agg (.pair (.int .i64) (.pair (.int .i64) (.pair (.int .i64) (.int .i64))))) (.pair (.int .i64) (.int .i64)))))), (false, (0, ((0, (0, (0, 0))), (0, 0))))⟩⟩)]
theorem tt_ok : TTOk Try.prog tt := ChkAll.ok (l := tt) ⟨⟨by kernel_rfl, by kernel_rfl, by kernel_rfl, by kernel_rfl⟩,
  ⟨⟨by kernel_rfl, by kernel_rfl, by kernel_rfl, by kernel_rfl⟩,
  ⟨⟨by kernel_rfl, by kernel_rfl, by kernel_rfl, by kernel_rfl⟩,
  ⟨⟨by kernel_rfl, by kernel_rfl, by kernel_rfl, by kernel_rfl⟩,
  ⟨⟨by kernel_rfl, by kernel_rfl, by kernel_rfl, by kernel_rfl⟩,
  ⟨⟨by kernel_rfl, by kernel_rfl, by kernel_rfl, by kernel_rfl⟩,
  ⟨⟨by kernel_rfl, by kernel_rfl, by kernel_rfl, by kernel_rfl⟩,
  ⟨⟨by kernel_rfl, by kernel_rfl, by kernel_rfl, by kernel_rfl⟩,
  ⟨⟨by kernel_rfl, by kernel_rfl, by kernel_rfl, by kernel_rfl⟩,
  trivial⟩⟩⟩⟩⟩⟩⟩⟩⟩
theorem mixed : Try.prog.follows .mixedOrders = true := by kernel_rfl
end Go.Proofs.Ytpanngbbofkeoab.Pv
