/- The types of the program that the proofs look at. Written by a program of the prover's own. -/
import Derived.Test.YtpanngbbofkeoaaChecked
import Derived.Test.YtpanngbbofkeoaaPvKit
namespace Go.Proofs.Ytpanngbbofkeoaa.Pv
open Go Go.Pv Go.Proofs
set_option maxRecDepth 100000
noncomputable def tt : List (Nat × TInfo) := [(3, ⟨.int .i64, 1, 8, (.int .i64), ⟨(.int .i64), 0⟩⟩),
  (25, ⟨.st [(3, 0), (3, 1), (3, 2)], 3, 24, (.agg (.pair (.int .i64) (.pair (.int .i64) (.int .i64)))), ⟨(.agg (.pair (.int .i64) (.pair (.int .i64) (.int .i64)))), (0, (0, 0))⟩⟩),
  (28, ⟨.sl 56, 1, 24, (.sl .frz (.int .u64)), ⟨(.sl .emp .unit), ()⟩⟩),
  (56, ⟨.int .u64, 1, 8, (.int .u64), ⟨(.int .u64), 0⟩⟩)]
theorem tt_ok : TTOk Try.prog tt := ChkAll.ok (l := tt) ⟨⟨by kernel_rfl, by kernel_rfl, by kernel_rfl, by kernel_rfl⟩,
  ⟨⟨by kernel_rfl, by kernel_rfl, by kernel_rfl, by kernel_rfl⟩,
  ⟨⟨by kernel_rfl, by kernel_rfl, by kernel_rfl, by kernel_rfl⟩,
  ⟨⟨by kernel_rfl, by kernel_rfl, by kernel_rfl, by kernel_rfl⟩,
  trivial⟩⟩⟩⟩
theorem mixed : Try.prog.follows .mixedOrders = true := by kernel_rfl
end Go.Proofs.Ytpanngbbofkeoaa.Pv
