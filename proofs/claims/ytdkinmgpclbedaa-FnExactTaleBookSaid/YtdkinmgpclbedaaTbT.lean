/- The types of the program that the proofs look at. Written by a program of the prover's own. -/
import Derived.Test.YtdkinmgpclbedaaChecked
import Derived.Test.YtdkinmgpclbedaaPvIns
import Derived.Shelf.Lay
import Derived.Ground.Names2Prog
import Derived.Test.YtdkinmgpclbedaaPvKit
namespace Go.Proofs.Ytdkinmgpclbedaa.Pv
open Go Go.Pv Go.Proofs
set_option maxRecDepth 100000
shelf_lay Lays2.n21 Nm2 21 at Try as laysIns
noncomputable def tt : List (Nat × TInfo) := [(3, ⟨.int .i64, 1, 8, (.int .i64), ⟨(.int .i64), 0⟩⟩),
  (4, ⟨.bool, 1, 1, .bool, ⟨.bool, false⟩⟩),
  (22, ⟨.sl 3, 1, 24, (.sl .frz (.int .i64)), ⟨(.sl .emp .unit), ()⟩⟩),
  (23, ⟨.ar 4 22, 4, 96, (.agg (.pair (.sl .frz (.int .i64)) (.pair (.sl .frz (.int .i64)) (.pair (.sl .frz (.int .i64)) (.sl .frz (.int .i64)))))), ⟨(.agg (.pair (.sl .emp .unit) (.pair (.sl .emp .unit) (.pair (.sl .emp .unit) (.sl .emp .unit))))), ((), ((), ((), ())))⟩⟩),
  (25, ⟨.st [(3, 0), (22, 1), (23, 2), (22, 6), (22, 7), (22, 8)], 9, 200, (.agg (.pair (.int .i64) (.pair (.sl .frz (.int .i64)) (.pair (.agg (.pair (.sl .frz (.int .i64)) (.pair (.sl .frz (.int .i64)) (.pair (.sl .frz (.int .i64)) (.sl .frz (.int .i64)))))) (.pair (.sl .frz (.int .i64)) (.pair (.sl .frz (.int .i64)) (.sl .frz (.int .i64)))))))), ⟨(.agg (.pair (.int .i64) (.pair (.sl .emp .unit) (.pair (.agg (.pair (.sl .emp .unit) (.pair (.sl .emp .unit) (.pair (.sl .emp .unit) (.sl .emp .unit))))) (.pair (.sl .emp .unit) (.pair (.sl .emp .unit) (.sl .emp .unit))))))), (0, ((), (((), ((), ((), ()))), ((), ((), ())))))⟩⟩),
  (26, ⟨.sl 56, 1, 24, (.sl .frz (.agg (.pair .bool (.pair (.int .i64) (.pair (.agg (.pair (.int .i64) (.pair (.int .i64) (.pair (.int .i64) (.int .i64))))) (.pair (.int .i64) (.int .i64))))))), ⟨(.sl .emp .unit), ()⟩⟩),
  (29, ⟨.st [(3, 0), (22, 1), (23, 2), (22, 6), (22, 7), (22, 8)], 9, 200, (.agg (.pair (.int .i64) (.pair (.sl .frz (.int .i64)) (.pair (.agg (.pair (.sl .frz (.int .i64)) (.pair (.sl .frz (.int .i64)) (.pair (.sl .frz (.int .i64)) (.sl .frz (.int .i64)))))) (.pair (.sl .frz (.int .i64)) (.pair (.sl .frz (.int .i64)) (.sl .frz (.int .i64)))))))), ⟨(.agg (.pair (.int .i64) (.pair (.sl .emp .unit) (.pair (.agg (.pair (.sl .emp .unit) (.pair (.sl .emp .unit) (.pair (.sl .emp .unit) (.sl .emp .unit))))) (.pair (.sl .emp .unit) (.pair (.sl .emp .unit) (.sl .emp .unit))))))), (0, ((), (((), ((), ((), ()))), ((), ((), ())))))⟩⟩),
  (33, ⟨.sl 47, 1, 24, (.sl .frz (.agg (.pair .bool (.pair (.int .i64) (.pair (.agg (.pair (.int .i64) (.pair (.int .i64) (.pair (.int .i64) (.int .i64))))) (.pair (.int .i64) (.int .i64))))))), ⟨(.sl .emp .unit), ()⟩⟩),
  (45, ⟨.st [(3, 0), (3, 1), (3, 2), (3, 3)], 4, 32, (.agg (.pair (.int .i64) (.pair (.int .i64) (.pair (.int .i64) (.int .i64))))), ⟨(.agg (.pair (.int .i64) (.pair (.int .i64) (.pair (.int .i64) (.int .i64))))), (0, (0, (0, 0)))⟩⟩),
  (47, ⟨.st [(4, 0), (3, 1), (45, 2), (3, 6), (3, 7)], 8, 64, (.agg (.pair .bool (.pair (.int .i64) (.pair (.agg (.pair (.int .i64) (.pair (.int .i64) (.pair (.int .i64) (.int .i64))))) (.pair (.int .i64) (.int .i64)))))), ⟨(.agg (.pair .bool (.pair (.int .i64) (.pair (.agg (.pair (.int .i64) (.pair (.int .i64) (.pair (.int .i64) (.int .i64))))) (.pair (.int .i64) (.int .i64)))))), (false, (0, ((0, (0, (0, 0))), (0, 0))))⟩⟩),
  (54, ⟨.st [(3, 0), (3, 1), (3, 2), (3, 3)], 4, 32, (.agg (.pair (.int .i64) (.pair (.int .i64) (.pair (.int .i64) (.int .i64))))), ⟨(.agg (.pair (.int .i64) (.pair (.int .i64) (.pair (.int .i64) (.int .i64))))), (0, (0, (0, 0)))⟩⟩),
  (56, ⟨.st [(4, 0), (3, 1), (54, 2), (3, 6), (3, 7)], 8, 64, (.agg (.pair .bool (.pair (.int .i64) (.pair (.agg (.pair (.int .i64) (.pair (.int .i64) (.pair (.int .i64) (.int .i64))))) (.pair (.int .i64) (.int .i64)))))), ⟨(.agg (.pair .bool (.pair (.int .i64) (.pair (.agg (.pair (.int .i64) (.pair (.int .i64) (.pair (.int .i64) (.int .i64))))) (.pair (.int .i64) (.int .i64)))))), (false, (0, ((0, (0, (0, 0))), (0, 0))))⟩⟩)]
theorem tt_ok : TTOk Try.prog tt := ChkAll.ok (l := tt) ⟨⟨by kernel_rfl, by kernel_rfl, by kernel_rfl, by kernel_rfl⟩,
  ⟨⟨by kernel_rfl, by kernel_rfl, by kernel_rfl, by kernel_rfl⟩,
  ⟨⟨by kernel_rfl, by kernel_rfl, by kernel_rfl, by kernel_rfl⟩,
  ⟨⟨by kernel_rfl, by kernel_rfl, by kernel_rfl, by kernel_rfl⟩,
  ⟨⟨by kernel_rfl, by kernel_rfl, by kernel_rfl, by kernel_rfl⟩,
  ⟨⟨by kernel_rfl, by kernel_rfl, by kernel_rfl, by kernel_rfl⟩,
  ⟨⟨by kernel_rfl, by kernel_rfl, by kernel_rfl, by kernel_rfl⟩,
  ⟨⟨by kernel_rfl, by kernel_rfl, by kernel_rfl, by kernel_rfl⟩,
  ⟨⟨by kernel_rfl, by kernel_rfl, by kernel_rfl, by kernel_rfl⟩,
  ⟨⟨by kernel_rfl, by kernel_rfl, by kernel_rfl, by kernel_rfl⟩,
  ⟨⟨by kernel_rfl, by kernel_rfl, by kernel_rfl, by kernel_rfl⟩,
  ⟨⟨by kernel_rfl, by kernel_rfl, by kernel_rfl, by kernel_rfl⟩,
  trivial⟩⟩⟩⟩⟩⟩⟩⟩⟩⟩⟩⟩
theorem mixed : Try.prog.follows .mixedOrders = true := by kernel_rfl
end Go.Proofs.Ytdkinmgpclbedaa.Pv
