import Derived.Test.YtdhdlnojoonhcaaGreatChecked
import Derived.Test.YtdhdlnojoonhcaaGreatPvKit
namespace Go.Proofs.YtdhdlnojoonhcaaGreat.Pv
open Go Go.Pv Go.Proofs
set_option maxRecDepth 100000
noncomputable def tt : List (Nat × TInfo) := [(3, ⟨.int .i64, 1, 8, (.int .i64), ⟨(.int .i64), 0⟩⟩),
  (4, ⟨.bool, 1, 1, .bool, ⟨.bool, false⟩⟩),
  (5, ⟨.int .u8, 1, 1, (.int .u8), ⟨(.int .u8), 0⟩⟩),
  (22, ⟨.sl 5, 1, 24, (.sl .frz (.int .u8)), ⟨(.sl .emp .unit), ()⟩⟩),
  (23, ⟨.sl 34, 1, 24, (.sl .frz (.int .u64)), ⟨(.sl .emp .unit), ()⟩⟩),
  (29, ⟨.st [(3, 0), (3, 1), (3, 2)], 3, 24, (.agg (.pair (.int .i64) (.pair (.int .i64) (.int .i64)))), ⟨(.agg (.pair (.int .i64) (.pair (.int .i64) (.int .i64)))), (0, (0, 0))⟩⟩),
  (34, ⟨.int .u64, 1, 8, (.int .u64), ⟨(.int .u64), 0⟩⟩),
  (38, ⟨.sl 3, 1, 24, (.sl .frz (.int .i64)), ⟨(.sl .emp .unit), ()⟩⟩),
  (48, ⟨.sl 84, 1, 24, (.sl .frz (.agg (.pair .bool (.pair (.int .i64) (.pair (.int .i64) (.pair .bool (.pair (.agg (.pair (.int .i64) (.pair (.int .i64) (.pair (.int .i64) (.int .i64))))) (.pair (.int .i64) (.pair (.int .i64) (.pair (.int .i64) (.pair (.int .i64) (.pair (.int .i64) (.pair (.int .i64) (.pair (.int .i64) (.pair .bool (.pair (.int .i64) (.pair (.int .u64) (.pair (.int .u64) (.pair (.int .u64) (.pair (.int .u64) (.pair (.sl .frz (.int .u64)) (.pair (.sl .frz (.int .u64)) (.pair (.int .i64) (.pair (.int .i64) (.int .i64))))))))))))))))))))))))), ⟨(.sl .emp .unit), ()⟩⟩),
  (50, ⟨.st [(23, 0), (48, 1)], 2, 48, (.agg (.pair (.sl .frz (.int .u64)) (.sl .frz (.agg (.pair .bool (.pair (.int .i64) (.pair (.int .i64) (.pair .bool (.pair (.agg (.pair (.int .i64) (.pair (.int .i64) (.pair (.int .i64) (.int .i64))))) (.pair (.int .i64) (.pair (.int .i64) (.pair (.int .i64) (.pair (.int .i64) (.pair (.int .i64) (.pair (.int .i64) (.pair (.int .i64) (.pair .bool (.pair (.int .i64) (.pair (.int .u64) (.pair (.int .u64) (.pair (.int .u64) (.pair (.int .u64) (.pair (.sl .frz (.int .u64)) (.pair (.sl .frz (.int .u64)) (.pair (.int .i64) (.pair (.int .i64) (.int .i64))))))))))))))))))))))))))), ⟨(.agg (.pair (.sl .emp .unit) (.sl .emp .unit))), ((), ())⟩⟩),
  (52, ⟨.st [(3, 0), (3, 1), (3, 2), (3, 3)], 4, 32, (.agg (.pair (.int .i64) (.pair (.int .i64) (.pair (.int .i64) (.int .i64))))), ⟨(.agg (.pair (.int .i64) (.pair (.int .i64) (.pair (.int .i64) (.int .i64))))), (0, (0, (0, 0)))⟩⟩),
  (58, ⟨.ar 4 38, 4, 96, (.agg (.pair (.sl .frz (.int .i64)) (.pair (.sl .frz (.int .i64)) (.pair (.sl .frz (.int .i64)) (.sl .frz (.int .i64)))))), ⟨(.agg (.pair (.sl .emp .unit) (.pair (.sl .emp .unit) (.pair (.sl .emp .unit) (.sl .emp .unit))))), ((), ((), ((), ())))⟩⟩),
  (60, ⟨.st [(3, 0), (38, 1), (58, 2), (38, 6), (38, 7), (38, 8)], 9, 200, (.agg (.pair (.int .i64) (.pair (.sl .frz (.int .i64)) (.pair (.agg (.pair (.sl .frz (.int .i64)) (.pair (.sl .frz (.int .i64)) (.pair (.sl .frz (.int .i64)) (.sl .frz (.int .i64)))))) (.pair (.sl .frz (.int .i64)) (.pair (.sl .frz (.int .i64)) (.sl .frz (.int .i64)))))))), ⟨(.agg (.pair (.int .i64) (.pair (.sl .emp .unit) (.pair (.agg (.pair (.sl .emp .unit) (.pair (.sl .emp .unit) (.pair (.sl .emp .unit) (.sl .emp .unit))))) (.pair (.sl .emp .unit) (.pair (.sl .emp .unit) (.sl .emp .unit))))))), (0, ((), (((), ((), ((), ()))), ((), ((), ())))))⟩⟩),
  (84, ⟨.st [(4, 0), (3, 1), (3, 2), (4, 3), (52, 4), (3, 8), (3, 9), (3, 10), (3, 11), (3, 12), (3, 13), (3, 14), (4, 15), (3, 16), (34, 17), (34, 18), (34, 19), (34, 20), (23, 21), (23, 22), (3, 23), (3, 24), (3, 25)], 26, 240, (.agg (.pair .bool (.pair (.int .i64) (.pair (.int .i64) (.pair .bool (.pair (.agg (.pair (.int .i64) (.pair (.int .i64) (.pair (.int .i64) (.int .i64))))) (.pair (.int .i64) (.pair (.int .i64) (.pair (.int .i64) (.pair (.int .i64) (.pair (.int .i64) (.pair (.int .i64) (.pair (.int .i64) (.pair .bool (.pair (.int .i64) (.pair (.int .u64) (.pair (.int .u64) (.pair (.int .u64) (.pair (.int .u64) (.pair (.sl .frz (.int .u64)) (.pair (.sl .frz (.int .u64)) (.pair (.int .i64) (.pair (.int .i64) (.int .i64)))))))))))))))))))))))), ⟨(.agg (.pair .bool (.pair (.int .i64) (.pair (.int .i64) (.pair .bool (.pair (.agg (.pair (.int .i64) (.pair (.int .i64) (.pair (.int .i64) (.int .i64))))) (.pair (.int .i64) (.pair (.int .i64) (.pair (.int .i64) (.pair (.int .i64) (.pair (.int .i64) (.pair (.int .i64) (.pair (.int .i64) (.pair .bool (.pair (.int .i64) (.pair (.int .u64) (.pair (.int .u64) (.pair (.int .u64) (.pair (.int .u64) (.pair (.sl .emp .unit) (.pair (.sl .emp .unit) (.pair (.int .i64) (.pair (.int .i64) (.int .i64)))))))))))))))))))))))), (false, (0, (0, (false, ((0, (0, (0, 0))), (0, (0, (0, (0, (0, (0, (0, (false, (0, (0, (0, (0, (0, ((), ((), (0, (0, 0))))))))))))))))))))))⟩⟩),
  (107, ⟨.st [(22, 0), (3, 1)], 2, 32, (.agg (.pair (.sl .frz (.int .u8)) (.int .i64))), ⟨(.agg (.pair (.sl .emp .unit) (.int .i64))), ((), 0)⟩⟩),
  (134, ⟨.sl 147, 1, 24, (.sl .frz (.agg (.pair (.int .i64) (.pair (.int .i64) (.pair (.int .i64) (.pair (.int .i64) (.pair (.int .i64) (.int .i64)))))))), ⟨(.sl .emp .unit), ()⟩⟩),
  (147, ⟨.st [(3, 0), (3, 1), (3, 2), (3, 3), (3, 4), (3, 5)], 6, 48, (.agg (.pair (.int .i64) (.pair (.int .i64) (.pair (.int .i64) (.pair (.int .i64) (.pair (.int .i64) (.int .i64))))))), ⟨(.agg (.pair (.int .i64) (.pair (.int .i64) (.pair (.int .i64) (.pair (.int .i64) (.pair (.int .i64) (.int .i64))))))), (0, (0, (0, (0, (0, 0)))))⟩⟩),
  (184, ⟨.st [(23, 0), (29, 1), (84, 4), (3, 30)], 31, 296, (.agg (.pair (.sl .frz (.int .u64)) (.pair (.agg (.pair (.int .i64) (.pair (.int .i64) (.int .i64)))) (.pair (.agg (.pair .bool (.pair (.int .i64) (.pair (.int .i64) (.pair .bool (.pair (.agg (.pair (.int .i64) (.pair (.int .i64) (.pair (.int .i64) (.int .i64))))) (.pair (.int .i64) (.pair (.int .i64) (.pair (.int .i64) (.pair (.int .i64) (.pair (.int .i64) (.pair (.int .i64) (.pair (.int .i64) (.pair .bool (.pair (.int .i64) (.pair (.int .u64) (.pair (.int .u64) (.pair (.int .u64) (.pair (.int .u64) (.pair (.sl .frz (.int .u64)) (.pair (.sl .frz (.int .u64)) (.pair (.int .i64) (.pair (.int .i64) (.int .i64)))))))))))))))))))))))) (.int .i64))))), ⟨(.agg (.pair (.sl .emp .unit) (.pair (.agg (.pair (.int .i64) (.pair (.int .i64) (.int .i64)))) (.pair (.agg (.pair .bool (.pair (.int .i64) (.pair (.int .i64) (.pair .bool (.pair (.agg (.pair (.int .i64) (.pair (.int .i64) (.pair (.int .i64) (.int .i64))))) (.pair (.int .i64) (.pair (.int .i64) (.pair (.int .i64) (.pair (.int .i64) (.pair (.int .i64) (.pair (.int .i64) (.pair (.int .i64) (.pair .bool (.pair (.int .i64) (.pair (.int .u64) (.pair (.int .u64) (.pair (.int .u64) (.pair (.int .u64) (.pair (.sl .emp .unit) (.pair (.sl .emp .unit) (.pair (.int .i64) (.pair (.int .i64) (.int .i64)))))))))))))))))))))))) (.int .i64))))), ((), ((0, (0, 0)), ((false, (0, (0, (false, ((0, (0, (0, 0))), (0, (0, (0, (0, (0, (0, (0, (false, (0, (0, (0, (0, (0, ((), ((), (0, (0, 0)))))))))))))))))))))), 0)))⟩⟩)]
theorem tt_ok : TTOk Tryz.prog tt := ChkAll.ok (l := tt) ⟨⟨by kernel_rfl, by kernel_rfl, by kernel_rfl, by kernel_rfl⟩,
  ⟨⟨by kernel_rfl, by kernel_rfl, by kernel_rfl, by kernel_rfl⟩,
  ⟨⟨by kernel_rfl, by kernel_rfl, by kernel_rfl, by kernel_rfl⟩,
  ⟨⟨by kernel_rfl, by kernel_rfl, by kernel_rfl, by kernel_rfl⟩,
  ⟨⟨by kernel_rfl, by kernel_rfl, by kernel_rfl, by kernel_rfl⟩,
  ⟨⟨by kernel_rfl, by kernel_rfl, by kernel_rfl, by kernel_rfl⟩,
  ⟨⟨by kernel_rfl, by kernel_rfl, by kernel_rfl, by kernel_rfl⟩,
  ⟨⟨by kernel_rfl, by kernel_rfl, by kernel_rfl, by kernel_rfl⟩,
  ⟨⟨by kernel_rfl, by kernel_rfl, by kernel_rfl, by kernel_rfl⟩,
  ⟨⟨by kernel_rfl, by kernel_rfl, by kernel_rfl, by kernel_rfl⟩,
  ⟨⟨by kernel_rfl, by kernel_rfl, by kernel_rfl, by kernel_rfl⟩,
  ⟨⟨by kernel_rfl, by kernel_rfl, by kernel_rfl, by kernel_rfl⟩,
  ⟨⟨by kernel_rfl, by kernel_rfl, by kernel_rfl, by kernel_rfl⟩,
  ⟨⟨by kernel_rfl, by kernel_rfl, by kernel_rfl, by kernel_rfl⟩,
  ⟨⟨by kernel_rfl, by kernel_rfl, by kernel_rfl, by kernel_rfl⟩,
  ⟨⟨by kernel_rfl, by kernel_rfl, by kernel_rfl, by kernel_rfl⟩,
  ⟨⟨by kernel_rfl, by kernel_rfl, by kernel_rfl, by kernel_rfl⟩,
  ⟨⟨by kernel_rfl, by kernel_rfl, by kernel_rfl, by kernel_rfl⟩,
  trivial⟩⟩⟩⟩⟩⟩⟩⟩⟩⟩⟩⟩⟩⟩⟩⟩⟩⟩
theorem mixed : Tryz.prog.follows .mixedOrders = true := by kernel_rfl
theorem Ob {α β : Type _} (a : α) (f : α → Option β) : (some a).bind f = f a := rfl
end Go.Proofs.YtdhdlnojoonhcaaGreat.Pv
