import Derived.Test.YtdhdlnojoonhcabGreatChecked
import Derived.Test.YtdhdlnojoonhcabGreatPvKit
namespace Go.Proofs.YtdhdlnojoonhcabGreat.Pv
open Go Go.Pv Go.Proofs
set_option maxRecDepth 100000
noncomputable def tt : List (Nat × TInfo) := [(3, ⟨.int .i64, 1, 8, (.int .i64), ⟨(.int .i64), 0⟩⟩),
  (4, ⟨.bool, 1, 1, .bool, ⟨.bool, false⟩⟩),
  (5, ⟨.int .u8, 1, 1, (.int .u8), ⟨(.int .u8), 0⟩⟩),
  (22, ⟨.sl 57, 1, 24, (.sl .frz (.int .u64)), ⟨(.sl .emp .unit), ()⟩⟩),
  (28, ⟨.st [(3, 0), (3, 1), (3, 2), (3, 3)], 4, 32, (.agg (.pair (.int .i64) (.pair (.int .i64) (.pair (.int .i64) (.int .i64))))), ⟨(.agg (.pair (.int .i64) (.pair (.int .i64) (.pair (.int .i64) (.int .i64))))), (0, (0, (0, 0)))⟩⟩),
  (37, ⟨.sl 3, 1, 24, (.sl .frz (.int .i64)), ⟨(.sl .emp .unit), ()⟩⟩),
  (38, ⟨.ar 4 37, 4, 96, (.agg (.pair (.sl .frz (.int .i64)) (.pair (.sl .frz (.int .i64)) (.pair (.sl .frz (.int .i64)) (.sl .frz (.int .i64)))))), ⟨(.agg (.pair (.sl .emp .unit) (.pair (.sl .emp .unit) (.pair (.sl .emp .unit) (.sl .emp .unit))))), ((), ((), ((), ())))⟩⟩),
  (40, ⟨.st [(3, 0), (37, 1), (38, 2), (37, 6), (37, 7), (37, 8)], 9, 200, (.agg (.pair (.int .i64) (.pair (.sl .frz (.int .i64)) (.pair (.agg (.pair (.sl .frz (.int .i64)) (.pair (.sl .frz (.int .i64)) (.pair (.sl .frz (.int .i64)) (.sl .frz (.int .i64)))))) (.pair (.sl .frz (.int .i64)) (.pair (.sl .frz (.int .i64)) (.sl .frz (.int .i64)))))))), ⟨(.agg (.pair (.int .i64) (.pair (.sl .emp .unit) (.pair (.agg (.pair (.sl .emp .unit) (.pair (.sl .emp .unit) (.pair (.sl .emp .unit) (.sl .emp .unit))))) (.pair (.sl .emp .unit) (.pair (.sl .emp .unit) (.sl .emp .unit))))))), (0, ((), (((), ((), ((), ()))), ((), ((), ())))))⟩⟩),
  (43, ⟨.sl 117, 1, 24, (.sl .frz (.agg (.pair .bool (.pair (.int .i64) (.pair (.int .i64) (.pair .bool (.pair (.agg (.pair (.int .i64) (.pair (.int .i64) (.pair (.int .i64) (.int .i64))))) (.pair (.int .i64) (.pair (.int .i64) (.pair (.int .i64) (.pair (.int .i64) (.pair (.int .i64) (.pair (.int .i64) (.pair (.int .i64) (.pair .bool (.pair (.int .i64) (.pair (.int .u64) (.pair (.int .u64) (.pair (.int .u64) (.pair (.int .u64) (.pair (.sl .frz (.int .u64)) (.pair (.sl .frz (.int .u64)) (.pair (.int .i64) (.pair (.int .i64) (.int .i64))))))))))))))))))))))))), ⟨(.sl .emp .unit), ()⟩⟩),
  (45, ⟨.st [(22, 0), (43, 1)], 2, 48, (.agg (.pair (.sl .frz (.int .u64)) (.sl .frz (.agg (.pair .bool (.pair (.int .i64) (.pair (.int .i64) (.pair .bool (.pair (.agg (.pair (.int .i64) (.pair (.int .i64) (.pair (.int .i64) (.int .i64))))) (.pair (.int .i64) (.pair (.int .i64) (.pair (.int .i64) (.pair (.int .i64) (.pair (.int .i64) (.pair (.int .i64) (.pair (.int .i64) (.pair .bool (.pair (.int .i64) (.pair (.int .u64) (.pair (.int .u64) (.pair (.int .u64) (.pair (.int .u64) (.pair (.sl .frz (.int .u64)) (.pair (.sl .frz (.int .u64)) (.pair (.int .i64) (.pair (.int .i64) (.int .i64))))))))))))))))))))))))))), ⟨(.agg (.pair (.sl .emp .unit) (.sl .emp .unit))), ((), ())⟩⟩),
  (52, ⟨.sl 5, 1, 24, (.sl .frz (.int .u8)), ⟨(.sl .emp .unit), ()⟩⟩),
  (57, ⟨.int .u64, 1, 8, (.int .u64), ⟨(.int .u64), 0⟩⟩),
  (68, ⟨.st [(3, 0), (3, 1), (3, 2)], 3, 24, (.agg (.pair (.int .i64) (.pair (.int .i64) (.int .i64)))), ⟨(.agg (.pair (.int .i64) (.pair (.int .i64) (.int .i64)))), (0, (0, 0))⟩⟩),
  (103, ⟨.st [(3, 0), (3, 1), (3, 2), (3, 3), (3, 4), (3, 5)], 6, 48, (.agg (.pair (.int .i64) (.pair (.int .i64) (.pair (.int .i64) (.pair (.int .i64) (.pair (.int .i64) (.int .i64))))))), ⟨(.agg (.pair (.int .i64) (.pair (.int .i64) (.pair (.int .i64) (.pair (.int .i64) (.pair (.int .i64) (.int .i64))))))), (0, (0, (0, (0, (0, 0)))))⟩⟩),
  (117, ⟨.st [(4, 0), (3, 1), (3, 2), (4, 3), (28, 4), (3, 8), (3, 9), (3, 10), (3, 11), (3, 12), (3, 13), (3, 14), (4, 15), (3, 16), (57, 17), (57, 18), (57, 19), (57, 20), (22, 21), (22, 22), (3, 23), (3, 24), (3, 25)], 26, 240, (.agg (.pair .bool (.pair (.int .i64) (.pair (.int .i64) (.pair .bool (.pair (.agg (.pair (.int .i64) (.pair (.int .i64) (.pair (.int .i64) (.int .i64))))) (.pair (.int .i64) (.pair (.int .i64) (.pair (.int .i64) (.pair (.int .i64) (.pair (.int .i64) (.pair (.int .i64) (.pair (.int .i64) (.pair .bool (.pair (.int .i64) (.pair (.int .u64) (.pair (.int .u64) (.pair (.int .u64) (.pair (.int .u64) (.pair (.sl .frz (.int .u64)) (.pair (.sl .frz (.int .u64)) (.pair (.int .i64) (.pair (.int .i64) (.int .i64)))))))))))))))))))))))), ⟨(.agg (.pair .bool (.pair (.int .i64) (.pair (.int .i64) (.pair .bool (.pair (.agg (.pair (.int .i64) (.pair (.int .i64) (.pair (.int .i64) (.int .i64))))) (.pair (.int .i64) (.pair (.int .i64) (.pair (.int .i64) (.pair (.int .i64) (.pair (.int .i64) (.pair (.int .i64) (.pair (.int .i64) (.pair .bool (.pair (.int .i64) (.pair (.int .u64) (.pair (.int .u64) (.pair (.int .u64) (.pair (.int .u64) (.pair (.sl .emp .unit) (.pair (.sl .emp .unit) (.pair (.int .i64) (.pair (.int .i64) (.int .i64)))))))))))))))))))))))), (false, (0, (0, (false, ((0, (0, (0, 0))), (0, (0, (0, (0, (0, (0, (0, (false, (0, (0, (0, (0, (0, ((), ((), (0, (0, 0))))))))))))))))))))))⟩⟩),
  (124, ⟨.st [(52, 0), (3, 1)], 2, 32, (.agg (.pair (.sl .frz (.int .u8)) (.int .i64))), ⟨(.agg (.pair (.sl .emp .unit) (.int .i64))), ((), 0)⟩⟩),
  (138, ⟨.sl 103, 1, 24, (.sl .frz (.agg (.pair (.int .i64) (.pair (.int .i64) (.pair (.int .i64) (.pair (.int .i64) (.pair (.int .i64) (.int .i64)))))))), ⟨(.sl .emp .unit), ()⟩⟩),
  (175, ⟨.st [(22, 0), (68, 1), (117, 4), (3, 30)], 31, 296, (.agg (.pair (.sl .frz (.int .u64)) (.pair (.agg (.pair (.int .i64) (.pair (.int .i64) (.int .i64)))) (.pair (.agg (.pair .bool (.pair (.int .i64) (.pair (.int .i64) (.pair .bool (.pair (.agg (.pair (.int .i64) (.pair (.int .i64) (.pair (.int .i64) (.int .i64))))) (.pair (.int .i64) (.pair (.int .i64) (.pair (.int .i64) (.pair (.int .i64) (.pair (.int .i64) (.pair (.int .i64) (.pair (.int .i64) (.pair .bool (.pair (.int .i64) (.pair (.int .u64) (.pair (.int .u64) (.pair (.int .u64) (.pair (.int .u64) (.pair (.sl .frz (.int .u64)) (.pair (.sl .frz (.int .u64)) (.pair (.int .i64) (.pair (.int .i64) (.int .i64)))))))))))))))))))))))) (.int .i64))))), ⟨(.agg (.pair (.sl .emp .unit) (.pair (.agg (.pair (.int .i64) (.pair (.int .i64) (.int .i64)))) (.pair (.agg (.pair .bool (.pair (.int .i64) (.pair (.int .i64) (.pair .bool (.pair (.agg (.pair (.int .i64) (.pair (.int .i64) (.pair (.int .i64) (.int .i64))))) (.pair (.int .i64) (.pair (.int .i64) (.pair (.int .i64) (.pair (.int .i64) (.pair (.int .i64) (.pair (.int .i64) (.pair (.int .i64) (.pair .bool (.pair (.int .i64) (.pair (.int .u64) (.pair (.int .u64) (.pair (.int .u64) (.pair (.int .u64) (.pair (.sl .emp .unit) (.pair (.sl .emp .unit) (.pair (.int .i64) (.pair (.int .i64) (.int .i64)))))))))))))))))))))))) (.int .i64))))), ((), ((0, (0, 0)), ((false, (0, (0, (false, ((0, (0, (0, 0))), (0, (0, (0, (0, (0, (0, (0, (false, (0, (0, (0, (0, (0, ((), ((), (0, (0, 0)))))))))))))))))))))), 0)))⟩⟩)]
theorem tt_ok : TTOk Tryz.prog tt := ChkAll.ok (l := tt) ⟨⟨by kernel_rfl, by kernel_rfl, by kernel_rfl, by kernel_rfl⟩,
  ⟨⟨by kernel_rfl, by kernel_rfl, by kernel_rfl, by kernel_rfl⟩,
  ⟨⟨by kernel_rfl, by kernel_rfl, by kernel_rfl, by kernel_rfl⟩,
  ⟨⟨by kernel_rfl, by kernel_rfl, by kernel_rfl, by kernel_rfl⟩,
  ⟨⟨by kernel_rfl, by kernel_rfl, by kernel_rfl, by kernel_rfl⟩,
  ⟨⟨by kernel_rfl, by kernel_rfl, by kernel_rfl, by kernel_rfl⟩,
  ⟨⟨by kernel_rfl, by kernel_rfl, by kernel_rfl, by kernel_rfl⟩,
  ⟨⟨by kernel_rfl, by kernel_rfl, by kernel_rfl, by kernel_rfl⟩,
  ⟨⟨by kernel_rfl, by kernel_rfl, by kernel_rfl, by kernel_rfl⟩,
  ⟨⟨by kernel_rfl, by kernel_rfl, by kernel_rfl, by kernel_rfl⟩,
  ⟨⟨by kernel_rfl, by kernel_rfl, by kernel_rfl, by kernel_rfl⟩,
  ⟨⟨by kernel_rfl, by kernel_rfl, by kernel_rfl, by kernel_rfl⟩,
  ⟨⟨by kernel_rfl, by kernel_rfl, by kernel_rfl, by kernel_rfl⟩,
  ⟨⟨by kernel_rfl, by kernel_rfl, by kernel_rfl, by kernel_rfl⟩,
  ⟨⟨by kernel_rfl, by kernel_rfl, by kernel_rfl, by kernel_rfl⟩,
  ⟨⟨by kernel_rfl, by kernel_rfl, by kernel_rfl, by kernel_rfl⟩,
  ⟨⟨by kernel_rfl, by kernel_rfl, by kernel_rfl, by kernel_rfl⟩,
  ⟨⟨by kernel_rfl, by kernel_rfl, by kernel_rfl, by kernel_rfl⟩,
  trivial⟩⟩⟩⟩⟩⟩⟩⟩⟩⟩⟩⟩⟩⟩⟩⟩⟩⟩
theorem mixed : Tryz.prog.follows .mixedOrders = true := by kernel_rfl
theorem Ob {α β : Type _} (a : α) (f : α → Option β) : (some a).bind f = f a := rfl
end Go.Proofs.YtdhdlnojoonhcabGreat.Pv
