import Derived.Test.YtdhdlnojoonhcaaGreatZ5Fb
namespace Go.Proofs.YtdhdlnojoonhcaaGreat.Pv
open Go Go.Pv Go.Proofs
noncomputable section
set_option maxRecDepth 100000
set_option linter.unusedVariables false
def laws_eqGuestS.l0 (N : Nat) : Nat → (List (TG)) → (List (TG)) → Int → Option (Bool × Unit)
  | 0, _, _, _ => none
  | k + 1, v0, v1, v5 => (bif decide (v5 < (v0.length : Int)) then (bif (bif decide (0 ≤ v5) then decide (v5 < (v0.length : Int)) else false) then (bif (bif decide (0 ≤ v5) then decide (v5 < (v1.length : Int)) else false) then (laws_eqGuest N (v0.getD v5.toNat (false, 0, 0, false, (0, 0, 0, 0), 0, 0, 0, 0, 0, 0, 0, false, 0, 0, 0, 0, 0, ([] : LI), ([] : LI), 0, 0, 0)) (v1.getD v5.toNat (false, 0, 0, false, (0, 0, 0, 0), 0, 0, 0, 0, 0, 0, 0, false, 0, 0, 0, 0, 0, ([] : LI), ([] : LI), 0, 0, 0))).bind fun u1 => (bif (!u1.1) then some (false, ()) else laws_eqGuestS.l0 N k v0 v1 (IntKind.i64.wrap (v5 + 1))) else none) else none) else some (true, ()))
def laws_eqGuestS (N : Nat) (a0 : List (TG)) (a1 : List (TG)) : Option (Bool × Unit) := (bif ((a0.length : Int) != (a1.length : Int)) then some (false, ()) else laws_eqGuestS.l0 N N a0 a1 0)
def C_laws_eqGuestS (N : Nat) : Cx := ⟨tt, [E_laws_eqGuest N], [], [], []⟩
def E_laws_eqGuestS (N : Nat) : Ent := { f := 65, par := (.pair (.sl .bor G6) (.sl .bor G6)), sto := [], res := .bool, osto := [], fn := fun (x : (List (TG)) × List (TG)) (y : Unit) => laws_eqGuestS N x.1 x.2 }
def L_laws_eqGuestS (N : Nat) : List (LpE ((E_laws_eqGuestS N).res.D × SD (E_laws_eqGuestS N).osto)) := [⟨[0, 1, 0, 1, 1], ⟨[(0, (.sl .bor G6)), (1, (.sl .bor G6)), (5, I6)], [], 64⟩, fun k (x : (List (TG)) × (List (TG)) × Int) (y : Unit) => laws_eqGuestS.l0 N k x.1 x.2.1 x.2.2⟩]
theorem ok_laws_eqGuestS (N : Nat) : EntOk Tryz.prog (E_laws_eqGuestS N) := ent_of (C := C_laws_eqGuestS N) ⟨tt_ok, (tab_cons (ok_laws_eqGuest N) tab_nil), (fun t h => by simp [C_laws_eqGuestS] at h)⟩ mixed (fn := Tryz.f65) Tryz.func65 (by kernel_rfl) (by kernel_rfl) (by kernel_rfl) (by kernel_rfl) (by kernel_rfl) (L_laws_eqGuestS N) N (fun x y => by kernel_rfl) ⟨⟨by kernel_rfl, fun _ _ => rfl, fun k x y => by kernel_rfl⟩, trivial⟩
def laws_eqWorld (N : Nat) (a0 : LI × List (TG)) (a1 : LI × List (TG)) : Option (Bool × Unit) := (laws_eqUint64S N a0.1 a1.1).bind fun u1 => (bif (!u1.1) then some (false, ()) else (laws_eqGuestS N a0.2 a1.2).bind fun u2 => (bif (!u2.1) then some (false, ()) else some (true, ())))
def C_laws_eqWorld (N : Nat) : Cx := ⟨tt, [E_laws_eqUint64S N, E_laws_eqGuestS N], [], [], []⟩
def E_laws_eqWorld (N : Nat) : Ent := { f := 27, par := (.pair (.agg (.pair (.sl .bor U6) (.sl .bor G6))) (.agg (.pair (.sl .bor U6) (.sl .bor G6)))), sto := [], res := .bool, osto := [], fn := fun (x : (LI × List (TG)) × LI × List (TG)) (y : Unit) => laws_eqWorld N x.1 x.2 }
def L_laws_eqWorld (N : Nat) : List (LpE ((E_laws_eqWorld N).res.D × SD (E_laws_eqWorld N).osto)) := []
theorem ok_laws_eqWorld (N : Nat) : EntOk Tryz.prog (E_laws_eqWorld N) := ent_of (C := C_laws_eqWorld N) ⟨tt_ok, (tab_cons (ok_laws_eqUint64S N) (tab_cons (ok_laws_eqGuestS N) tab_nil)), (fun t h => by simp [C_laws_eqWorld] at h)⟩ mixed (fn := Tryz.f27) Tryz.func27 (by kernel_rfl) (by kernel_rfl) (by kernel_rfl) (by kernel_rfl) (by kernel_rfl) (L_laws_eqWorld N) N (fun x y => by kernel_rfl) trivial
def laws_FnExactCostSteps (N : Nat) (a0 : LI × List (TG)) (a1 : Int) (a2 : Int × Int × Int × Int) : Option (Bool × Unit) := (laws_szWorld N a0 1048576).bind fun u1 => (bif decide (u1.1 < 0) then some (true, ()) else (laws_toWorld N a0).bind fun u2 => (laws_toBookOp N a2).bind fun u3 => (spec_CostSteps N u2.2 a1 u3.1).bind fun u4 => (laws_toWorld N a0).bind fun u5 => (laws_toBookOp N a2).bind fun u6 => (impl_CostSteps N u5.2 a1 u6.1).bind fun u7 => (bif (u7.1 != u4.1) then some (false, ()) else (laws_toWorld N a0).bind fun u8 => (laws_eqWorld N u5.2 u8.2).bind fun u9 => (bif (!u9.1) then some (false, ()) else some (true, ()))))
def C_laws_FnExactCostSteps (N : Nat) : Cx := ⟨tt, [E_laws_szWorld N, E_laws_toWorld N, E_laws_toBookOp N, E_laws_eqWorld N, E_spec_CostSteps N, E_impl_CostSteps N], [], [], []⟩
def E_laws_FnExactCostSteps (N : Nat) : Ent := { f := 5, par := (.pair (.agg (.pair (.sl .frz U6) (.sl .frz G6))) (.pair I6 O6)), sto := [], res := .bool, osto := [], fn := fun (x : (LI × List (TG)) × Int × Int × Int × Int × Int) (y : Unit) => laws_FnExactCostSteps N x.1 x.2.1 x.2.2 }
def L_laws_FnExactCostSteps (N : Nat) : List (LpE ((E_laws_FnExactCostSteps N).res.D × SD (E_laws_FnExactCostSteps N).osto)) := []
theorem ok_laws_FnExactCostSteps (N : Nat) : EntOk Tryz.prog (E_laws_FnExactCostSteps N) := ent_of (C := C_laws_FnExactCostSteps N) ⟨tt_ok, (tab_cons (ok_laws_szWorld N) (tab_cons (ok_laws_toWorld N) (tab_cons (ok_laws_toBookOp N) (tab_cons (ok_laws_eqWorld N) (tab_cons (ok_spec_CostSteps N) (tab_cons (ok_impl_CostSteps N) tab_nil)))))), (fun t h => by simp [C_laws_FnExactCostSteps] at h)⟩ mixed (fn := Tryz.f5) Tryz.func5 (by kernel_rfl) (by kernel_rfl) (by kernel_rfl) (by kernel_rfl) (by kernel_rfl) (L_laws_FnExactCostSteps N) N (fun x y => by kernel_rfl) trivial
end
end Go.Proofs.YtdhdlnojoonhcaaGreat.Pv
