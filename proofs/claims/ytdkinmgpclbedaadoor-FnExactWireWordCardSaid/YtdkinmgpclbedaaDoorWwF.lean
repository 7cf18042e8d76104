/- The functions as plain Lean, and the proofs that the program computes them. Written by a program of the prover's own. -/
import Derived.Test.YtdkinmgpclbedaaDoorWwT
namespace Go.Proofs.YtdkinmgpclbedaaDoor.Pv
open Go Go.Pv Go.Proofs
set_option maxRecDepth 100000
set_option linter.unusedVariables false
noncomputable def spec_l16Hex (N : Nat) (a0 : Int) : Option (Int × Unit) := (bif (bif decide (0 ≤ Int.tmod a0 16) then decide (Int.tmod a0 16 < ((ByteArray.mk #[48, 49, 50, 51, 52, 53, 54, 55, 56, 57, 97, 98, 99, 100, 101, 102]).size : Int)) else false) then some (byteAt (ByteArray.mk #[48, 49, 50, 51, 52, 53, 54, 55, 56, 57, 97, 98, 99, 100, 101, 102]) (Int.tmod a0 16).toNat, ()) else none)
noncomputable def C_spec_l16Hex (N : Nat) : Cx := ⟨tt, [], [], [], []⟩
noncomputable def E_spec_l16Hex (N : Nat) : Ent := { f := 60, par := (.int .u64), sto := [], res := (.int .u8), osto := [], fn := fun (x : Int) (y : Unit) => spec_l16Hex N x }
noncomputable def L_spec_l16Hex (N : Nat) : List (LpE ((E_spec_l16Hex N).res.D × SD (E_spec_l16Hex N).osto)) := []
theorem ok_spec_l16Hex (N : Nat) : EntOk Tryd.prog (E_spec_l16Hex N) := ent_of (C := C_spec_l16Hex N) ⟨tt_ok, tab_nil, (fun t h => by simp [C_spec_l16Hex] at h)⟩ mixed (fn := Tryd.f60) Tryd.func60 (by kernel_rfl) (by kernel_rfl) (by kernel_rfl) (by kernel_rfl) (by kernel_rfl) (L_spec_l16Hex N) N (fun x y => by kernel_rfl) trivial
noncomputable def spec_WireWord.l0 (N : Nat) : Nat → Int → ByteArray → Option (ByteArray × Unit)
  | 0, _, _ => none
  | k + 1, v0, v3 => (bif decide (v0 > 15) then (spec_l16Hex N (IntKind.u64.wrap (Int.tdiv v0 16))).bind fun u2 => (bif inBytes ([u2.1]) then (bif decide ((((mkBytes ([u2.1])).size + v3.size : Nat) : Int) > IntKind.i64.max) then none else spec_WireWord.l0 N k (IntKind.u64.wrap (Int.tdiv v0 16)) ((mkBytes ([u2.1])) ++ v3)) else none) else some (v3, ()))
noncomputable def spec_WireWord (N : Nat) (a0 : Int) : Option (ByteArray × Unit) := (spec_l16Hex N a0).bind fun u1 => (bif inBytes ([u1.1]) then spec_WireWord.l0 N N a0 (mkBytes ([u1.1])) else none)
noncomputable def C_spec_WireWord (N : Nat) : Cx := ⟨tt, [E_spec_l16Hex N], [], [], []⟩
noncomputable def E_spec_WireWord (N : Nat) : Ent := { f := 23, par := (.int .u64), sto := [], res := .str, osto := [], fn := fun (x : Int) (y : Unit) => spec_WireWord N x }
noncomputable def L_spec_WireWord (N : Nat) : List (LpE ((E_spec_WireWord N).res.D × SD (E_spec_WireWord N).osto)) := [⟨[0, 0, 1, 1], ⟨[(0, (.int .u64)), (3, .str)], [], 64⟩, fun k (x : Int × ByteArray) (y : Unit) => spec_WireWord.l0 N k x.1 x.2⟩]
theorem ok_spec_WireWord (N : Nat) : EntOk Tryd.prog (E_spec_WireWord N) := ent_of (C := C_spec_WireWord N) ⟨tt_ok, (tab_cons (ok_spec_l16Hex N) tab_nil), (fun t h => by simp [C_spec_WireWord] at h)⟩ mixed (fn := Tryd.f23) Tryd.func23 (by kernel_rfl) (by kernel_rfl) (by kernel_rfl) (by kernel_rfl) (by kernel_rfl) (L_spec_WireWord N) N (fun x y => by kernel_rfl) ⟨⟨by kernel_rfl, fun _ _ => rfl, fun k x y => by kernel_rfl⟩, trivial⟩
end Go.Proofs.YtdkinmgpclbedaaDoor.Pv
