/- The functions as plain Lean, and the proofs that the program computes them. Written by a program of the prover's own. -/
import Derived.Test.YtdkinmgpclbedaaDoorTqF
namespace Go.Proofs.YtdkinmgpclbedaaDoor.Pv
open Go Go.Pv Go.Proofs
set_option maxRecDepth 100000
set_option linter.unusedVariables false
noncomputable def spec_l3Reap (N : Nat) (a0 : Int × Unit × (Unit × Unit × Unit × Unit) × Unit × Unit × Unit) (a1 : Int) (s0 : List Int) (s1 : List Int) (s2 : List Int) (s3 : List Int) (s4 : List Int) (s5 : List Int) (s6 : List Int) (s7 : List Int) : Option (((Int × Unit × (Unit × Unit × Unit × Unit) × Unit × Unit × Unit) × Int × Int) × ((List Int) × (List Int) × (List Int) × (List Int) × (List Int) × (List Int) × (List Int) × (List Int))) := (bif decide (a1 < 0) then some (((a0.1, (), ((), (), (), ()), (), (), ()), 9, 0), (s0, s1, s2, s3, s4, s5, s6, s7)) else (bif decide (a1 ≥ a0.1) then some (((a0.1, (), ((), (), (), ()), (), (), ()), 9, 0), (s0, s1, s2, s3, s4, s5, s6, s7)) else (bif (bif decide (0 ≤ a1) then decide (a1 < (s6.length : Int)) else false) then (bif (s6.getD a1.toNat 0 == 0) then some (((a0.1, (), ((), (), (), ()), (), (), ()), 9, 0), (s0, s1, s2, s3, s4, s5, s6, s7)) else (bif (bif decide (0 ≤ a1) then decide (a1 < (s6.length : Int)) else false) then (bif (s6.getD a1.toNat 0 == 1) then some (((a0.1, (), ((), (), (), ()), (), (), ()), 8, 0), (s0, s1, s2, s3, s4, s5, s6, s7)) else (spec_l3First N (a0.1, s0, (s1, s2, s3, s4), s5, s6, s7) a1).bind fun u1 => (bif decide (u1.1 < 0) then (bif (bif decide (0 ≤ a1) then decide (a1 < (s6.length : Int)) else false) then some (((a0.1, (), ((), (), (), ()), (), (), ()), 0, 0), (s0, s1, s2, s3, s4, s5, s6.set a1.toNat 0, s7)) else none) else (spec_l3Back N (a0.1, (), ((), (), (), ()), (), (), ()) u1.1 s0 s1 s2 s3 s4 s5 s6 s7).bind fun u2 => some (((u2.1.1, (), ((), (), (), ()), (), (), ()), 10, u1.1), (u2.2.1, u2.2.2.1, u2.2.2.2.1, u2.2.2.2.2.1, u2.2.2.2.2.2.1, u2.2.2.2.2.2.2.1, u2.2.2.2.2.2.2.2.1, u2.2.2.2.2.2.2.2.2)))) else none)) else none)))
noncomputable def C_spec_l3Reap (N : Nat) : Cx := ⟨tt, [E_spec_l3Back N, E_spec_l3First N], [], [], []⟩
noncomputable def E_spec_l3Reap (N : Nat) : Ent := { f := 151, par := (.pair (.agg (.pair (.int .i64) (.pair (.sl (.own 0) (.int .i64)) (.pair (.agg (.pair (.sl (.own 1) (.int .i64)) (.pair (.sl (.own 2) (.int .i64)) (.pair (.sl (.own 3) (.int .i64)) (.sl (.own 4) (.int .i64)))))) (.pair (.sl (.own 5) (.int .i64)) (.pair (.sl (.own 6) (.int .i64)) (.sl (.own 7) (.int .i64)))))))) (.int .i64)), sto := [(0, .arr (.int .i64)), (1, .arr (.int .i64)), (2, .arr (.int .i64)), (3, .arr (.int .i64)), (4, .arr (.int .i64)), (5, .arr (.int .i64)), (6, .arr (.int .i64)), (7, .arr (.int .i64))], res := (.tup (.pair (.agg (.pair (.int .i64) (.pair (.sl (.own 0) (.int .i64)) (.pair (.agg (.pair (.sl (.own 32) (.int .i64)) (.pair (.sl (.own 33) (.int .i64)) (.pair (.sl (.own 34) (.int .i64)) (.sl (.own 35) (.int .i64)))))) (.pair (.sl (.own 5) (.int .i64)) (.pair (.sl (.own 6) (.int .i64)) (.sl (.own 7) (.int .i64)))))))) (.pair (.int .i64) (.int .i64)))), osto := [(0, .arr (.int .i64)), (32, .arr (.int .i64)), (33, .arr (.int .i64)), (34, .arr (.int .i64)), (35, .arr (.int .i64)), (5, .arr (.int .i64)), (6, .arr (.int .i64)), (7, .arr (.int .i64))], fn := fun (x : (Int × Unit × (Unit × Unit × Unit × Unit) × Unit × Unit × Unit) × Int) (y : (List Int) × (List Int) × (List Int) × (List Int) × (List Int) × (List Int) × (List Int) × (List Int)) => spec_l3Reap N x.1 x.2 y.1 y.2.1 y.2.2.1 y.2.2.2.1 y.2.2.2.2.1 y.2.2.2.2.2.1 y.2.2.2.2.2.2.1 y.2.2.2.2.2.2.2 }
noncomputable def L_spec_l3Reap (N : Nat) : List (LpE ((E_spec_l3Reap N).res.D × SD (E_spec_l3Reap N).osto)) := []
theorem ok_spec_l3Reap (N : Nat) : EntOk Tryd.prog (E_spec_l3Reap N) := ent_of (C := C_spec_l3Reap N) ⟨tt_ok, (tab_cons (ok_spec_l3Back N) (tab_cons (ok_spec_l3First N) tab_nil)), (fun t h => by simp [C_spec_l3Reap] at h)⟩ mixed (fn := Tryd.f151) Tryd.func151 (by kernel_rfl) (by kernel_rfl) (by kernel_rfl) (by kernel_rfl) (by kernel_rfl) (L_spec_l3Reap N) N (fun x y => by kernel_rfl) trivial
noncomputable def spec_l3Own (N : Nat) (a0 : Int × Unit × (Unit × Unit × Unit × Unit) × Unit × Unit × Unit) (a1 : Int × Int × Int × Int) (s0 : List Int) (s1 : List Int) (s2 : List Int) (s3 : List Int) (s4 : List Int) (s5 : List Int) (s6 : List Int) (s7 : List Int) : Option (((Int × Unit × (Unit × Unit × Unit × Unit) × Unit × Unit × Unit) × Int × Int) × ((List Int) × (List Int) × (List Int) × (List Int) × (List Int) × (List Int) × (List Int) × (List Int))) := (bif (a1.1 == 2) then (spec_l3Take N (a0.1, (), ((), (), (), ()), (), (), ()) a1.2.1 a1.2.2.1 s0 s1 s2 s3 s4 s5 s6 s7).bind fun u1 => some (((u1.1.1.1, (), ((), (), (), ()), (), (), ()), u1.1.2), (u1.2.1, u1.2.2.1, u1.2.2.2.1, u1.2.2.2.2.1, u1.2.2.2.2.2.1, u1.2.2.2.2.2.2.1, u1.2.2.2.2.2.2.2.1, u1.2.2.2.2.2.2.2.2)) else (bif (a1.1 == 3) then (spec_l3Whose N (a0.1, s0, (s1, s2, s3, s4), s5, s6, s7) a1.2.1 a1.2.2.1).bind fun u2 => (bif decide (u2.1 > 0) then some (((a0.1, (), ((), (), (), ()), (), (), ()), u2.1, 0), (s0, s1, s2, s3, s4, s5, s6, s7)) else (spec_l3Back N (a0.1, (), ((), (), (), ()), (), (), ()) a1.2.2.1 s0 s1 s2 s3 s4 s5 s6 s7).bind fun u3 => some (((u3.1.1, (), ((), (), (), ()), (), (), ()), 0, 0), (u3.2.1, u3.2.2.1, u3.2.2.2.1, u3.2.2.2.2.1, u3.2.2.2.2.2.1, u3.2.2.2.2.2.2.1, u3.2.2.2.2.2.2.2.1, u3.2.2.2.2.2.2.2.2))) else (bif (a1.1 == 4) then (spec_l3Whose N (a0.1, s0, (s1, s2, s3, s4), s5, s6, s7) a1.2.1 a1.2.2.1).bind fun u4 => (bif decide (u4.1 > 0) then some (((a0.1, (), ((), (), (), ()), (), (), ()), u4.1, 0), (s0, s1, s2, s3, s4, s5, s6, s7)) else (bif decide (a1.2.2.2 < 0) then some (((a0.1, (), ((), (), (), ()), (), (), ()), 5, 0), (s0, s1, s2, s3, s4, s5, s6, s7)) else (bif decide (a1.2.2.2 ≥ a0.1) then some (((a0.1, (), ((), (), (), ()), (), (), ()), 5, 0), (s0, s1, s2, s3, s4, s5, s6, s7)) else (bif (bif decide (0 ≤ a1.2.2.2) then decide (a1.2.2.2 < (s6.length : Int)) else false) then (bif (s6.getD a1.2.2.2.toNat 0 == 0) then some (((a0.1, (), ((), (), (), ()), (), (), ()), 5, 0), (s0, s1, s2, s3, s4, s5, s6, s7)) else (bif (bif decide (0 ≤ a1.2.2.1) then decide (a1.2.2.1 < (s5.length : Int)) else false) then some (((a0.1, (), ((), (), (), ()), (), (), ()), 0, 0), (s0, s1, s2, s3, s4, s5.set a1.2.2.1.toNat (IntKind.i64.wrap (a1.2.2.2 + 1)), s6, s7)) else none)) else none)))) else (bif (a1.1 == 5) then (spec_l3First N (a0.1, s0, (s1, s2, s3, s4), s5, s6, s7) a1.2.1).bind fun u5 => (bif decide (u5.1 ≥ 0) then some (((a0.1, (), ((), (), (), ()), (), (), ()), 7, 0), (s0, s1, s2, s3, s4, s5, s6, s7)) else (bif (bif decide (0 ≤ a1.2.1) then decide (a1.2.1 < (s6.length : Int)) else false) then some (((a0.1, (), ((), (), (), ()), (), (), ()), 0, 0), (s0, s1, s2, s3, s4, s5, s6.set a1.2.1.toNat 0, s7)) else none)) else (bif (a1.1 == 6) then (spec_l3Reap N (a0.1, (), ((), (), (), ()), (), (), ()) a1.2.2.1 s0 s1 s2 s3 s4 s5 s6 s7).bind fun u6 => some (((u6.1.1.1, (), ((), (), (), ()), (), (), ()), u6.1.2), (u6.2.1, u6.2.2.1, u6.2.2.2.1, u6.2.2.2.2.1, u6.2.2.2.2.2.1, u6.2.2.2.2.2.2.1, u6.2.2.2.2.2.2.2.1, u6.2.2.2.2.2.2.2.2)) else some (((a0.1, (), ((), (), (), ()), (), (), ()), 13, 0), (s0, s1, s2, s3, s4, s5, s6, s7)))))))
noncomputable def C_spec_l3Own (N : Nat) : Cx := ⟨tt, [E_spec_l3Take N, E_spec_l3Whose N, E_spec_l3Back N, E_spec_l3First N, E_spec_l3Reap N], [], [], []⟩
noncomputable def E_spec_l3Own (N : Nat) : Ent := { f := 133, par := (.pair (.agg (.pair (.int .i64) (.pair (.sl (.own 0) (.int .i64)) (.pair (.agg (.pair (.sl (.own 1) (.int .i64)) (.pair (.sl (.own 2) (.int .i64)) (.pair (.sl (.own 3) (.int .i64)) (.sl (.own 4) (.int .i64)))))) (.pair (.sl (.own 5) (.int .i64)) (.pair (.sl (.own 6) (.int .i64)) (.sl (.own 7) (.int .i64)))))))) (.agg (.pair (.int .i64) (.pair (.int .i64) (.pair (.int .i64) (.int .i64)))))), sto := [(0, .arr (.int .i64)), (1, .arr (.int .i64)), (2, .arr (.int .i64)), (3, .arr (.int .i64)), (4, .arr (.int .i64)), (5, .arr (.int .i64)), (6, .arr (.int .i64)), (7, .arr (.int .i64))], res := (.tup (.pair (.agg (.pair (.int .i64) (.pair (.sl (.own 0) (.int .i64)) (.pair (.agg (.pair (.sl (.own 32) (.int .i64)) (.pair (.sl (.own 33) (.int .i64)) (.pair (.sl (.own 34) (.int .i64)) (.sl (.own 35) (.int .i64)))))) (.pair (.sl (.own 5) (.int .i64)) (.pair (.sl (.own 6) (.int .i64)) (.sl (.own 7) (.int .i64)))))))) (.pair (.int .i64) (.int .i64)))), osto := [(0, .arr (.int .i64)), (32, .arr (.int .i64)), (33, .arr (.int .i64)), (34, .arr (.int .i64)), (35, .arr (.int .i64)), (5, .arr (.int .i64)), (6, .arr (.int .i64)), (7, .arr (.int .i64))], fn := fun (x : (Int × Unit × (Unit × Unit × Unit × Unit) × Unit × Unit × Unit) × Int × Int × Int × Int) (y : (List Int) × (List Int) × (List Int) × (List Int) × (List Int) × (List Int) × (List Int) × (List Int)) => spec_l3Own N x.1 x.2 y.1 y.2.1 y.2.2.1 y.2.2.2.1 y.2.2.2.2.1 y.2.2.2.2.2.1 y.2.2.2.2.2.2.1 y.2.2.2.2.2.2.2 }
noncomputable def L_spec_l3Own (N : Nat) : List (LpE ((E_spec_l3Own N).res.D × SD (E_spec_l3Own N).osto)) := []
theorem ok_spec_l3Own (N : Nat) : EntOk Tryd.prog (E_spec_l3Own N) := ent_of (C := C_spec_l3Own N) ⟨tt_ok, (tab_cons (ok_spec_l3Take N) (tab_cons (ok_spec_l3Whose N) (tab_cons (ok_spec_l3Back N) (tab_cons (ok_spec_l3First N) (tab_cons (ok_spec_l3Reap N) tab_nil))))), (fun t h => by simp [C_spec_l3Own] at h)⟩ mixed (fn := Tryd.f133) Tryd.func133 (by kernel_rfl) (by kernel_rfl) (by kernel_rfl) (by kernel_rfl) (by kernel_rfl) (L_spec_l3Own N) N (fun x y => by kernel_rfl) trivial
noncomputable def spec_l3Do (N : Nat) (a0 : Int × Unit × (Unit × Unit × Unit × Unit) × Unit × Unit × Unit) (a1 : Int × Int × Int × Int) (s0 : List Int) (s1 : List Int) (s2 : List Int) (s3 : List Int) (s4 : List Int) (s5 : List Int) (s6 : List Int) (s7 : List Int) : Option (((Int × Unit × (Unit × Unit × Unit × Unit) × Unit × Unit × Unit) × Int × Int) × ((List Int) × (List Int) × (List Int) × (List Int) × (List Int) × (List Int) × (List Int) × (List Int))) := (bif decide (a1.2.1 < 0) then some (((a0.1, (), ((), (), (), ()), (), (), ()), 13, 0), (s0, s1, s2, s3, s4, s5, s6, s7)) else (bif decide (a1.2.1 ≥ a0.1) then some (((a0.1, (), ((), (), (), ()), (), (), ()), 13, 0), (s0, s1, s2, s3, s4, s5, s6, s7)) else (bif (a1.1 == 1) then (bif (bif decide (0 ≤ a1.2.1) then decide (a1.2.1 < (s6.length : Int)) else false) then (bif (s6.getD a1.2.1.toNat 0 != 0) then some (((a0.1, (), ((), (), (), ()), (), (), ()), 6, 0), (s0, s1, s2, s3, s4, s5, s6, s7)) else (bif (bif decide (0 ≤ a1.2.1) then decide (a1.2.1 < (s7.length : Int)) else false) then (bif (s7.getD a1.2.1.toNat 0 == 4095) then some (((a0.1, (), ((), (), (), ()), (), (), ()), 12, 0), (s0, s1, s2, s3, s4, s5, s6, s7)) else (bif (bif decide (0 ≤ a1.2.1) then decide (a1.2.1 < (s6.length : Int)) else false) then (bif (bif decide (0 ≤ a1.2.1) then decide (a1.2.1 < (s7.length : Int)) else false) then (bif (bif decide (0 ≤ a1.2.1) then decide (a1.2.1 < (s7.length : Int)) else false) then (bif (bif decide (0 ≤ a1.2.1) then decide (a1.2.1 < ((s7.set a1.2.1.toNat (IntKind.i64.wrap (s7.getD a1.2.1.toNat 0 + 1))).length : Int)) else false) then some (((a0.1, (), ((), (), (), ()), (), (), ()), 0, (s7.set a1.2.1.toNat (IntKind.i64.wrap (s7.getD a1.2.1.toNat 0 + 1))).getD a1.2.1.toNat 0), (s0, s1, s2, s3, s4, s5, s6.set a1.2.1.toNat 1, s7.set a1.2.1.toNat (IntKind.i64.wrap (s7.getD a1.2.1.toNat 0 + 1)))) else none) else none) else none) else none)) else none)) else none) else (bif (bif decide (0 ≤ a1.2.1) then decide (a1.2.1 < (s6.length : Int)) else false) then (bif (s6.getD a1.2.1.toNat 0 == 0) then some (((a0.1, (), ((), (), (), ()), (), (), ()), 9, 0), (s0, s1, s2, s3, s4, s5, s6, s7)) else (spec_l3Own N (a0.1, (), ((), (), (), ()), (), (), ()) a1 s0 s1 s2 s3 s4 s5 s6 s7).bind fun u1 => some (((u1.1.1.1, (), ((), (), (), ()), (), (), ()), u1.1.2), (u1.2.1, u1.2.2.1, u1.2.2.2.1, u1.2.2.2.2.1, u1.2.2.2.2.2.1, u1.2.2.2.2.2.2.1, u1.2.2.2.2.2.2.2.1, u1.2.2.2.2.2.2.2.2))) else none))))
noncomputable def C_spec_l3Do (N : Nat) : Cx := ⟨tt, [E_spec_l3Own N], [], [], []⟩
noncomputable def E_spec_l3Do (N : Nat) : Ent := { f := 109, par := (.pair (.agg (.pair (.int .i64) (.pair (.sl (.own 0) (.int .i64)) (.pair (.agg (.pair (.sl (.own 1) (.int .i64)) (.pair (.sl (.own 2) (.int .i64)) (.pair (.sl (.own 3) (.int .i64)) (.sl (.own 4) (.int .i64)))))) (.pair (.sl (.own 5) (.int .i64)) (.pair (.sl (.own 6) (.int .i64)) (.sl (.own 7) (.int .i64)))))))) (.agg (.pair (.int .i64) (.pair (.int .i64) (.pair (.int .i64) (.int .i64)))))), sto := [(0, .arr (.int .i64)), (1, .arr (.int .i64)), (2, .arr (.int .i64)), (3, .arr (.int .i64)), (4, .arr (.int .i64)), (5, .arr (.int .i64)), (6, .arr (.int .i64)), (7, .arr (.int .i64))], res := (.tup (.pair (.agg (.pair (.int .i64) (.pair (.sl (.own 0) (.int .i64)) (.pair (.agg (.pair (.sl (.own 32) (.int .i64)) (.pair (.sl (.own 33) (.int .i64)) (.pair (.sl (.own 34) (.int .i64)) (.sl (.own 35) (.int .i64)))))) (.pair (.sl (.own 5) (.int .i64)) (.pair (.sl (.own 6) (.int .i64)) (.sl (.own 7) (.int .i64)))))))) (.pair (.int .i64) (.int .i64)))), osto := [(0, .arr (.int .i64)), (32, .arr (.int .i64)), (33, .arr (.int .i64)), (34, .arr (.int .i64)), (35, .arr (.int .i64)), (5, .arr (.int .i64)), (6, .arr (.int .i64)), (7, .arr (.int .i64))], fn := fun (x : (Int × Unit × (Unit × Unit × Unit × Unit) × Unit × Unit × Unit) × Int × Int × Int × Int) (y : (List Int) × (List Int) × (List Int) × (List Int) × (List Int) × (List Int) × (List Int) × (List Int)) => spec_l3Do N x.1 x.2 y.1 y.2.1 y.2.2.1 y.2.2.2.1 y.2.2.2.2.1 y.2.2.2.2.2.1 y.2.2.2.2.2.2.1 y.2.2.2.2.2.2.2 }
noncomputable def L_spec_l3Do (N : Nat) : List (LpE ((E_spec_l3Do N).res.D × SD (E_spec_l3Do N).osto)) := []
theorem ok_spec_l3Do (N : Nat) : EntOk Tryd.prog (E_spec_l3Do N) := ent_of (C := C_spec_l3Do N) ⟨tt_ok, (tab_cons (ok_spec_l3Own N) tab_nil), (fun t h => by simp [C_spec_l3Do] at h)⟩ mixed (fn := Tryd.f109) Tryd.func109 (by kernel_rfl) (by kernel_rfl) (by kernel_rfl) (by kernel_rfl) (by kernel_rfl) (L_spec_l3Do N) N (fun x y => by kernel_rfl) trivial
noncomputable def spec_l3Book.l0 (N : Nat) : Nat → Int → Int → (List Int × Int) → (Int × Unit × (Unit × Unit × Unit × Unit) × Unit × Unit × Unit) → (Int × Unit × (Unit × Unit × Unit × Unit) × Unit × Unit × Unit) → List Int → List Int → List Int → List Int → List Int → List Int → List Int → List Int → Option ((Int × Unit × (Unit × Unit × Unit × Unit) × Unit × Unit × Unit) × ((List Int) × (List Int) × (List Int) × (List Int) × (List Int) × (List Int) × (List Int) × (List Int) × (List Int × Int)))
  | 0, _, _, _, _, _, _, _, _, _, _, _, _, _ => none
  | k + 1, v2, v8, m0, m64, m65, m66, m67, m68, m69, m70, m71, m72, m73 => (bif decide (v8 < v2) then (loop_example_hostel_spec_l20Rd_pick N 14 m0).bind fun u2 => (bif (u2.1 == 0) then (loop_example_hostel_spec_l20Rd_pick N 3 u2.2).bind fun u3 => (spec_BookCut N (m65.1, m66, (m67, m68, m69, m70), m71, m72, m73) u3.1).bind fun u4 => spec_l3Book.l0 N k v2 (IntKind.i64.wrap (v8 + 1)) u3.2 (m64.1, (), ((), (), (), ()), (), (), ()) (u4.1.1, (), ((), (), (), ()), (), (), ()) u4.2.1 u4.2.2.1 u4.2.2.2.1 u4.2.2.2.2.1 u4.2.2.2.2.2.1 u4.2.2.2.2.2.2.1 u4.2.2.2.2.2.2.2.1 u4.2.2.2.2.2.2.2.2 else (spec_l3Op N (m65.1, m66, (m67, m68, m69, m70), m71, m72, m73) u2.2).bind fun u5 => (bif decide (v8 < m65.1) then (spec_l3Do N (m65.1, (), ((), (), (), ()), (), (), ()) (1, v8, 0, 0) m66 m67 m68 m69 m70 m71 m72 m73).bind fun u6 => spec_l3Book.l0 N k v2 (IntKind.i64.wrap (v8 + 1)) u5.2 (m64.1, (), ((), (), (), ()), (), (), ()) (u6.1.1.1, (), ((), (), (), ()), (), (), ()) u6.2.1 u6.2.2.1 u6.2.2.2.1 u6.2.2.2.2.1 u6.2.2.2.2.2.1 u6.2.2.2.2.2.2.1 u6.2.2.2.2.2.2.2.1 u6.2.2.2.2.2.2.2.2 else (spec_l3Do N (m65.1, (), ((), (), (), ()), (), (), ()) u5.1 m66 m67 m68 m69 m70 m71 m72 m73).bind fun u7 => spec_l3Book.l0 N k v2 (IntKind.i64.wrap (v8 + 1)) u5.2 (m64.1, (), ((), (), (), ()), (), (), ()) (u7.1.1.1, (), ((), (), (), ()), (), (), ()) u7.2.1 u7.2.2.1 u7.2.2.2.1 u7.2.2.2.2.1 u7.2.2.2.2.2.1 u7.2.2.2.2.2.2.1 u7.2.2.2.2.2.2.2.1 u7.2.2.2.2.2.2.2.2)) else some ((m65.1, (), ((), (), (), ()), (), (), ()), (m66, m67, m68, m69, m70, m71, m72, m73, m0)))
noncomputable def spec_l3Book (N : Nat) (a1 : Int × Int × Int) (a2 : Int) (s0 : List Int × Int) : Option ((Int × Unit × (Unit × Unit × Unit × Unit) × Unit × Unit × Unit) × ((List Int) × (List Int) × (List Int) × (List Int) × (List Int) × (List Int) × (List Int) × (List Int) × (List Int × Int))) := (spec_BookOpen N a1).bind fun u1 => spec_l3Book.l0 N N a2 0 s0 (0, (), ((), (), (), ()), (), (), ()) (u1.1.1, (), ((), (), (), ()), (), (), ()) u1.2.1 ([] : List Int) ([] : List Int) ([] : List Int) ([] : List Int) u1.2.2.1 u1.2.2.2.1 u1.2.2.2.2
noncomputable def C_spec_l3Book (N : Nat) : Cx := ⟨tt, [E_loop_example_hostel_spec_l20Rd_pick N, E_spec_BookOpen N, E_spec_BookCut N, E_spec_l3Op N, E_spec_l3Do N], [], [], []⟩
noncomputable def E_spec_l3Book (N : Nat) : Ent := { f := 81, par := (.pair (.ptr 0 [] 0) (.pair (.agg (.pair (.int .i64) (.pair (.int .i64) (.int .i64)))) (.int .i64))), sto := [(0, .box (.agg (.pair (.sl .frz (.int .u8)) (.int .i64))))], res := (.agg (.pair (.int .i64) (.pair (.sl (.own 32) (.int .i64)) (.pair (.agg (.pair (.sl (.own 33) (.int .i64)) (.pair (.sl (.own 34) (.int .i64)) (.pair (.sl (.own 35) (.int .i64)) (.sl (.own 36) (.int .i64)))))) (.pair (.sl (.own 37) (.int .i64)) (.pair (.sl (.own 38) (.int .i64)) (.sl (.own 39) (.int .i64)))))))), osto := [(32, .arr (.int .i64)), (33, .arr (.int .i64)), (34, .arr (.int .i64)), (35, .arr (.int .i64)), (36, .arr (.int .i64)), (37, .arr (.int .i64)), (38, .arr (.int .i64)), (39, .arr (.int .i64)), (0, .box (.agg (.pair (.sl .frz (.int .u8)) (.int .i64))))], fn := fun (x : Unit × (Int × Int × Int) × Int) (y : (List Int × Int)) => spec_l3Book N x.2.1 x.2.2 y }
noncomputable def L_spec_l3Book (N : Nat) : List (LpE ((E_spec_l3Book N).res.D × SD (E_spec_l3Book N).osto)) := [⟨[0, 1, 0, 1, 1], ⟨[(0, (.ptr 0 [] 0)), (2, (.int .i64)), (6, (.ptr 64 [] 0)), (7, (.ptr 65 [] 0)), (8, (.int .i64))], [(0, .box (.agg (.pair (.sl .frz (.int .u8)) (.int .i64)))), (64, .box (.agg (.pair (.int .i64) (.pair (.sl .emp .unit) (.pair (.agg (.pair (.sl .emp .unit) (.pair (.sl .emp .unit) (.pair (.sl .emp .unit) (.sl .emp .unit))))) (.pair (.sl .emp .unit) (.pair (.sl .emp .unit) (.sl .emp .unit)))))))), (65, .box (.agg (.pair (.int .i64) (.pair (.sl (.own 66) (.int .i64)) (.pair (.agg (.pair (.sl (.own 67) (.int .i64)) (.pair (.sl (.own 68) (.int .i64)) (.pair (.sl (.own 69) (.int .i64)) (.sl (.own 70) (.int .i64)))))) (.pair (.sl (.own 71) (.int .i64)) (.pair (.sl (.own 72) (.int .i64)) (.sl (.own 73) (.int .i64))))))))), (66, .arr (.int .i64)), (67, .arr (.int .i64)), (68, .arr (.int .i64)), (69, .arr (.int .i64)), (70, .arr (.int .i64)), (71, .arr (.int .i64)), (72, .arr (.int .i64)), (73, .arr (.int .i64))], 128⟩, fun k (x : Unit × Int × Unit × Unit × Int) (y : (List Int × Int) × (Int × Unit × (Unit × Unit × Unit × Unit) × Unit × Unit × Unit) × (Int × Unit × (Unit × Unit × Unit × Unit) × Unit × Unit × Unit) × (List Int) × (List Int) × (List Int) × (List Int) × (List Int) × (List Int) × (List Int) × (List Int)) => spec_l3Book.l0 N k x.2.1 x.2.2.2.2 y.1 y.2.1 y.2.2.1 y.2.2.2.1 y.2.2.2.2.1 y.2.2.2.2.2.1 y.2.2.2.2.2.2.1 y.2.2.2.2.2.2.2.1 y.2.2.2.2.2.2.2.2.1 y.2.2.2.2.2.2.2.2.2.1 y.2.2.2.2.2.2.2.2.2.2⟩]
theorem ok_spec_l3Book (N : Nat) : EntOk Tryd.prog (E_spec_l3Book N) := ent_of (C := C_spec_l3Book N) ⟨tt_ok, (tab_cons (ok_loop_example_hostel_spec_l20Rd_pick N) (tab_cons (ok_spec_BookOpen N) (tab_cons (ok_spec_BookCut N) (tab_cons (ok_spec_l3Op N) (tab_cons (ok_spec_l3Do N) tab_nil))))), (fun t h => by simp [C_spec_l3Book] at h)⟩ mixed (fn := Tryd.f81) Tryd.func81 (by kernel_rfl) (by kernel_rfl) (by kernel_rfl) (by kernel_rfl) (by kernel_rfl) (L_spec_l3Book N) N (fun x y => by kernel_rfl) ⟨⟨by kernel_rfl, fun _ _ => rfl, fun k x y => by kernel_rfl⟩, trivial⟩
noncomputable def spec_l3Bent (N : Nat) (s0 : List Int × Int) : Option ((Int × Unit × (Unit × Unit × Unit × Unit) × Unit × Unit × Unit) × ((List Int) × (List Int) × (List Int) × (List Int) × (List Int) × (List Int) × (List Int) × (List Int) × (List Int × Int))) := (spec_l2Cfg N s0).bind fun u1 => (loop_example_hostel_spec_l20Rd_num N ([0, 3, 8, 16, 30, 45]) u1.2).bind fun u2 => (spec_l3Book N u1.1 u2.1 u2.2).bind fun u3 => (loop_example_hostel_spec_l20Rd_pick N 36 u3.2.2.2.2.2.2.2.2.2).bind fun u4 => (bif (u4.1 == 0) then (loop_example_hostel_spec_l20Rd_num N ([0, 5, 1]) u4.2).bind fun u5 => some ((u5.1, (), ((), (), (), ()), (), (), ()), (u3.2.1, u3.2.2.1, u3.2.2.2.1, u3.2.2.2.2.1, u3.2.2.2.2.2.1, u3.2.2.2.2.2.2.1, u3.2.2.2.2.2.2.2.1, u3.2.2.2.2.2.2.2.2.1, u5.2)) else (bif (u4.1 == 1) then (loop_example_hostel_spec_l20Rd_pick N (u3.2.1.length : Int) u4.2).bind fun u6 => (loop_example_hostel_spec_l20Rd_num N ([0, 1, 2, 5, 6, 7, 8, 9, 10, 13]) u6.2).bind fun u7 => (bif (bif decide (0 ≤ u6.1) then decide (u6.1 < (u3.2.1.length : Int)) else false) then some ((u3.1.1, (), ((), (), (), ()), (), (), ()), (u3.2.1.set u6.1.toNat u7.1, u3.2.2.1, u3.2.2.2.1, u3.2.2.2.2.1, u3.2.2.2.2.2.1, u3.2.2.2.2.2.2.1, u3.2.2.2.2.2.2.2.1, u3.2.2.2.2.2.2.2.2.1, u7.2)) else none) else (bif (u4.1 == 2) then (loop_example_hostel_spec_l20Rd_pick N 4 u4.2).bind fun u8 => (bif decide (u8.1 = 0) then (loop_example_hostel_spec_l20Rd_num N ([(-1), 0, 1, 2, 8, 99]) u8.2).bind fun u12 => (bif decide (u3.2.2.1.length + ([u12.1]).length ≤ 17592186044416) then (bif decide (u8.1 = 0) then some ((u3.1.1, (), ((), (), (), ()), (), (), ()), (u3.2.1, u3.2.2.1 ++ ([u12.1]), u3.2.2.2.1, u3.2.2.2.2.1, u3.2.2.2.2.2.1, u3.2.2.2.2.2.2.1, u3.2.2.2.2.2.2.2.1, u3.2.2.2.2.2.2.2.2.1, u12.2)) else (bif decide (u8.1 = 1) then none else (bif decide (u8.1 = 2) then none else (bif decide (u8.1 = 3) then none else none)))) else none) else (bif decide (u8.1 = 1) then (loop_example_hostel_spec_l20Rd_num N ([(-1), 0, 1, 2, 8, 99]) u8.2).bind fun u11 => (bif decide (u3.2.2.2.1.length + ([u11.1]).length ≤ 17592186044416) then (bif decide (u8.1 = 0) then none else (bif decide (u8.1 = 1) then some ((u3.1.1, (), ((), (), (), ()), (), (), ()), (u3.2.1, u3.2.2.1, u3.2.2.2.1 ++ ([u11.1]), u3.2.2.2.2.1, u3.2.2.2.2.2.1, u3.2.2.2.2.2.2.1, u3.2.2.2.2.2.2.2.1, u3.2.2.2.2.2.2.2.2.1, u11.2)) else (bif decide (u8.1 = 2) then none else (bif decide (u8.1 = 3) then none else none)))) else none) else (bif decide (u8.1 = 2) then (loop_example_hostel_spec_l20Rd_num N ([(-1), 0, 1, 2, 8, 99]) u8.2).bind fun u10 => (bif decide (u3.2.2.2.2.1.length + ([u10.1]).length ≤ 17592186044416) then (bif decide (u8.1 = 0) then none else (bif decide (u8.1 = 1) then none else (bif decide (u8.1 = 2) then some ((u3.1.1, (), ((), (), (), ()), (), (), ()), (u3.2.1, u3.2.2.1, u3.2.2.2.1, u3.2.2.2.2.1 ++ ([u10.1]), u3.2.2.2.2.2.1, u3.2.2.2.2.2.2.1, u3.2.2.2.2.2.2.2.1, u3.2.2.2.2.2.2.2.2.1, u10.2)) else (bif decide (u8.1 = 3) then none else none)))) else none) else (bif decide (u8.1 = 3) then (loop_example_hostel_spec_l20Rd_num N ([(-1), 0, 1, 2, 8, 99]) u8.2).bind fun u9 => (bif decide (u3.2.2.2.2.2.1.length + ([u9.1]).length ≤ 17592186044416) then (bif decide (u8.1 = 0) then none else (bif decide (u8.1 = 1) then none else (bif decide (u8.1 = 2) then none else (bif decide (u8.1 = 3) then some ((u3.1.1, (), ((), (), (), ()), (), (), ()), (u3.2.1, u3.2.2.1, u3.2.2.2.1, u3.2.2.2.2.1, u3.2.2.2.2.2.1 ++ ([u9.1]), u3.2.2.2.2.2.2.1, u3.2.2.2.2.2.2.2.1, u3.2.2.2.2.2.2.2.2.1, u9.2)) else none)))) else none) else none)))) else (bif (u4.1 == 3) then (loop_example_hostel_spec_l20Rd_pick N (u3.2.2.2.2.2.2.1.length : Int) u4.2).bind fun u13 => (loop_example_hostel_spec_l20Rd_pick N 5 u13.2).bind fun u14 => (bif (bif decide (0 ≤ u13.1) then decide (u13.1 < (u3.2.2.2.2.2.2.1.length : Int)) else false) then some ((u3.1.1, (), ((), (), (), ()), (), (), ()), (u3.2.1, u3.2.2.1, u3.2.2.2.1, u3.2.2.2.2.1, u3.2.2.2.2.2.1, u3.2.2.2.2.2.2.1.set u13.1.toNat u14.1, u3.2.2.2.2.2.2.2.1, u3.2.2.2.2.2.2.2.2.1, u14.2)) else none) else (bif (u4.1 == 4) then (loop_example_hostel_spec_l20Rd_num N ([(-1), 0, 1, 2, 3]) u4.2).bind fun u15 => (bif decide (0 < (u3.2.2.2.2.2.2.2.1.length : Int)) then some ((u3.1.1, (), ((), (), (), ()), (), (), ()), (u3.2.1, u3.2.2.1, u3.2.2.2.1, u3.2.2.2.2.1, u3.2.2.2.2.2.1, u3.2.2.2.2.2.2.1, u3.2.2.2.2.2.2.2.1.set 0 u15.1, u3.2.2.2.2.2.2.2.2.1, u15.2)) else none) else (bif (u4.1 == 5) then (loop_example_hostel_spec_l20Rd_num N ([(-1), 0, 4095, 4096]) u4.2).bind fun u16 => (bif decide (0 < (u3.2.2.2.2.2.2.2.2.1.length : Int)) then some ((u3.1.1, (), ((), (), (), ()), (), (), ()), (u3.2.1, u3.2.2.1, u3.2.2.2.1, u3.2.2.2.2.1, u3.2.2.2.2.2.1, u3.2.2.2.2.2.2.1, u3.2.2.2.2.2.2.2.1, u3.2.2.2.2.2.2.2.2.1.set 0 u16.1, u16.2)) else none) else some ((u3.1.1, (), ((), (), (), ()), (), (), ()), (u3.2.1, u3.2.2.1, u3.2.2.2.1, u3.2.2.2.2.1, u3.2.2.2.2.2.1, u3.2.2.2.2.2.2.1, u3.2.2.2.2.2.2.2.1, u3.2.2.2.2.2.2.2.2.1, u4.2))))))))
noncomputable def C_spec_l3Bent (N : Nat) : Cx := ⟨tt, [E_spec_l3Book N, E_spec_l2Cfg N, E_loop_example_hostel_spec_l20Rd_num N, E_loop_example_hostel_spec_l20Rd_pick N], [], [], []⟩
noncomputable def E_spec_l3Bent (N : Nat) : Ent := { f := 46, par := (.ptr 0 [] 0), sto := [(0, .box (.agg (.pair (.sl .frz (.int .u8)) (.int .i64))))], res := (.agg (.pair (.int .i64) (.pair (.sl (.own 32) (.int .i64)) (.pair (.agg (.pair (.sl (.own 33) (.int .i64)) (.pair (.sl (.own 34) (.int .i64)) (.pair (.sl (.own 35) (.int .i64)) (.sl (.own 36) (.int .i64)))))) (.pair (.sl (.own 37) (.int .i64)) (.pair (.sl (.own 38) (.int .i64)) (.sl (.own 39) (.int .i64)))))))), osto := [(32, .arr (.int .i64)), (33, .arr (.int .i64)), (34, .arr (.int .i64)), (35, .arr (.int .i64)), (36, .arr (.int .i64)), (37, .arr (.int .i64)), (38, .arr (.int .i64)), (39, .arr (.int .i64)), (0, .box (.agg (.pair (.sl .frz (.int .u8)) (.int .i64))))], fn := fun (x : Unit) (y : (List Int × Int)) => spec_l3Bent N y }
noncomputable def L_spec_l3Bent (N : Nat) : List (LpE ((E_spec_l3Bent N).res.D × SD (E_spec_l3Bent N).osto)) := []
theorem ok_spec_l3Bent (N : Nat) : EntOk Tryd.prog (E_spec_l3Bent N) := ent_of (C := C_spec_l3Bent N) ⟨tt_ok, (tab_cons (ok_spec_l3Book N) (tab_cons (ok_spec_l2Cfg N) (tab_cons (ok_loop_example_hostel_spec_l20Rd_num N) (tab_cons (ok_loop_example_hostel_spec_l20Rd_pick N) tab_nil)))), (fun t h => by simp [C_spec_l3Bent] at h)⟩ mixed (fn := Tryd.f46) Tryd.func46 (by kernel_rfl) (by kernel_rfl) (by kernel_rfl) (by kernel_rfl) (by kernel_rfl) (L_spec_l3Bent N) N (fun x y => by kernel_rfl) trivial
noncomputable def spec_DrawTidyMap (N : Nat) (a0 : List Int) : Option ((Int × Unit × (Unit × Unit × Unit × Unit) × Unit × Unit × Unit) × ((List Int) × (List Int) × (List Int) × (List Int) × (List Int) × (List Int) × (List Int) × (List Int))) := (spec_l20Open N a0).bind fun u1 => (spec_l3Bent N u1.2).bind fun u2 => some ((u2.1.1, (), ((), (), (), ()), (), (), ()), (u2.2.1, u2.2.2.1, u2.2.2.2.1, u2.2.2.2.2.1, u2.2.2.2.2.2.1, u2.2.2.2.2.2.2.1, u2.2.2.2.2.2.2.2.1, u2.2.2.2.2.2.2.2.2.1))
noncomputable def C_spec_DrawTidyMap (N : Nat) : Cx := ⟨tt, [E_spec_l3Bent N, E_spec_l20Open N], [], [], []⟩
noncomputable def E_spec_DrawTidyMap (N : Nat) : Ent := { f := 14, par := (.sl .frz (.int .u8)), sto := [], res := (.agg (.pair (.int .i64) (.pair (.sl (.own 32) (.int .i64)) (.pair (.agg (.pair (.sl (.own 33) (.int .i64)) (.pair (.sl (.own 34) (.int .i64)) (.pair (.sl (.own 35) (.int .i64)) (.sl (.own 36) (.int .i64)))))) (.pair (.sl (.own 37) (.int .i64)) (.pair (.sl (.own 38) (.int .i64)) (.sl (.own 39) (.int .i64)))))))), osto := [(32, .arr (.int .i64)), (33, .arr (.int .i64)), (34, .arr (.int .i64)), (35, .arr (.int .i64)), (36, .arr (.int .i64)), (37, .arr (.int .i64)), (38, .arr (.int .i64)), (39, .arr (.int .i64))], fn := fun (x : List Int) (y : Unit) => spec_DrawTidyMap N x }
noncomputable def L_spec_DrawTidyMap (N : Nat) : List (LpE ((E_spec_DrawTidyMap N).res.D × SD (E_spec_DrawTidyMap N).osto)) := []
theorem ok_spec_DrawTidyMap (N : Nat) : EntOk Tryd.prog (E_spec_DrawTidyMap N) := ent_of (C := C_spec_DrawTidyMap N) ⟨tt_ok, (tab_cons (ok_spec_l3Bent N) (tab_cons (ok_spec_l20Open N) tab_nil)), (fun t h => by simp [C_spec_DrawTidyMap] at h)⟩ mixed (fn := Tryd.f14) Tryd.func14 (by kernel_rfl) (by kernel_rfl) (by kernel_rfl) (by kernel_rfl) (by kernel_rfl) (L_spec_DrawTidyMap N) N (fun x y => by kernel_rfl) trivial
noncomputable def impl_within (N : Nat) (a0 : Int) (a1 : Int) (a2 : Int) : Option (Bool × Unit) := (bif decide (a1 ≤ a0) then some (decide (a0 ≤ a2), ()) else some (false, ()))
noncomputable def C_impl_within (N : Nat) : Cx := ⟨tt, [], [], [], []⟩
noncomputable def E_impl_within (N : Nat) : Ent := { f := 56, par := (.pair (.int .i64) (.pair (.int .i64) (.int .i64))), sto := [], res := .bool, osto := [], fn := fun (x : Int × Int × Int) (y : Unit) => impl_within N x.1 x.2.1 x.2.2 }
noncomputable def L_impl_within (N : Nat) : List (LpE ((E_impl_within N).res.D × SD (E_impl_within N).osto)) := []
theorem ok_impl_within (N : Nat) : EntOk Tryd.prog (E_impl_within N) := ent_of (C := C_impl_within N) ⟨tt_ok, tab_nil, (fun t h => by simp [C_impl_within] at h)⟩ mixed (fn := Tryd.f56) Tryd.func56 (by kernel_rfl) (by kernel_rfl) (by kernel_rfl) (by kernel_rfl) (by kernel_rfl) (L_impl_within N) N (fun x y => by kernel_rfl) trivial
noncomputable def impl_Book_isSlot (N : Nat) (a0 : Int × List Int × (List Int × List Int × List Int × List Int) × List Int × List Int × List Int) (a1 : Int) : Option (Bool × Unit) := (impl_within N a1 0 (IntKind.i64.wrap (a0.1 - 1))).bind fun u1 => some (u1.1, ())
noncomputable def C_impl_Book_isSlot (N : Nat) : Cx := ⟨tt, [E_impl_within N], [], [], []⟩
noncomputable def E_impl_Book_isSlot (N : Nat) : Ent := { f := 53, par := (.pair (.agg (.pair (.int .i64) (.pair (.sl .bor (.int .i64)) (.pair (.agg (.pair (.sl .bor (.int .i64)) (.pair (.sl .bor (.int .i64)) (.pair (.sl .bor (.int .i64)) (.sl .bor (.int .i64)))))) (.pair (.sl .bor (.int .i64)) (.pair (.sl .bor (.int .i64)) (.sl .bor (.int .i64)))))))) (.int .i64)), sto := [], res := .bool, osto := [], fn := fun (x : (Int × List Int × (List Int × List Int × List Int × List Int) × List Int × List Int × List Int) × Int) (y : Unit) => impl_Book_isSlot N x.1 x.2 }
noncomputable def L_impl_Book_isSlot (N : Nat) : List (LpE ((E_impl_Book_isSlot N).res.D × SD (E_impl_Book_isSlot N).osto)) := []
theorem ok_impl_Book_isSlot (N : Nat) : EntOk Tryd.prog (E_impl_Book_isSlot N) := ent_of (C := C_impl_Book_isSlot N) ⟨tt_ok, (tab_cons (ok_impl_within N) tab_nil), (fun t h => by simp [C_impl_Book_isSlot] at h)⟩ mixed (fn := Tryd.f53) Tryd.func53 (by kernel_rfl) (by kernel_rfl) (by kernel_rfl) (by kernel_rfl) (by kernel_rfl) (L_impl_Book_isSlot N) N (fun x y => by kernel_rfl) trivial
noncomputable def impl_Book_isIn (N : Nat) (a0 : Int × List Int × (List Int × List Int × List Int × List Int) × List Int × List Int × List Int) (a1 : Int) : Option (Bool × Unit) := (impl_Book_isSlot N a0 a1).bind fun u1 => (bif u1.1 then (bif (bif decide (0 ≤ a1) then decide (a1 < (a0.2.2.2.2.1.length : Int)) else false) then some ((a0.2.2.2.2.1.getD a1.toNat 0 != 0), ()) else none) else some (false, ()))
noncomputable def C_impl_Book_isIn (N : Nat) : Cx := ⟨tt, [E_impl_Book_isSlot N], [], [], []⟩
noncomputable def E_impl_Book_isIn (N : Nat) : Ent := { f := 103, par := (.pair (.agg (.pair (.int .i64) (.pair (.sl .bor (.int .i64)) (.pair (.agg (.pair (.sl .bor (.int .i64)) (.pair (.sl .bor (.int .i64)) (.pair (.sl .bor (.int .i64)) (.sl .bor (.int .i64)))))) (.pair (.sl .bor (.int .i64)) (.pair (.sl .bor (.int .i64)) (.sl .bor (.int .i64)))))))) (.int .i64)), sto := [], res := .bool, osto := [], fn := fun (x : (Int × List Int × (List Int × List Int × List Int × List Int) × List Int × List Int × List Int) × Int) (y : Unit) => impl_Book_isIn N x.1 x.2 }
noncomputable def L_impl_Book_isIn (N : Nat) : List (LpE ((E_impl_Book_isIn N).res.D × SD (E_impl_Book_isIn N).osto)) := []
theorem ok_impl_Book_isIn (N : Nat) : EntOk Tryd.prog (E_impl_Book_isIn N) := ent_of (C := C_impl_Book_isIn N) ⟨tt_ok, (tab_cons (ok_impl_Book_isSlot N) tab_nil), (fun t h => by simp [C_impl_Book_isIn] at h)⟩ mixed (fn := Tryd.f103) Tryd.func103 (by kernel_rfl) (by kernel_rfl) (by kernel_rfl) (by kernel_rfl) (by kernel_rfl) (L_impl_Book_isIn N) N (fun x y => by kernel_rfl) trivial
noncomputable def impl_unitsOf (N : Nat) (a0 : Int) : Option (Int × Unit) := (bif decide (a0 < 0) then none else some (IntKind.i64.wrap (1 * 2 ^ (min (a0).toNat 64)), ()))
noncomputable def C_impl_unitsOf (N : Nat) : Cx := ⟨tt, [], [], [], []⟩
noncomputable def E_impl_unitsOf (N : Nat) : Ent := { f := 79, par := (.int .i64), sto := [], res := (.int .i64), osto := [], fn := fun (x : Int) (y : Unit) => impl_unitsOf N x }
noncomputable def L_impl_unitsOf (N : Nat) : List (LpE ((E_impl_unitsOf N).res.D × SD (E_impl_unitsOf N).osto)) := []
theorem ok_impl_unitsOf (N : Nat) : EntOk Tryd.prog (E_impl_unitsOf N) := ent_of (C := C_impl_unitsOf N) ⟨tt_ok, tab_nil, (fun t h => by simp [C_impl_unitsOf] at h)⟩ mixed (fn := Tryd.f79) Tryd.func79 (by kernel_rfl) (by kernel_rfl) (by kernel_rfl) (by kernel_rfl) (by kernel_rfl) (L_impl_unitsOf N) N (fun x y => by kernel_rfl) trivial
mutual
noncomputable def impl_Book_shapeOk.l0 (N : Nat) : Nat → List Int → Int → Int → (Int × List Int × (List Int × List Int × List Int × List Int) × List Int × List Int × List Int) → Option (Bool × Unit)
  | 0, _, _, _, _ => none
  | k + 1, v49, v50, v51, m64 => (bif decide (v51 < v50) then (bif (bif decide (0 ≤ v51) then decide (v51 < (v49.length : Int)) else false) then (impl_within N (v49.getD v51.toNat 0) 0 2).bind fun u3 => (bif (!u3.1) then some (false, ()) else (bif (bif decide (0 ≤ v51) then decide (v51 < (m64.2.2.2.2.2.length : Int)) else false) then (impl_within N (m64.2.2.2.2.2.getD v51.toNat 0) 0 4095).bind fun u4 => (bif (!u4.1) then some (false, ()) else (bif (v49.getD v51.toNat 0 != 0) then (bif (bif decide (0 ≤ v51) then decide (v51 < (m64.2.2.2.2.2.length : Int)) else false) then (bif (m64.2.2.2.2.2.getD v51.toNat 0 == 0) then some (false, ()) else impl_Book_shapeOk.l0 N k v49 v50 (IntKind.i64.wrap (v51 + 1)) m64) else none) else impl_Book_shapeOk.l0 N k v49 v50 (IntKind.i64.wrap (v51 + 1)) m64)) else none)) else none) else impl_Book_shapeOk.l1 N k m64.2.2.2.1 (m64.2.2.2.1.length : Int) 0 m64)
noncomputable def impl_Book_shapeOk.l1 (N : Nat) : Nat → List Int → Int → Int → (Int × List Int × (List Int × List Int × List Int × List Int) × List Int × List Int × List Int) → Option (Bool × Unit)
  | 0, _, _, _, _ => none
  | k + 1, v82, v83, v84, m64 => (bif decide (v84 < v83) then (bif (bif decide (0 ≤ v84) then decide (v84 < (v82.length : Int)) else false) then (bif (v82.getD v84.toNat 0 != 0) then (impl_Book_isIn N m64 (IntKind.i64.wrap (v82.getD v84.toNat 0 - 1))).bind fun u5 => (bif (!u5.1) then some (false, ()) else impl_Book_shapeOk.l1 N k v82 v83 (IntKind.i64.wrap (v84 + 1)) m64) else impl_Book_shapeOk.l1 N k v82 v83 (IntKind.i64.wrap (v84 + 1)) m64) else none) else impl_Book_shapeOk.l2 N k m64.2.2.1 0 m64)
noncomputable def impl_Book_shapeOk.l2 (N : Nat) : Nat → (List Int × List Int × List Int × List Int) → Int → (Int × List Int × (List Int × List Int × List Int × List Int) × List Int × List Int × List Int) → Option (Bool × Unit)
  | 0, _, _, _ => none
  | k + 1, v99, v100, m64 => (bif decide (v100 < 4) then (bif decide (v100 = 0) then (bif decide ((v99.1.length : Int) > (m64.2.2.2.1.length : Int)) then some (false, ()) else impl_Book_shapeOk.l3 N k v100 v99 v100 v99.1 (v99.1.length : Int) 0 m64) else (bif decide (v100 = 1) then (bif decide ((v99.2.1.length : Int) > (m64.2.2.2.1.length : Int)) then some (false, ()) else impl_Book_shapeOk.l3 N k v100 v99 v100 v99.2.1 (v99.2.1.length : Int) 0 m64) else (bif decide (v100 = 2) then (bif decide ((v99.2.2.1.length : Int) > (m64.2.2.2.1.length : Int)) then some (false, ()) else impl_Book_shapeOk.l3 N k v100 v99 v100 v99.2.2.1 (v99.2.2.1.length : Int) 0 m64) else (bif decide (v100 = 3) then (bif decide ((v99.2.2.2.length : Int) > (m64.2.2.2.1.length : Int)) then some (false, ()) else impl_Book_shapeOk.l3 N k v100 v99 v100 v99.2.2.2 (v99.2.2.2.length : Int) 0 m64) else none)))) else some (true, ()))
noncomputable def impl_Book_shapeOk.l3 (N : Nat) : Nat → Int → (List Int × List Int × List Int × List Int) → Int → List Int → Int → Int → (Int × List Int × (List Int × List Int × List Int × List Int) × List Int × List Int × List Int) → Option (Bool × Unit)
  | 0, _, _, _, _, _, _, _ => none
  | k + 1, v7, v99, v100, v110, v111, v112, m64 => (bif decide (v112 < v111) then (bif (bif decide (0 ≤ v112) then decide (v112 < (v110.length : Int)) else false) then (impl_within N (v110.getD v112.toNat 0) 0 (IntKind.i64.wrap ((m64.2.2.2.1.length : Int) - 1))).bind fun u6 => (bif (!u6.1) then some (false, ()) else (impl_unitsOf N v7).bind fun u7 => (bif decide (u7.1 = 0) then none else (bif (Int.tmod (v110.getD v112.toNat 0) u7.1 != 0) then some (false, ()) else (bif (bif decide (0 ≤ IntKind.i64.wrap (Int.tdiv (v110.getD v112.toNat 0) 8)) then decide (IntKind.i64.wrap (Int.tdiv (v110.getD v112.toNat 0) 8) < (m64.2.1.length : Int)) else false) then (bif (m64.2.1.getD (IntKind.i64.wrap (Int.tdiv (v110.getD v112.toNat 0) 8)).toNat 0 != IntKind.i64.wrap (v7 + 1)) then some (false, ()) else impl_Book_shapeOk.l3 N k v7 v99 v100 v110 v111 (IntKind.i64.wrap (v112 + 1)) m64) else none)))) else none) else impl_Book_shapeOk.l2 N k v99 (IntKind.i64.wrap (v100 + 1)) m64)
end
noncomputable def impl_Book_shapeOk (N : Nat) (a0 : Int × List Int × (List Int × List Int × List Int × List Int) × List Int × List Int × List Int) : Option (Bool × Unit) := (impl_within N a0.1 1 4).bind fun u1 => (bif (!u1.1) then some (false, ()) else (impl_within N (a0.2.1.length : Int) 1 6).bind fun u2 => (bif (!u2.1) then some (false, ()) else (bif ((a0.2.2.2.1.length : Int) != IntKind.i64.wrap (8 * (a0.2.1.length : Int))) then some (false, ()) else (bif ((a0.2.2.2.2.1.length : Int) != a0.1) then some (false, ()) else (bif ((a0.2.2.2.2.2.length : Int) != a0.1) then some (false, ()) else impl_Book_shapeOk.l0 N N a0.2.2.2.2.1 (a0.2.2.2.2.1.length : Int) 0 a0)))))
noncomputable def C_impl_Book_shapeOk (N : Nat) : Cx := ⟨tt, [E_impl_within N, E_impl_unitsOf N, E_impl_Book_isIn N], [], [], []⟩
noncomputable def E_impl_Book_shapeOk (N : Nat) : Ent := { f := 74, par := (.agg (.pair (.int .i64) (.pair (.sl .bor (.int .i64)) (.pair (.agg (.pair (.sl .bor (.int .i64)) (.pair (.sl .bor (.int .i64)) (.pair (.sl .bor (.int .i64)) (.sl .bor (.int .i64)))))) (.pair (.sl .bor (.int .i64)) (.pair (.sl .bor (.int .i64)) (.sl .bor (.int .i64)))))))), sto := [], res := .bool, osto := [], fn := fun (x : Int × List Int × (List Int × List Int × List Int × List Int) × List Int × List Int × List Int) (y : Unit) => impl_Book_shapeOk N x }
noncomputable def L_impl_Book_shapeOk (N : Nat) : List (LpE ((E_impl_Book_shapeOk N).res.D × SD (E_impl_Book_shapeOk N).osto)) := [⟨[0, 1, 0, 1, 1], ⟨[(1, (.ptr 64 [] 0)), (49, (.sl .bor (.int .i64))), (50, (.int .i64)), (51, (.int .i64))], [(64, .box (.agg (.pair (.int .i64) (.pair (.sl .bor (.int .i64)) (.pair (.agg (.pair (.sl .bor (.int .i64)) (.pair (.sl .bor (.int .i64)) (.pair (.sl .bor (.int .i64)) (.sl .bor (.int .i64)))))) (.pair (.sl .bor (.int .i64)) (.pair (.sl .bor (.int .i64)) (.sl .bor (.int .i64)))))))))], 128⟩, fun k (x : Unit × List Int × Int × Int) (y : (Int × List Int × (List Int × List Int × List Int × List Int) × List Int × List Int × List Int)) => impl_Book_shapeOk.l0 N k x.2.1 x.2.2.1 x.2.2.2 y⟩, ⟨[0, 1, 0, 1, 1, 1], ⟨[(1, (.ptr 64 [] 0)), (82, (.sl .bor (.int .i64))), (83, (.int .i64)), (84, (.int .i64))], [(64, .box (.agg (.pair (.int .i64) (.pair (.sl .bor (.int .i64)) (.pair (.agg (.pair (.sl .bor (.int .i64)) (.pair (.sl .bor (.int .i64)) (.pair (.sl .bor (.int .i64)) (.sl .bor (.int .i64)))))) (.pair (.sl .bor (.int .i64)) (.pair (.sl .bor (.int .i64)) (.sl .bor (.int .i64)))))))))], 128⟩, fun k (x : Unit × List Int × Int × Int) (y : (Int × List Int × (List Int × List Int × List Int × List Int) × List Int × List Int × List Int)) => impl_Book_shapeOk.l1 N k x.2.1 x.2.2.1 x.2.2.2 y⟩, ⟨[0, 1, 0, 1, 1, 1, 1], ⟨[(1, (.ptr 64 [] 0)), (99, (.agg (.pair (.sl .bor (.int .i64)) (.pair (.sl .bor (.int .i64)) (.pair (.sl .bor (.int .i64)) (.sl .bor (.int .i64))))))), (100, (.int .i64))], [(64, .box (.agg (.pair (.int .i64) (.pair (.sl .bor (.int .i64)) (.pair (.agg (.pair (.sl .bor (.int .i64)) (.pair (.sl .bor (.int .i64)) (.pair (.sl .bor (.int .i64)) (.sl .bor (.int .i64)))))) (.pair (.sl .bor (.int .i64)) (.pair (.sl .bor (.int .i64)) (.sl .bor (.int .i64)))))))))], 128⟩, fun k (x : Unit × (List Int × List Int × List Int × List Int) × Int) (y : (Int × List Int × (List Int × List Int × List Int × List Int) × List Int × List Int × List Int)) => impl_Book_shapeOk.l2 N k x.2.1 x.2.2 y⟩, ⟨[0, 1, 1, 1, 0, 0, 1, 1, 0, 0, 1, 0, 1, 1, 1, 1], ⟨[(1, (.ptr 64 [] 0)), (7, (.int .i64)), (99, (.agg (.pair (.sl .bor (.int .i64)) (.pair (.sl .bor (.int .i64)) (.pair (.sl .bor (.int .i64)) (.sl .bor (.int .i64))))))), (100, (.int .i64)), (110, (.sl .bor (.int .i64))), (111, (.int .i64)), (112, (.int .i64))], [(64, .box (.agg (.pair (.int .i64) (.pair (.sl .bor (.int .i64)) (.pair (.agg (.pair (.sl .bor (.int .i64)) (.pair (.sl .bor (.int .i64)) (.pair (.sl .bor (.int .i64)) (.sl .bor (.int .i64)))))) (.pair (.sl .bor (.int .i64)) (.pair (.sl .bor (.int .i64)) (.sl .bor (.int .i64)))))))))], 128⟩, fun k (x : Unit × Int × (List Int × List Int × List Int × List Int) × Int × List Int × Int × Int) (y : (Int × List Int × (List Int × List Int × List Int × List Int) × List Int × List Int × List Int)) => impl_Book_shapeOk.l3 N k x.2.1 x.2.2.1 x.2.2.2.1 x.2.2.2.2.1 x.2.2.2.2.2.1 x.2.2.2.2.2.2 y⟩]
theorem ok_impl_Book_shapeOk (N : Nat) : EntOk Tryd.prog (E_impl_Book_shapeOk N) := ent_of (C := C_impl_Book_shapeOk N) ⟨tt_ok, (tab_cons (ok_impl_within N) (tab_cons (ok_impl_unitsOf N) (tab_cons (ok_impl_Book_isIn N) tab_nil))), (fun t h => by simp [C_impl_Book_shapeOk] at h)⟩ mixed (fn := Tryd.f74) Tryd.func74 (by kernel_rfl) (by kernel_rfl) (by kernel_rfl) (by kernel_rfl) (by kernel_rfl) (L_impl_Book_shapeOk N) N (fun x y => by kernel_rfl) ⟨⟨by kernel_rfl, fun _ _ => rfl, fun k x y => by kernel_rfl⟩, ⟨⟨by kernel_rfl, fun _ _ => rfl, fun k x y => by kernel_rfl⟩, ⟨⟨by kernel_rfl, fun _ _ => rfl, fun k x y => by kernel_rfl⟩, ⟨⟨by kernel_rfl, fun _ _ => rfl, fun k x y => by kernel_rfl⟩, trivial⟩⟩⟩⟩
noncomputable def impl_Book_owned.l0 (N : Nat) : Nat → Int → List Int → Int → Int → Option (Int × Unit)
  | 0, _, _, _, _ => none
  | k + 1, v7, v14, v15, v16 => (bif decide (v16 < v15) then (bif (bif decide (0 ≤ v16) then decide (v16 < (v14.length : Int)) else false) then (bif (v14.getD v16.toNat 0 != 0) then impl_Book_owned.l0 N k (IntKind.i64.wrap (v7 + 1)) v14 v15 (IntKind.i64.wrap (v16 + 1)) else impl_Book_owned.l0 N k v7 v14 v15 (IntKind.i64.wrap (v16 + 1))) else none) else some (v7, ()))
noncomputable def impl_Book_owned (N : Nat) (a0 : Int × List Int × (List Int × List Int × List Int × List Int) × List Int × List Int × List Int) (a1 : Int) (a2 : Int) : Option (Int × Unit) := (bif (bif (bif decide (0 ≤ a2) then decide (a2 ≤ (a0.2.2.2.1.length : Int)) else false) then (bif decide (0 ≤ a1) then decide (a1 ≤ a2) else false) else false) then impl_Book_owned.l0 N N 0 ((a0.2.2.2.1.take a2.toNat).drop a1.toNat) (((a0.2.2.2.1.take a2.toNat).drop a1.toNat).length : Int) 0 else none)
noncomputable def C_impl_Book_owned (N : Nat) : Cx := ⟨tt, [], [], [], []⟩
noncomputable def E_impl_Book_owned (N : Nat) : Ent := { f := 75, par := (.pair (.agg (.pair (.int .i64) (.pair (.sl .bor (.int .i64)) (.pair (.agg (.pair (.sl .bor (.int .i64)) (.pair (.sl .bor (.int .i64)) (.pair (.sl .bor (.int .i64)) (.sl .bor (.int .i64)))))) (.pair (.sl .bor (.int .i64)) (.pair (.sl .bor (.int .i64)) (.sl .bor (.int .i64)))))))) (.pair (.int .i64) (.int .i64))), sto := [], res := (.int .i64), osto := [], fn := fun (x : (Int × List Int × (List Int × List Int × List Int × List Int) × List Int × List Int × List Int) × Int × Int) (y : Unit) => impl_Book_owned N x.1 x.2.1 x.2.2 }
noncomputable def L_impl_Book_owned (N : Nat) : List (LpE ((E_impl_Book_owned N).res.D × SD (E_impl_Book_owned N).osto)) := [⟨[0, 1, 0, 1, 1], ⟨[(7, (.int .i64)), (14, (.sl .bor (.int .i64))), (15, (.int .i64)), (16, (.int .i64))], [], 64⟩, fun k (x : Int × List Int × Int × Int) (y : Unit) => impl_Book_owned.l0 N k x.1 x.2.1 x.2.2.1 x.2.2.2⟩]
theorem ok_impl_Book_owned (N : Nat) : EntOk Tryd.prog (E_impl_Book_owned N) := ent_of (C := C_impl_Book_owned N) ⟨tt_ok, tab_nil, (fun t h => by simp [C_impl_Book_owned] at h)⟩ mixed (fn := Tryd.f75) Tryd.func75 (by kernel_rfl) (by kernel_rfl) (by kernel_rfl) (by kernel_rfl) (by kernel_rfl) (L_impl_Book_owned N) N (fun x y => by kernel_rfl) ⟨⟨by kernel_rfl, fun _ _ => rfl, fun k x y => by kernel_rfl⟩, trivial⟩
noncomputable def impl_isKind (N : Nat) (a0 : Int) : Option (Bool × Unit) := (impl_within N a0 1 4).bind fun u1 => some (u1.1, ())
noncomputable def C_impl_isKind (N : Nat) : Cx := ⟨tt, [E_impl_within N], [], [], []⟩
noncomputable def E_impl_isKind (N : Nat) : Ent := { f := 76, par := (.int .i64), sto := [], res := .bool, osto := [], fn := fun (x : Int) (y : Unit) => impl_isKind N x }
noncomputable def L_impl_isKind (N : Nat) : List (LpE ((E_impl_isKind N).res.D × SD (E_impl_isKind N).osto)) := []
theorem ok_impl_isKind (N : Nat) : EntOk Tryd.prog (E_impl_isKind N) := ent_of (C := C_impl_isKind N) ⟨tt_ok, (tab_cons (ok_impl_within N) tab_nil), (fun t h => by simp [C_impl_isKind] at h)⟩ mixed (fn := Tryd.f76) Tryd.func76 (by kernel_rfl) (by kernel_rfl) (by kernel_rfl) (by kernel_rfl) (by kernel_rfl) (L_impl_isKind N) N (fun x y => by kernel_rfl) trivial
mutual
noncomputable def impl_Book_kindOk.l0 (N : Nat) : Nat → Int → Int → Int → (Int × List Int × (List Int × List Int × List Int × List Int) × List Int × List Int × List Int) → Option (Bool × Unit)
  | 0, _, _, _, _ => none
  | k + 1, v5, v6, v7, m64 => (bif decide (v7 < IntKind.i64.wrap (v6 + 8)) then (bif decide (v5 = 0) then impl_Book_kindOk.l1 N k v5 v6 v7 0 m64.2.2.1.1 (m64.2.2.1.1.length : Int) 0 m64 else (bif decide (v5 = 1) then impl_Book_kindOk.l1 N k v5 v6 v7 0 m64.2.2.1.2.1 (m64.2.2.1.2.1.length : Int) 0 m64 else (bif decide (v5 = 2) then impl_Book_kindOk.l1 N k v5 v6 v7 0 m64.2.2.1.2.2.1 (m64.2.2.1.2.2.1.length : Int) 0 m64 else (bif decide (v5 = 3) then impl_Book_kindOk.l1 N k v5 v6 v7 0 m64.2.2.1.2.2.2 (m64.2.2.1.2.2.2.length : Int) 0 m64 else none)))) else (impl_Book_owned N m64 v6 (IntKind.i64.wrap (v6 + 8))).bind fun u1 => some (decide (u1.1 > 0), ()))
noncomputable def impl_Book_kindOk.l1 (N : Nat) : Nat → Int → Int → Int → Int → List Int → Int → Int → (Int × List Int × (List Int × List Int × List Int × List Int) × List Int × List Int × List Int) → Option (Bool × Unit)
  | 0, _, _, _, _, _, _, _, _ => none
  | k + 1, v5, v6, v7, v8, v30, v31, v32, m64 => (bif decide (v32 < v31) then (bif (bif decide (0 ≤ v32) then decide (v32 < (v30.length : Int)) else false) then (bif (v30.getD v32.toNat 0 == v7) then impl_Book_kindOk.l1 N k v5 v6 v7 (IntKind.i64.wrap (v8 + 1)) v30 v31 (IntKind.i64.wrap (v32 + 1)) m64 else impl_Book_kindOk.l1 N k v5 v6 v7 v8 v30 v31 (IntKind.i64.wrap (v32 + 1)) m64) else none) else (impl_unitsOf N v5).bind fun u2 => (bif decide (u2.1 = 0) then none else (bif (Int.tmod v7 u2.1 == 0) then (bif (bif decide (0 ≤ v7) then decide (v7 < (m64.2.2.2.1.length : Int)) else false) then (bif ((m64.2.2.2.1.getD v7.toNat 0 != 0) == decide (v8 > 0)) then some (false, ()) else (bif decide (v8 > 1) then some (false, ()) else (bif (!(Int.tmod v7 u2.1 == 0)) then (bif (bif decide (0 ≤ v7) then decide (v7 < (m64.2.2.2.1.length : Int)) else false) then (bif (m64.2.2.2.1.getD v7.toNat 0 != 0) then some (false, ()) else impl_Book_kindOk.l0 N k v5 v6 (IntKind.i64.wrap (v7 + 1)) m64) else none) else impl_Book_kindOk.l0 N k v5 v6 (IntKind.i64.wrap (v7 + 1)) m64))) else none) else (bif decide (v8 > 1) then some (false, ()) else (bif (!(Int.tmod v7 u2.1 == 0)) then (bif (bif decide (0 ≤ v7) then decide (v7 < (m64.2.2.2.1.length : Int)) else false) then (bif (m64.2.2.2.1.getD v7.toNat 0 != 0) then some (false, ()) else impl_Book_kindOk.l0 N k v5 v6 (IntKind.i64.wrap (v7 + 1)) m64) else none) else impl_Book_kindOk.l0 N k v5 v6 (IntKind.i64.wrap (v7 + 1)) m64)))))
end
noncomputable def impl_Book_kindOk (N : Nat) (a0 : Int × List Int × (List Int × List Int × List Int × List Int) × List Int × List Int × List Int) (a1 : Int) : Option (Bool × Unit) := (bif (bif decide (0 ≤ a1) then decide (a1 < (a0.2.1.length : Int)) else false) then impl_Book_kindOk.l0 N N (IntKind.i64.wrap (a0.2.1.getD a1.toNat 0 - 1)) (IntKind.i64.wrap (a1 * 8)) (IntKind.i64.wrap (a1 * 8)) a0 else none)
noncomputable def C_impl_Book_kindOk (N : Nat) : Cx := ⟨tt, [E_impl_Book_owned N, E_impl_unitsOf N], [], [], []⟩
noncomputable def E_impl_Book_kindOk (N : Nat) : Ent := { f := 77, par := (.pair (.agg (.pair (.int .i64) (.pair (.sl .bor (.int .i64)) (.pair (.agg (.pair (.sl .bor (.int .i64)) (.pair (.sl .bor (.int .i64)) (.pair (.sl .bor (.int .i64)) (.sl .bor (.int .i64)))))) (.pair (.sl .bor (.int .i64)) (.pair (.sl .bor (.int .i64)) (.sl .bor (.int .i64)))))))) (.int .i64)), sto := [], res := .bool, osto := [], fn := fun (x : (Int × List Int × (List Int × List Int × List Int × List Int) × List Int × List Int × List Int) × Int) (y : Unit) => impl_Book_kindOk N x.1 x.2 }
noncomputable def L_impl_Book_kindOk (N : Nat) : List (LpE ((E_impl_Book_kindOk N).res.D × SD (E_impl_Book_kindOk N).osto)) := [⟨[0, 1, 0, 1, 1, 1], ⟨[(2, (.ptr 64 [] 0)), (5, (.int .i64)), (6, (.int .i64)), (7, (.int .i64))], [(64, .box (.agg (.pair (.int .i64) (.pair (.sl .bor (.int .i64)) (.pair (.agg (.pair (.sl .bor (.int .i64)) (.pair (.sl .bor (.int .i64)) (.pair (.sl .bor (.int .i64)) (.sl .bor (.int .i64)))))) (.pair (.sl .bor (.int .i64)) (.pair (.sl .bor (.int .i64)) (.sl .bor (.int .i64)))))))))], 128⟩, fun k (x : Unit × Int × Int × Int) (y : (Int × List Int × (List Int × List Int × List Int × List Int) × List Int × List Int × List Int)) => impl_Book_kindOk.l0 N k x.2.1 x.2.2.1 x.2.2.2 y⟩, ⟨[0, 1, 0, 1, 0, 0, 1, 0, 0, 1, 0, 1, 1, 1], ⟨[(2, (.ptr 64 [] 0)), (5, (.int .i64)), (6, (.int .i64)), (7, (.int .i64)), (8, (.int .i64)), (30, (.sl .bor (.int .i64))), (31, (.int .i64)), (32, (.int .i64))], [(64, .box (.agg (.pair (.int .i64) (.pair (.sl .bor (.int .i64)) (.pair (.agg (.pair (.sl .bor (.int .i64)) (.pair (.sl .bor (.int .i64)) (.pair (.sl .bor (.int .i64)) (.sl .bor (.int .i64)))))) (.pair (.sl .bor (.int .i64)) (.pair (.sl .bor (.int .i64)) (.sl .bor (.int .i64)))))))))], 128⟩, fun k (x : Unit × Int × Int × Int × Int × List Int × Int × Int) (y : (Int × List Int × (List Int × List Int × List Int × List Int) × List Int × List Int × List Int)) => impl_Book_kindOk.l1 N k x.2.1 x.2.2.1 x.2.2.2.1 x.2.2.2.2.1 x.2.2.2.2.2.1 x.2.2.2.2.2.2.1 x.2.2.2.2.2.2.2 y⟩]
theorem ok_impl_Book_kindOk (N : Nat) : EntOk Tryd.prog (E_impl_Book_kindOk N) := ent_of (C := C_impl_Book_kindOk N) ⟨tt_ok, (tab_cons (ok_impl_Book_owned N) (tab_cons (ok_impl_unitsOf N) tab_nil)), (fun t h => by simp [C_impl_Book_kindOk] at h)⟩ mixed (fn := Tryd.f77) Tryd.func77 (by kernel_rfl) (by kernel_rfl) (by kernel_rfl) (by kernel_rfl) (by kernel_rfl) (L_impl_Book_kindOk N) N (fun x y => by kernel_rfl) ⟨⟨by kernel_rfl, fun _ _ => rfl, fun k x y => by kernel_rfl⟩, ⟨⟨by kernel_rfl, fun _ _ => rfl, fun k x y => by kernel_rfl⟩, trivial⟩⟩
mutual
noncomputable def impl_BookOk.l0 (N : Nat) : Nat → Int → (Int × List Int × (List Int × List Int × List Int × List Int) × List Int × List Int × List Int) → Option (Bool × Unit)
  | 0, _, _ => none
  | k + 1, v3, m64 => (bif decide (v3 < (m64.2.1.length : Int)) then (bif (bif decide (0 ≤ v3) then decide (v3 < (m64.2.1.length : Int)) else false) then (bif (m64.2.1.getD v3.toNat 0 == 0) then (impl_Book_owned N m64 (IntKind.i64.wrap (v3 * 8)) (IntKind.i64.wrap (IntKind.i64.wrap (v3 * 8) + 8))).bind fun u2 => (bif decide (u2.1 > 0) then some (false, ()) else impl_BookOk.l0 N k (IntKind.i64.wrap (v3 + 1)) m64) else (impl_isKind N (m64.2.1.getD v3.toNat 0)).bind fun u3 => (bif u3.1 then (impl_Book_kindOk N m64 v3).bind fun u4 => (bif (!u4.1) then some (false, ()) else impl_BookOk.l0 N k (IntKind.i64.wrap (v3 + 1)) m64) else (impl_within N (IntKind.i64.wrap (m64.2.1.getD v3.toNat 0 - 8)) 2 4).bind fun u5 => (bif (!u5.1) then some (false, ()) else (bif decide (IntKind.i64.wrap (m64.2.1.getD v3.toNat 0 - 8) > IntKind.i64.wrap ((m64.2.1.length : Int) - v3)) then some (false, ()) else (bif (bif decide (0 ≤ IntKind.i64.wrap (v3 * 8)) then decide (IntKind.i64.wrap (v3 * 8) < (m64.2.2.2.1.length : Int)) else false) then (bif (m64.2.2.2.1.getD (IntKind.i64.wrap (v3 * 8)).toNat 0 == 0) then some (false, ()) else (impl_Book_owned N m64 (IntKind.i64.wrap (v3 * 8)) (IntKind.i64.wrap (IntKind.i64.wrap (v3 * 8) + IntKind.i64.wrap (IntKind.i64.wrap (m64.2.1.getD v3.toNat 0 - 8) * 8)))).bind fun u6 => (bif (u6.1 != 1) then some (false, ()) else impl_BookOk.l1 N k v3 (IntKind.i64.wrap (IntKind.i64.wrap (m64.2.1.getD v3.toNat 0 - 8) - 1)) 0 m64)) else none))))) else none) else some (true, ()))
noncomputable def impl_BookOk.l1 (N : Nat) : Nat → Int → Int → Int → (Int × List Int × (List Int × List Int × List Int × List Int) × List Int × List Int × List Int) → Option (Bool × Unit)
  | 0, _, _, _, _ => none
  | k + 1, v3, v57, v58, m64 => (bif decide (v58 < v57) then (bif (bif decide (0 ≤ IntKind.i64.wrap (v3 + 1)) then decide (IntKind.i64.wrap (v3 + 1) < (m64.2.1.length : Int)) else false) then (bif (m64.2.1.getD (IntKind.i64.wrap (v3 + 1)).toNat 0 != 7) then some (false, ()) else impl_BookOk.l1 N k (IntKind.i64.wrap (v3 + 1)) v57 (IntKind.i64.wrap (v58 + 1)) m64) else none) else impl_BookOk.l0 N k (IntKind.i64.wrap (v3 + 1)) m64)
end
noncomputable def impl_BookOk (N : Nat) (a0 : Int × List Int × (List Int × List Int × List Int × List Int) × List Int × List Int × List Int) : Option (Bool × Unit) := (impl_Book_shapeOk N a0).bind fun u1 => (bif (!u1.1) then some (false, ()) else impl_BookOk.l0 N N 0 a0)
noncomputable def C_impl_BookOk (N : Nat) : Cx := ⟨tt, [E_impl_within N, E_impl_Book_shapeOk N, E_impl_Book_owned N, E_impl_isKind N, E_impl_Book_kindOk N], [], [], []⟩
noncomputable def E_impl_BookOk (N : Nat) : Ent := { f := 38, par := (.agg (.pair (.int .i64) (.pair (.sl .bor (.int .i64)) (.pair (.agg (.pair (.sl .bor (.int .i64)) (.pair (.sl .bor (.int .i64)) (.pair (.sl .bor (.int .i64)) (.sl .bor (.int .i64)))))) (.pair (.sl .bor (.int .i64)) (.pair (.sl .bor (.int .i64)) (.sl .bor (.int .i64)))))))), sto := [], res := .bool, osto := [], fn := fun (x : Int × List Int × (List Int × List Int × List Int × List Int) × List Int × List Int × List Int) (y : Unit) => impl_BookOk N x }
noncomputable def L_impl_BookOk (N : Nat) : List (LpE ((E_impl_BookOk N).res.D × SD (E_impl_BookOk N).osto)) := [⟨[0, 1, 0, 1, 1], ⟨[(1, (.ptr 64 [] 0)), (3, (.int .i64))], [(64, .box (.agg (.pair (.int .i64) (.pair (.sl .bor (.int .i64)) (.pair (.agg (.pair (.sl .bor (.int .i64)) (.pair (.sl .bor (.int .i64)) (.pair (.sl .bor (.int .i64)) (.sl .bor (.int .i64)))))) (.pair (.sl .bor (.int .i64)) (.pair (.sl .bor (.int .i64)) (.sl .bor (.int .i64)))))))))], 128⟩, fun k (x : Unit × Int) (y : (Int × List Int × (List Int × List Int × List Int × List Int) × List Int × List Int × List Int)) => impl_BookOk.l0 N k x.2 y⟩, ⟨[0, 1, 1, 1, 1, 1, 1, 1, 0, 1, 1, 0, 0, 1, 0, 0, 1, 0, 1, 1], ⟨[(1, (.ptr 64 [] 0)), (3, (.int .i64)), (57, (.int .i64)), (58, (.int .i64))], [(64, .box (.agg (.pair (.int .i64) (.pair (.sl .bor (.int .i64)) (.pair (.agg (.pair (.sl .bor (.int .i64)) (.pair (.sl .bor (.int .i64)) (.pair (.sl .bor (.int .i64)) (.sl .bor (.int .i64)))))) (.pair (.sl .bor (.int .i64)) (.pair (.sl .bor (.int .i64)) (.sl .bor (.int .i64)))))))))], 128⟩, fun k (x : Unit × Int × Int × Int) (y : (Int × List Int × (List Int × List Int × List Int × List Int) × List Int × List Int × List Int)) => impl_BookOk.l1 N k x.2.1 x.2.2.1 x.2.2.2 y⟩]
theorem ok_impl_BookOk (N : Nat) : EntOk Tryd.prog (E_impl_BookOk N) := ent_of (C := C_impl_BookOk N) ⟨tt_ok, (tab_cons (ok_impl_within N) (tab_cons (ok_impl_Book_shapeOk N) (tab_cons (ok_impl_Book_owned N) (tab_cons (ok_impl_isKind N) (tab_cons (ok_impl_Book_kindOk N) tab_nil))))), (fun t h => by simp [C_impl_BookOk] at h)⟩ mixed (fn := Tryd.f38) Tryd.func38 (by kernel_rfl) (by kernel_rfl) (by kernel_rfl) (by kernel_rfl) (by kernel_rfl) (L_impl_BookOk N) N (fun x y => by kernel_rfl) ⟨⟨by kernel_rfl, fun _ _ => rfl, fun k x y => by kernel_rfl⟩, ⟨⟨by kernel_rfl, fun _ _ => rfl, fun k x y => by kernel_rfl⟩, trivial⟩⟩
noncomputable def impl_Book_at.l0 (N : Nat) : Nat → Int → Int → (Int × List Int × (List Int × List Int × List Int × List Int) × List Int × List Int × List Int) → Option ((Int × Int × Int) × Unit)
  | 0, _, _, _ => none
  | k + 1, v1, v7, m64 => (bif (bif decide (0 ≤ v7) then decide (v7 < (m64.2.1.length : Int)) else false) then (bif (m64.2.1.getD v7.toNat 0 == 7) then impl_Book_at.l0 N k v1 (IntKind.i64.wrap (v7 - 1)) m64 else (bif (bif decide (0 ≤ v7) then decide (v7 < (m64.2.1.length : Int)) else false) then (bif (m64.2.1.getD v7.toNat 0 == 0) then some ((IntKind.i64.wrap (v7 * 8), 0, 0), ()) else (impl_isKind N (m64.2.1.getD v7.toNat 0)).bind fun u1 => (bif u1.1 then (impl_unitsOf N (IntKind.i64.wrap (m64.2.1.getD v7.toNat 0 - 1))).bind fun u2 => (bif decide (u2.1 = 0) then none else (bif (bif decide (0 ≤ IntKind.i64.wrap (v1 - Int.tmod v1 u2.1)) then decide (IntKind.i64.wrap (v1 - Int.tmod v1 u2.1) < (m64.2.2.2.1.length : Int)) else false) then some ((IntKind.i64.wrap (v1 - Int.tmod v1 u2.1), u2.1, m64.2.2.2.1.getD (IntKind.i64.wrap (v1 - Int.tmod v1 u2.1)).toNat 0), ()) else none)) else (bif (bif decide (0 ≤ IntKind.i64.wrap (v7 * 8)) then decide (IntKind.i64.wrap (v7 * 8) < (m64.2.2.2.1.length : Int)) else false) then some ((IntKind.i64.wrap (v7 * 8), IntKind.i64.wrap (IntKind.i64.wrap (m64.2.1.getD v7.toNat 0 - 8) * 8), m64.2.2.2.1.getD (IntKind.i64.wrap (v7 * 8)).toNat 0), ()) else none))) else none)) else none)
noncomputable def impl_Book_at (N : Nat) (a0 : Int × List Int × (List Int × List Int × List Int × List Int) × List Int × List Int × List Int) (a1 : Int) : Option ((Int × Int × Int) × Unit) := impl_Book_at.l0 N N a1 (IntKind.i64.wrap (Int.tdiv a1 8)) a0
noncomputable def C_impl_Book_at (N : Nat) : Cx := ⟨tt, [E_impl_isKind N, E_impl_unitsOf N], [], [], []⟩
noncomputable def E_impl_Book_at (N : Nat) : Ent := { f := 40, par := (.pair (.agg (.pair (.int .i64) (.pair (.sl .bor (.int .i64)) (.pair (.agg (.pair (.sl .bor (.int .i64)) (.pair (.sl .bor (.int .i64)) (.pair (.sl .bor (.int .i64)) (.sl .bor (.int .i64)))))) (.pair (.sl .bor (.int .i64)) (.pair (.sl .bor (.int .i64)) (.sl .bor (.int .i64)))))))) (.int .i64)), sto := [], res := (.tup (.pair (.int .i64) (.pair (.int .i64) (.int .i64)))), osto := [], fn := fun (x : (Int × List Int × (List Int × List Int × List Int × List Int) × List Int × List Int × List Int) × Int) (y : Unit) => impl_Book_at N x.1 x.2 }
noncomputable def L_impl_Book_at (N : Nat) : List (LpE ((E_impl_Book_at N).res.D × SD (E_impl_Book_at N).osto)) := [⟨[0, 0, 1, 1], ⟨[(1, (.int .i64)), (2, (.ptr 64 [] 0)), (7, (.int .i64))], [(64, .box (.agg (.pair (.int .i64) (.pair (.sl .bor (.int .i64)) (.pair (.agg (.pair (.sl .bor (.int .i64)) (.pair (.sl .bor (.int .i64)) (.pair (.sl .bor (.int .i64)) (.sl .bor (.int .i64)))))) (.pair (.sl .bor (.int .i64)) (.pair (.sl .bor (.int .i64)) (.sl .bor (.int .i64)))))))))], 128⟩, fun k (x : Int × Unit × Int) (y : (Int × List Int × (List Int × List Int × List Int × List Int) × List Int × List Int × List Int)) => impl_Book_at.l0 N k x.1 x.2.2 y⟩]
theorem ok_impl_Book_at (N : Nat) : EntOk Tryd.prog (E_impl_Book_at N) := ent_of (C := C_impl_Book_at N) ⟨tt_ok, (tab_cons (ok_impl_isKind N) (tab_cons (ok_impl_unitsOf N) tab_nil)), (fun t h => by simp [C_impl_Book_at] at h)⟩ mixed (fn := Tryd.f40) Tryd.func40 (by kernel_rfl) (by kernel_rfl) (by kernel_rfl) (by kernel_rfl) (by kernel_rfl) (L_impl_Book_at N) N (fun x y => by kernel_rfl) ⟨⟨by kernel_rfl, fun _ _ => rfl, fun k x y => by kernel_rfl⟩, trivial⟩
noncomputable def tmArm (u : Int × Int × Int) (i : Int) : Option (List UInt8) :=
  bif u.2.1 == 0 then some [46]
  else bif u.2.2 == 0 && i == u.1 then some [111]
  else bif u.2.2 == 0 then some [45]
  else bif i == u.1 then (bif decide (1 ≤ u.2.2 ∧ u.2.2 ≤ 100 ∧ (Lib.decDigits (u.2.2 - 1).toNat).length ≤ 100) then some (Lib.decDigits (u.2.2 - 1).toNat) else none)
  else some [61]
noncomputable def tmBar (i : Nat) (s : List UInt8) : List UInt8 := bif decide (0 < i) && (i % 8 == 0) then s ++ [124] else s
noncomputable def impl_TidyMap.l0 (N : Nat) : Nat → Nat → (Int × List Int × (List Int × List Int × List Int × List Int) × List Int × List Int × List Int) → List UInt8 → Option (ByteArray × Unit)
  | 0, _, _, _ => none
  | k + 1, i, a0, s => bif decide (i < a0.2.2.2.1.length) then (bif decide (i < 4611686018427387904 ∧ s.length ≤ 1099511627776) then (impl_Book_at N a0 i).bind fun u => (tmArm u.1 i).bind fun q => impl_TidyMap.l0 N k (i + 1) a0 (tmBar i s ++ q) else none) else some (⟨s.toArray⟩, ())
noncomputable def impl_TidyMap (N : Nat) (a0 : Int × List Int × (List Int × List Int × List Int × List Int) × List Int × List Int × List Int) : Option (ByteArray × Unit) := (impl_BookOk N a0).bind fun u1 => bif (!u1.1) then some (ByteArray.empty, ()) else impl_TidyMap.l0 N N 0 a0 []
noncomputable def C_impl_TidyMap (N : Nat) : Cx := ⟨tt, [], [], [], []⟩
noncomputable def E_impl_TidyMap (N : Nat) : Ent := { f := 12, par := (.agg (.pair (.int .i64) (.pair (.sl .bor (.int .i64)) (.pair (.agg (.pair (.sl .bor (.int .i64)) (.pair (.sl .bor (.int .i64)) (.pair (.sl .bor (.int .i64)) (.sl .bor (.int .i64)))))) (.pair (.sl .bor (.int .i64)) (.pair (.sl .bor (.int .i64)) (.sl .bor (.int .i64)))))))), sto := [], res := .str, osto := [], fn := fun (x : Int × List Int × (List Int × List Int × List Int × List Int) × List Int × List Int × List Int) (y : Unit) => impl_TidyMap N x }
open Go.RowKit Go.Shelf
shelf_lay Lays.n169 Nm 169 at Tryd as tm_lays169
shelf_lay Lays.n171 Nm 171 at Tryd as tm_lays171
theorem tm_extra169 : Builder.Extra Tryd.prog tm_lays169_ren where
  sizeBuilder := by kernel_rfl
  liesBuilder := by kernel_rfl
  t5 := Tryd.underlying5
  a5 := Tryd.isAgg5
  z5 := Tryd.sizeOf5
  v5 := Tryd.zeroValue5
  infoByte := by kernel_rfl
  cellsByte := by kernel_rfl
  sizeByte := by kernel_rfl
  neB5 := by decide
theorem tm_infoByte : (Tryd.prog.info? 5).map (fun i => (i.zero, i.size, i.bytes)) = some (some (.int .u8 0), 1, 1) := by kernel_rfl
theorem tm_sizeBuilder : (Tryd.prog.info? 59).map (·.size) = some 2 := by kernel_rfl
theorem tm_liesBuilder : liesAt Tryd.prog Tryd.prog.depth 59 (2 / Tryd.prog.cellsOf 59) 0 59 1 = true := by kernel_rfl
theorem tm_copyCheck_used (b : Nat) (w : World) (h0 : w.cell? ⟨b, 0, none⟩ = some (.pointer (some ⟨b, 0, none⟩))) :
    Calls Tryd.prog 78 #[.pointer (some ⟨b, 0, none⟩)] w fun e w' => e = .returned (.tuple #[]) ∧ w' = w := by
  obtain ⟨j, hj, _⟩ := Option.map_eq_some_iff.1 tm_sizeBuilder
  go_enter Tryd.func78, Tryd.ntmps78
  go_wp2
  rw [Lib.run_neq_ptr_same w _ Tryd.underlying57 hj]
  go_wp2
  go_end0
  exact ⟨rfl, rfl⟩
theorem tm_copyCheck_fresh (b : Nat) (w : World) (h0 : w.cell? ⟨b, 0, none⟩ = some (.pointer none)) (hsh : w.shape? b = some (59, 2)) (hfz : w.frozen? ⟨b, 0, none⟩ = false) :
    Calls Tryd.prog 78 #[.pointer (some ⟨b, 0, none⟩)] w fun e w' => e = .returned (.tuple #[]) ∧ w' = w.setCell ⟨b, 0, none⟩ (.pointer (some ⟨b, 0, none⟩)) := by
  obtain ⟨j, hj, hjs⟩ := Option.map_eq_some_iff.1 tm_sizeBuilder
  go_enter Tryd.func78, Tryd.ntmps78
  go_wp2
  rw [Lib.run_to_unsafe w ⟨b, 0, none⟩ Tryd.underlying57 Tryd.underlying113 hj (by rw [hjs]; decide) hsh (Nat.zero_lt_succ 1)]
  simp only [Result.andThen]
  rw [Oper.upon_value]
  go_wp2
  rw [run_callFunc_extern Tryd.func104 (by kernel_rfl) (by kernel_rfl) (by kernel_rfl) (e := Extern.AbiNoEscape.same) (by kernel_rfl)]
  rw [Lib.run_noEscape]
  simp only [Result.andThen]
  rw [Oper.upon_value]
  go_wp2
  rw [Lib.run_from_unsafe w ⟨b, 0, none⟩ Tryd.underlying113 Tryd.underlying57 hj hsh tm_liesBuilder]
  simp only [Result.andThen]
  rw [Oper.upon_value]
  go_wp2
  go_end0
  exact ⟨rfl, rfl⟩
theorem tm_copyCheck (B b : Nat) (bs : List Value) (w : World) (h : Lib.IsBuilderF 59 5 B b bs w) :
    Calls Tryd.prog 78 #[.pointer (some ⟨b, 0, none⟩)] w fun e w' => e = .returned (.tuple #[]) ∧ (Lib.BuilderAtF 59 5 B b (.pointer (some ⟨b, 0, none⟩)) bs w' ∧ Below B w w') := by
  rcases h with h | h
  · refine (tm_copyCheck_fresh b w h.cell0 h.shape h.frozen0).mono ?_
    rintro e w' ⟨rfl, rfl⟩
    exact ⟨rfl, h.used _, (Below.refl B w).setCell (p := ⟨b, 0, none⟩) h.1 _⟩
  · refine (tm_copyCheck_used b w h.cell0).mono ?_
    rintro e w' ⟨rfl, rfl⟩
    exact ⟨rfl, h, Below.refl B _⟩
set_option maxHeartbeats 2000000 in
theorem tm_writeByte (B b : Nat) (bs : List Value) (c : Int) (w : World) (h : Lib.IsBuilderF 59 5 B b bs w) (hlen : bs.length + 1 ≤ 140737488355328) (hBw : B ≤ w.heap.size) :
    Calls Tryd.prog 39 #[.pointer (some ⟨b, 0, none⟩), .int .u8 c] w fun e w' => e = .returned .nilIface ∧ (Lib.BuilderAtF 59 5 B b (.pointer (some ⟨b, 0, none⟩)) (bs ++ [.int .u8 c]) w' ∧ Below B w w') := by
  obtain ⟨i0, hi, hz0, hz1, hz2⟩ := info_parts tm_infoByte
  go_enter Tryd.func39, Tryd.ntmps39
  go_wp2_with (go_at_call 78; refine (tm_copyCheck B b bs _ h).mono ?_)
  rintro e w1 ⟨rfl, h1, hb1⟩
  obtain ⟨hB, v, hbk, hown, hne⟩ := h1
  have c0 : w1.cell? ⟨b, 0, none⟩ = some (.pointer (some ⟨b, 0, none⟩)) := by rw [Lib.cell_of_heap hbk]; rfl
  have c1 : w1.cell? ⟨b, 1, none⟩ = some v := by rw [Lib.cell_of_heap hbk]; rfl
  go_wp2_with (at_builtin; refine wpList_append_ownF _ rfl _ _ 32 rfl B 5 i0 (.int .u8 0) 1 1 Tryd.underlying32 hi hz0 hz1 hz2 rfl (by decide) _ _ _ rfl (hown.alloc _) ⟨w1.heap.size, 0, none⟩ 1 1 [.int .u8 c] rfl rfl ?c1 ?c2 ?c3 ?c4 ?c5 ?_)
  case c1 =>
    intro j u hj
    match j, hj with
    | 0, hj => simp at hj; subst hj; simp [Addr.add]
  case c2 => intro u hu; simp at hu; subst hu; rfl
  case c3 => unfold maxLen; omega
  case c4 => omega
  case c5 => have := hb1.size; simp; omega
  intro v' w2 hown' hgrow _
  have hlt : b < w1.heap.size := by
    rcases Nat.lt_or_ge b w1.heap.size with h' | h'
    · exact h'
    · simp [Array.getElem?_eq_none h'] at hbk
  have hb2 : w2.heap[b]? = some (.cells #[.pointer (some ⟨b, 0, none⟩), v] 59 (0, 0)) := by
    rw [hgrow.block b (by simp; omega) (fun e => hne e.symm), Lib.alloc_old w1 _ b hlt]
    exact hbk
  have d0 : w2.cell? ⟨b, 0, none⟩ = some (.pointer (some ⟨b, 0, none⟩)) := by rw [Lib.cell_of_heap hb2]; rfl
  have d1 : w2.cell? ⟨b, 1, none⟩ = some v := by rw [Lib.cell_of_heap hb2]; rfl
  have f1 : w2.frozen? ⟨b, 1, none⟩ = false := Lib.frozen_of_heap hb2 1
  obtain ⟨g, cap, rfl⟩ : ∃ g cap, v' = .slice (some ⟨g, 0, none⟩) (bs.length + 1) cap := by
    rcases hown'.2 with ⟨_, h0⟩ | ⟨g, cap, cur, fz, hv, _⟩
    · omega
    · exact ⟨g, cap, hv⟩
  go_wp2
  go_ret
  refine ⟨rfl, ?_, ?_⟩
  · exact Lib.BuilderAtF.put (T := 59) (e := 5) hB hb2 (bs' := bs ++ [.int .u8 c]) (by simpa using hown') (by decide)
  · exact ((hb1.alloc (by have := hb1.size; omega) _).grown hgrow (by have := hb1.size; simp; omega) (fun k hk => (hown.lt k hk).1)).setCell (p := ⟨b, 1, none⟩) hB _
set_option maxHeartbeats 2000000 in
theorem tm_writeString (B b : Nat) (bs : List Value) (s : ByteArray) (w : World) (h : Lib.IsBuilderF 59 5 B b bs w) (hlen : bs.length + s.size ≤ 140737488355328) (hBw : B ≤ w.heap.size) :
    Calls Tryd.prog 41 #[.pointer (some ⟨b, 0, none⟩), .string s] w fun e w' => e = .returned (.tuple #[.int .i64 s.size, .nilIface]) ∧ (Lib.BuilderAtF 59 5 B b (.pointer (some ⟨b, 0, none⟩)) (bs ++ Lib.strCells s) w' ∧ Below B w w') := by
  obtain ⟨i0, hi, hz0, hz1, hz2⟩ := info_parts tm_infoByte
  go_enter Tryd.func41, Tryd.ntmps41
  go_wp2_with (go_at_call 78; refine (tm_copyCheck B b bs _ h).mono ?_)
  rintro e w1 ⟨rfl, h1, hb1⟩
  obtain ⟨hB, v, hbk, hown, hne⟩ := h1
  have c0 : w1.cell? ⟨b, 0, none⟩ = some (.pointer (some ⟨b, 0, none⟩)) := by rw [Lib.cell_of_heap hbk]; rfl
  have c1 : w1.cell? ⟨b, 1, none⟩ = some v := by rw [Lib.cell_of_heap hbk]; rfl
  go_wp2_with (at_builtin; refine Lib.wpList_append_own_stringF _ rfl _ _ 32 9 rfl B 5 i0 Tryd.underlying32 Tryd.underlying9 hi hz0 hz1 hz2 _ _ _ rfl hown s rfl ?c3 ?c4 ?c5 ?_)
  case c3 => unfold maxLen; omega
  case c4 => omega
  case c5 => have := hb1.size; omega
  intro v' w2 hown' hgrow _
  have hlt : b < w1.heap.size := by
    rcases Nat.lt_or_ge b w1.heap.size with h' | h'
    · exact h'
    · simp [Array.getElem?_eq_none h'] at hbk
  have hb2 : w2.heap[b]? = some (.cells #[.pointer (some ⟨b, 0, none⟩), v] 59 (0, 0)) := by
    rw [hgrow.block b hlt (fun e => hne e.symm)]
    exact hbk
  have d0 : w2.cell? ⟨b, 0, none⟩ = some (.pointer (some ⟨b, 0, none⟩)) := by rw [Lib.cell_of_heap hb2]; rfl
  have d1 : w2.cell? ⟨b, 1, none⟩ = some v := by rw [Lib.cell_of_heap hb2]; rfl
  have f1 : w2.frozen? ⟨b, 1, none⟩ = false := Lib.frozen_of_heap hb2 1
  obtain ⟨ao, n', cap, rfl⟩ : ∃ ao n' cap, v' = .slice ao n' cap := by
    rcases hown'.2 with ⟨hv, _⟩ | ⟨g, cap, cur, fz, hv, _⟩
    · exact ⟨_, _, _, hv⟩
    · exact ⟨_, _, _, hv⟩
  go_wp2
  go_ret2
  refine ⟨rfl, ?_, ?_⟩
  · exact Lib.BuilderAtF.put (T := 59) (e := 5) hB hb2 (bs' := bs ++ Lib.strCells s) (by simpa [Lib.strCells_length] using hown') (by decide)
  · exact (hb1.grown hgrow (by have := hb1.size; omega) (fun k hk => (hown.lt k hk).1)).setCell (p := ⟨b, 1, none⟩) hB _
theorem tm_bWriteByte (B b : Nat) (l : List UInt8) (c : UInt8) (w : World) (h : Lib.IsBuilderF 59 5 B b (Lib.byteCells l) w) (hlen : l.length + 1 ≤ 140737488355328) (hBw : B ≤ w.heap.size) :
    Calls Tryd.prog 39 #[.pointer (some ⟨b, 0, none⟩), .int .u8 c.toNat] w fun e w' => e = .returned .nilIface ∧ Lib.IsBuilderF 59 5 B b (Lib.byteCells (l ++ [c])) w' ∧ Below B w w' :=
  (tm_writeByte B b _ c.toNat w h (by rw [Lib.byteCells_length]; exact hlen) hBw).mono fun e w' ⟨h1, h2, h3⟩ => ⟨h1, .inr (by rw [Lib.byteCells_append]; exact h2), h3⟩
theorem tm_bWriteString (B b : Nat) (l : List UInt8) (s : ByteArray) (w : World) (h : Lib.IsBuilderF 59 5 B b (Lib.byteCells l) w) (hlen : l.length + s.size ≤ 140737488355328) (hBw : B ≤ w.heap.size) :
    Calls Tryd.prog 41 #[.pointer (some ⟨b, 0, none⟩), .string s] w fun e w' => (∃ v, e = .returned v) ∧ Lib.IsBuilderF 59 5 B b (Lib.byteCells (l ++ s.data.toList)) w' ∧ Below B w w' :=
  (tm_writeString B b _ s w h (by rw [Lib.byteCells_length]; exact hlen) hBw).mono fun e w' ⟨h1, h2, h3⟩ => ⟨⟨_, h1⟩, .inr (by rw [Lib.byteCells_append]; exact h2), h3⟩
theorem tm_bString (B b : Nat) (l : List UInt8) (w : World) (h : Lib.IsBuilderF 59 5 B b (Lib.byteCells l) w) (hBw : B ≤ w.heap.size) :
    Calls Tryd.prog 43 #[.pointer (some ⟨b, 0, none⟩)] w fun e w' => e = .returned (.string ⟨l.toArray⟩) ∧ Below B w w' :=
  (Any.Builder_String_any_k tm_lays169 tm_extra169 B b l w h hBw).mono fun e w' ⟨h1, h2, h3, _⟩ => ⟨h1, h3⟩
theorem tm_bItoa (i : Nat) (hi : i < 100) (w : World) : Calls Tryd.prog 42 #[.int .i64 i] w fun e w' => e = .returned (.string ⟨(Lib.decDigits i).toArray⟩) ∧ w' = w :=
  Any.strconv_Itoa_small tm_lays171 i hi w
/-- A call that writes nothing. -/
theorem tm_quiet_calls {P : Program} {w : World} {fz bz : Nat → Prop} {φ : Nat → Value} {e : Ent} (he : EntOk P e) (hsto : e.sto = []) {x : e.par.D} {y : SD e.sto} {u : e.res.D × SD e.osto} (hu : e.fn x y = some u) {args : List Value}
    (hr : RepL w fz bz φ e.par x args) (hf : ∀ b, fz b → b < w.heap.size) (hb : ∀ b, bz b → b < w.heap.size) (ho : ∀ j, (φ j).oneCell' = true) :
    Calls P e.f args.toArray w fun r w' => (∃ v, r = .returned v ∧ ∃ fz' φ', RepV w' fz' bz φ' e.res u.1 v) ∧ Below w.heap.size w w' := by
  have hc0 : ∀ (l : List (Nat × CTy)) (_ : l = []) (z : SD l), cellsOf l z = [] := by intro l hl z; subst hl; rfl
  have hc := hc0 e.sto hsto y
  have hS : Go.Pv.Start w fz bz (fun _ => False) φ e.par x (cellsOf e.sto y) args := by
    refine ⟨hr, by rw [hc]; simp, by rw [hc]; simp, by rw [hc]; simp, hf, hb, ho⟩
  refine (he.run x y u hu args w _ _ _ _ hS).mono fun r w' hr => ?_
  cases r with
  | returned v =>
    obtain ⟨fz', φ', hF⟩ := hr
    exact ⟨⟨v, rfl, fz', φ', hF.rep⟩, hF.os, hF.tape, hF.output, hF.size, fun k hk => hF.frame k hk (fun h => h)⟩
  | panicked ch => exact hr.elim
  | outgrown => exact hr.elim
/-- A builder stays one while every old block stands. -/
theorem tm_builder_old {T e : TypeId} {B b : Nat} {bs : List Value} {w w' : World} (h : Lib.IsBuilderF T e B b bs w) (hb : Below w.heap.size w w') : Lib.IsBuilderF T e B b bs w' := by
  have main : ∀ p, Lib.BuilderAtF T e B b p bs w → Lib.BuilderAtF T e B b p bs w' := by
    rintro p ⟨hB, v, h1, h2, h3⟩
    have hlt : ∀ k o, w.heap[k]? = some o → w'.heap[k]? = some o := fun k o hk => by rw [hb.block k (Array.getElem?_eq_some_iff.1 hk).1]; exact hk
    exact ⟨hB, v, hlt _ _ h1, h2.kept (row := none) ⟨hb.os, hb.tape, hb.output, hb.size, fun k hk _ => hb.block k hk⟩ (by
      rcases h2.2 with ⟨rfl, _⟩ | ⟨g, cap, cur, fz, rfl, _⟩
      · exact .inl rfl
      · exact .inr (by simp [Value.ownBlock])), h3⟩
  exact h.imp (main _) (main _)
abbrev tm_tL : Ty := .sl .bor (.int .i64)
abbrev tm_tB : Ty := .agg (.pair (.int .i64) (.pair tm_tL (.pair (.agg (.pair tm_tL (.pair tm_tL (.pair tm_tL tm_tL)))) (.pair tm_tL (.pair tm_tL tm_tL)))))
theorem tm_cOk {N : Nat} {x : (Int × List Int × (List Int × List Int × List Int × List Int) × List Int × List Int × List Int)} {u : Bool × Unit} (hu : impl_BookOk N x = some u) {w : World} {fz bz : Nat → Prop} {φ : Nat → Value} {v : Value} (hr : RepV0 w fz bz φ tm_tB x v) (hf : ∀ b, fz b → b < w.heap.size) (hb : ∀ b, bz b → b < w.heap.size) (ho : ∀ j, (φ j).oneCell' = true)
    (w' : World) (hw : Below w.heap.size w w') : Calls Tryd.prog 38 #[v] w' fun e w'' => e = .returned (.bool u.1) ∧ Below w'.heap.size w' w'' := by
  have hr' : RepV0 w' fz bz φ tm_tB x v := RepV0.mono (fun b hb' => hw.block b (hb'.elim (hf b) (hb b))) (fun _ h => h) (fun _ h => .inr h) (fun _ _ => rfl) hr
  refine (tm_quiet_calls (ok_impl_BookOk N) rfl (y := ()) hu (args := [v]) ⟨v, rfl, hr'⟩ (fun b h => Nat.lt_of_lt_of_le (hf b h) hw.size) (fun b h => Nat.lt_of_lt_of_le (hb b h) hw.size) ho).mono ?_
  rintro e w'' ⟨⟨q, rfl, fz', φ', h1⟩, h2⟩
  have h1 : q = .bool u.1 := by simpa [RepV, RepV0, RepC, E_impl_BookOk] using h1
  exact ⟨by rw [h1], h2⟩
theorem tm_cAt {N : Nat} {x : (Int × List Int × (List Int × List Int × List Int × List Int) × List Int × List Int × List Int)} {i : Int} {u : (Int × Int × Int) × Unit} (hu : impl_Book_at N x i = some u) {w : World} {fz bz : Nat → Prop} {φ : Nat → Value} {v : Value} (hr : RepV0 w fz bz φ tm_tB x v) (hf : ∀ b, fz b → b < w.heap.size) (hb : ∀ b, bz b → b < w.heap.size) (ho : ∀ j, (φ j).oneCell' = true)
    (w' : World) (hw : Below w.heap.size w w') : Calls Tryd.prog 40 #[v, .int .i64 i] w' fun e w'' => e = .returned (.tuple #[.int .i64 u.1.1, .int .i64 u.1.2.1, .int .i64 u.1.2.2]) ∧ Below w'.heap.size w' w'' := by
  have hr' : RepV0 w' fz bz φ tm_tB x v := RepV0.mono (fun b hb' => hw.block b (hb'.elim (hf b) (hb b))) (fun _ h => h) (fun _ h => .inr h) (fun _ _ => rfl) hr
  refine (tm_quiet_calls (ok_impl_Book_at N) rfl (x := (x, i)) (y := ()) hu (args := [v, .int .i64 i]) ⟨v, _, rfl, hr', _, rfl, by simp [RepV0, RepC]⟩ (fun b h => Nat.lt_of_lt_of_le (hf b h) hw.size) (fun b h => Nat.lt_of_lt_of_le (hb b h) hw.size) ho).mono ?_
  rintro e w'' ⟨⟨q, rfl, fz', φ', h1⟩, h2⟩
  have h1 : q = .tuple #[.int .i64 u.1.1, .int .i64 u.1.2.1, .int .i64 u.1.2.2] := by
    obtain ⟨vs, rfl, v1, r1, rfl, g1, v2, r2, rfl, g2, v3, rfl, g3⟩ := h1
    have g1 : v1 = .int .i64 u.1.1 := by simpa [RepV0, RepC] using g1
    have g2 : v2 = .int .i64 u.1.2.1 := by simpa [RepV0, RepC] using g2
    have g3 : v3 = .int .i64 u.1.2.2 := by simpa [RepV0, RepC] using g3
    rw [g1, g2, g3]
  exact ⟨by rw [h1], h2⟩
/-- The builder, as a round finds it: block n; what lies below it is as it was. -/
def tm_Bst (w1 wr : World) (s : List UInt8) : Prop := Lib.IsBuilderF 59 5 w1.heap.size w1.heap.size (Lib.byteCells s) wr ∧ Below w1.heap.size w1 wr
theorem tm_Bst.wb {w1 wr : World} {s : List UInt8} (h : Hid (tm_Bst w1 wr s)) (ci : Int) (hc : ci = (UInt8.ofNat ci.toNat).toNat) (hl : Hid (s.length ≤ 2199023255552)) :
    Calls Tryd.prog 39 #[.pointer (some ⟨w1.heap.size, 0, none⟩), .int .u8 ci] wr fun e w' => e = .returned .nilIface ∧ Hid (tm_Bst w1 w' (s ++ [UInt8.ofNat ci.toNat])) := by
  have hl := hl.out
  have := tm_bWriteByte w1.heap.size w1.heap.size s (UInt8.ofNat ci.toNat) wr h.out.1 (by omega) h.out.2.size
  rw [← hc] at this
  refine this.mono ?_
  rintro e w' ⟨h1, h2, h3⟩
  exact ⟨h1, h2, h.out.2.trans h3⟩
theorem tm_Bst.ws {w1 wr : World} {s : List UInt8} (h : Hid (tm_Bst w1 wr s)) (c : List UInt8) (hl : Hid (s.length ≤ 2199023255552)) (hl2 : c.length ≤ 100) :
    Calls Tryd.prog 41 #[.pointer (some ⟨w1.heap.size, 0, none⟩), .string ⟨c.toArray⟩] wr fun e w' => (∃ v, e = .returned v) ∧ Hid (tm_Bst w1 w' (s ++ c)) := by
  have hl := hl.out
  have e : (ByteArray.mk c.toArray).size = c.length := by simp [ByteArray.size]
  refine (tm_bWriteString _ _ s ⟨c.toArray⟩ wr h.out.1 (by omega) h.out.2.size).mono ?_
  rintro e w' ⟨h1, h2, h3⟩
  exact ⟨h1, h2, h.out.2.trans h3⟩
theorem tm_Bst.old {w1 wr w' : World} {s : List UInt8} (h : Hid (tm_Bst w1 wr s)) (hb : Below wr.heap.size wr w') : Hid (tm_Bst w1 w' s) :=
  ⟨tm_builder_old h.out.1 hb, h.out.2.trans (hb.mono h.out.2.size)⟩
theorem tm_Bst.str {w1 wr : World} {s : List UInt8} (h : Hid (tm_Bst w1 wr s)) :
    Calls Tryd.prog 43 #[.pointer (some ⟨w1.heap.size, 0, none⟩)] wr fun e w' => e = .returned (.string ⟨s.toArray⟩) ∧ Hid (Below w1.heap.size w1 w') := by
  refine (tm_bString _ _ s wr h.out.1 h.out.2.size).mono ?_
  rintro e w' ⟨h1, h3⟩
  exact ⟨h1, h.out.2.trans h3⟩
theorem tm_Bst.cell {w1 wr : World} {s : List UInt8} (h : Hid (tm_Bst w1 wr s)) {n : Nat} (hn : n < w1.heap.size) {cs : Array Value} {T : TypeId} {fr : Nat × Nat} (hk : w1.heap[n]? = some (.cells cs T fr)) (j : Nat) : wr.cell? ⟨n, j, none⟩ = cs[j]? := by
  rw [Lib.cell_of_heap ((h.out.2.block n hn).trans hk)]
theorem tmBar_yes {j : Nat} {s : List UInt8} (h0 : 0 < j) (h8 : ((j : Int) % 8 == 0) = true) : tmBar j s = s ++ [124] := by
  have h8 := eq_of_beq h8
  have h9 : (j % 8 == 0) = true := beq_iff_eq.2 (by omega)
  unfold tmBar
  rw [decide_eq_true h0, h9]
  rfl
theorem tmBar_no0 {j : Nat} {s : List UInt8} (h0 : ¬ 0 < j) : tmBar j s = s := by
  unfold tmBar
  rw [decide_eq_false h0]
  rfl
theorem tmBar_no8 {j : Nat} {s : List UInt8} (h0 : 0 < j) (h8 : ((j : Int) % 8 == 0) = false) : tmBar j s = s := by
  have h8 := ne_of_beq_false h8
  have h9 : (j % 8 == 0) = false := beq_eq_false_iff_ne.2 (by omega)
  unfold tmBar
  rw [decide_eq_true h0, h9]
  rfl
set_option maxHeartbeats 4000000 in
theorem tm_ok {N : Nat} {x : (Int × List Int × (List Int × List Int × List Int × List Int) × List Int × List Int × List Int)} {u : ByteArray × Unit} (hu : impl_TidyMap N x = some u) {w : World} {fz bz : Nat → Prop} {φ : Nat → Value} (hf : ∀ b, fz b → b < w.heap.size) (hb : ∀ b, bz b → b < w.heap.size) (ho : ∀ j, (φ j).oneCell' = true)
    (a1 a2 a3 a4 a5 a6 a7 a8 : Option Addr) (c1 c2 c3 c4 c5 c6 c7 c8 n1 n2 n3 n4 n5 n7 n8 : Nat) (v : Value)
    (hv : v = .agg #[.int .i64 x.1, .slice a1 n1 c1, .slice a2 n2 c2, .slice a3 n3 c3, .slice a4 n4 c4, .slice a5 n5 c5, .slice a6 x.2.2.2.1.length c6, .slice a7 n7 c7, .slice a8 n8 c8]) (hr : RepV0 w fz bz φ tm_tB x v) :
    Calls Tryd.prog 12 #[v] w fun e w' => e = .returned (.string u.1) ∧ Below w.heap.size w w' := by
  unfold impl_TidyMap at hu
  rw [Option.bind_eq_some_iff] at hu
  obtain ⟨u1, hu1, hu⟩ := hu
  have HR := Lib.hid hr
  clear hr
  subst hv
  go_enter Tryd.func12, Tryd.ntmps12
  go_wp2_with (go_at_call 38; refine (tm_cOk hu1 HR.out hf hb ho _ ((Below.refl _ w).alloc (Nat.le_refl _) _)).mono ?_)
  rintro e w1 ⟨rfl, hb1⟩
  have k1 : w1.heap[w.heap.size]? = _ := (hb1.block w.heap.size (by simp)).trans (heap_alloc_new w _)
  cases hok : u1.1
  · rw [hok] at hu
    injection hu with hu
    subst hu
    go_wp2
    go_ret
    exact ⟨rfl, ((Below.refl _ w).alloc (Nat.le_refl _) _).trans (hb1.mono (by simp))⟩
  rw [hok] at hu
  have hu : Hid (impl_TidyMap.l0 N N 0 x [] = some u) := hu
  have hn : w.heap.size < w1.heap.size := by have := hb1.size; simp at this; omega
  have cell6 : w1.cell? ⟨w.heap.size, 6, none⟩ = some (.slice a6 x.2.2.2.1.length c6) := by rw [Lib.cell_of_heap k1]; rfl
  have cell6' : ∀ o, (w1.alloc o).cell? ⟨w.heap.size, 6, none⟩ = some (.slice a6 x.2.2.2.1.length c6) := fun o => by rw [Lib.cell_of_heap ((Lib.alloc_old w1 o _ hn).trans k1)]; rfl
  have hbw : Below w.heap.size w w1 := ((Below.refl _ w).alloc (Nat.le_refl _) _).trans (hb1.mono (by simp))
  have HB := Lib.hid hbw
  have K1 := Lib.hid k1
  clear hok hb1 hbw k1
  go_wp2
  go_loopw [14] (fun i wr => ∃ (k j : Nat) (s : List UInt8), i = .int .i64 j ∧ Hid (impl_TidyMap.l0 N k j x s = some u) ∧ Hid (tm_Bst w1 wr s)) (fun i _ => x.2.2.2.1.length - (intOf i).toNat)
  case atStart => exact ⟨N, 0, [], rfl, hu, Lib.IsBuilderF.of (Lib.fresh_isBuilder 59 5 w1), (Below.refl _ w1).alloc (Nat.le_refl _) _⟩
  case round =>
    obtain ⟨k, j, s, rfl, HU, HI⟩ := hrel
    by_cases hj : j < x.2.2.2.1.length
    · obtain ⟨k, rfl⟩ : ∃ k', k = k' + 1 := by
        cases k with
        | zero => exact absurd HU.out (by simp [impl_TidyMap.l0])
        | succ k => exact ⟨k, rfl⟩
      have HU := HU.out
      rw [impl_TidyMap.l0, decide_eq_true hj, cond_true] at HU
      obtain ⟨hg, HU⟩ := cond_some HU
      have hg := of_decide_eq_true hg
      rw [Option.bind_eq_some_iff] at HU
      obtain ⟨⟨⟨f1, sz, o⟩, ⟨⟩⟩, hu2, HU⟩ := HU
      rw [Option.bind_eq_some_iff] at HU
      obtain ⟨q, hq, HU⟩ := HU
      have HU := Lib.hid HU
      have hG : j < 4611686018427387904 := hg.1
      have HL : Hid (s.length ≤ 2199023255552) := by have := hg.2; show _ ≤ _; omega
      have HL2 : Hid ((s ++ [124]).length ≤ 2199023255552) := by have := hg.2; show _ ≤ _; simp only [List.length_append, List.length_cons, List.length_nil]; omega
      have HP : Hid (impl_Book_at N x j = some ((f1, sz, o), ())) := hu2
      clear hg hu2
      have e0 : wr.cell? ⟨w.heap.size, 0, none⟩ = some (.int .i64 x.1) := tm_Bst.cell HI hn K1.out 0
      have e1 : wr.cell? ⟨w.heap.size, 1, none⟩ = some (.slice a1 n1 c1) := tm_Bst.cell HI hn K1.out 1
      have e2 : wr.cell? ⟨w.heap.size, 2, none⟩ = some (.slice a2 n2 c2) := tm_Bst.cell HI hn K1.out 2
      have e3 : wr.cell? ⟨w.heap.size, 3, none⟩ = some (.slice a3 n3 c3) := tm_Bst.cell HI hn K1.out 3
      have e4 : wr.cell? ⟨w.heap.size, 4, none⟩ = some (.slice a4 n4 c4) := tm_Bst.cell HI hn K1.out 4
      have e5 : wr.cell? ⟨w.heap.size, 5, none⟩ = some (.slice a5 n5 c5) := tm_Bst.cell HI hn K1.out 5
      have e6 : wr.cell? ⟨w.heap.size, 6, none⟩ = some (.slice a6 x.2.2.2.1.length c6) := tm_Bst.cell HI hn K1.out 6
      have e7 : wr.cell? ⟨w.heap.size, 7, none⟩ = some (.slice a7 n7 c7) := tm_Bst.cell HI hn K1.out 7
      have e8 : wr.cell? ⟨w.heap.size, 8, none⟩ = some (.slice a8 n8 c8) := tm_Bst.cell HI hn K1.out 8
      unfold tmArm at hq
      simp only [] at hq
      cases q1 : (sz == 0)
      · rw [q1, cond_false] at hq
        cases q2 : (o == 0)
        · rw [q2, Bool.false_and, cond_false, cond_false] at hq
          cases q3 : ((j : Int) == f1)
          · rw [q3, cond_false] at hq
            injection hq with hq
            subst hq
            by_cases hj0 : 0 < j
            · cases hj8 : ((j : Int) % 8 == 0)
              · rw [tmBar_no8 hj0 hj8] at HU
                have HI2 := HI
                have HL3 := HL
                have HW2 := Lib.hid (HB.out.trans (HI2.out.2.mono (Nat.le_of_lt hn)))
                go_wp2_with (go_at_call 40; refine (tm_cAt HP.out HR.out hf hb ho _ HW2.out).mono ?_; rintro e w3 ⟨rfl, hb3⟩; refine Hid.out ?_)
                refine Lib.hid ?_
                have HI3 := tm_Bst.old HI2 hb3
                clear hb3
                go_wp2_with (go_at_call 39; refine (tm_Bst.wb HI3 _ (by decide) HL3).mono ?_; rintro e w4 ⟨rfl, HI4⟩)
                go_roundw
                case rel => exact ⟨k, j + 1, _, by go_num, HU, HI4⟩
                case measure => simp [intOf]; omega
              · rw [tmBar_yes hj0 hj8] at HU
                go_wp2_with (go_at_call 39; refine (tm_Bst.wb HI _ (by decide) HL).mono ?_; rintro e w2 ⟨rfl, HI2⟩; refine Hid.out ?_)
                refine Lib.hid ?_
                have HI2 : Hid (tm_Bst w1 w2 (s ++ [124])) := HI2
                have HL3 := HL2
                have g0 : w2.cell? ⟨w.heap.size, 0, none⟩ = some (.int .i64 x.1) := tm_Bst.cell HI2 hn K1.out 0
                have g1 : w2.cell? ⟨w.heap.size, 1, none⟩ = some (.slice a1 n1 c1) := tm_Bst.cell HI2 hn K1.out 1
                have g2 : w2.cell? ⟨w.heap.size, 2, none⟩ = some (.slice a2 n2 c2) := tm_Bst.cell HI2 hn K1.out 2
                have g3 : w2.cell? ⟨w.heap.size, 3, none⟩ = some (.slice a3 n3 c3) := tm_Bst.cell HI2 hn K1.out 3
                have g4 : w2.cell? ⟨w.heap.size, 4, none⟩ = some (.slice a4 n4 c4) := tm_Bst.cell HI2 hn K1.out 4
                have g5 : w2.cell? ⟨w.heap.size, 5, none⟩ = some (.slice a5 n5 c5) := tm_Bst.cell HI2 hn K1.out 5
                have g6 : w2.cell? ⟨w.heap.size, 6, none⟩ = some (.slice a6 x.2.2.2.1.length c6) := tm_Bst.cell HI2 hn K1.out 6
                have g7 : w2.cell? ⟨w.heap.size, 7, none⟩ = some (.slice a7 n7 c7) := tm_Bst.cell HI2 hn K1.out 7
                have g8 : w2.cell? ⟨w.heap.size, 8, none⟩ = some (.slice a8 n8 c8) := tm_Bst.cell HI2 hn K1.out 8
                have HW2 := Lib.hid (HB.out.trans (HI2.out.2.mono (Nat.le_of_lt hn)))
                go_wp2_with (go_at_call 40; refine (tm_cAt HP.out HR.out hf hb ho _ HW2.out).mono ?_; rintro e w3 ⟨rfl, hb3⟩; refine Hid.out ?_)
                refine Lib.hid ?_
                have HI3 := tm_Bst.old HI2 hb3
                clear hb3
                go_wp2_with (go_at_call 39; refine (tm_Bst.wb HI3 _ (by decide) HL3).mono ?_; rintro e w4 ⟨rfl, HI4⟩)
                go_roundw
                case rel => exact ⟨k, j + 1, _, by go_num, HU, HI4⟩
                case measure => simp [intOf]; omega
            · rw [tmBar_no0 hj0] at HU
              have HI2 := HI
              have HL3 := HL
              have HW2 := Lib.hid (HB.out.trans (HI2.out.2.mono (Nat.le_of_lt hn)))
              go_wp2_with (go_at_call 40; refine (tm_cAt HP.out HR.out hf hb ho _ HW2.out).mono ?_; rintro e w3 ⟨rfl, hb3⟩; refine Hid.out ?_)
              refine Lib.hid ?_
              have HI3 := tm_Bst.old HI2 hb3
              clear hb3
              go_wp2_with (go_at_call 39; refine (tm_Bst.wb HI3 _ (by decide) HL3).mono ?_; rintro e w4 ⟨rfl, HI4⟩)
              go_roundw
              case rel => exact ⟨k, j + 1, _, by go_num, HU, HI4⟩
              case measure => simp [intOf]; omega
          · rw [q3, cond_true] at hq
            obtain ⟨hr, hq⟩ := cond_some hq
            obtain ⟨hr1, hr2, hr3⟩ := of_decide_eq_true hr
            obtain ⟨m, rfl⟩ : ∃ m : Nat, o = (m : Int) + 1 := ⟨(o - 1).toNat, by omega⟩
            have hm : m < 100 := by omega
            have em : ((m : Int) + 1 - 1).toNat = m := by omega
            simp only [em] at hq hr3
            have hd := hr3
            injection hq with hq
            subst hq
            clear hr hr1 hr2 hr3 em
            by_cases hj0 : 0 < j
            · cases hj8 : ((j : Int) % 8 == 0)
              · rw [tmBar_no8 hj0 hj8] at HU
                have HI2 := HI
                have HL3 := HL
                have HW2 := Lib.hid (HB.out.trans (HI2.out.2.mono (Nat.le_of_lt hn)))
                go_wp2_with (go_at_call 40; refine (tm_cAt HP.out HR.out hf hb ho _ HW2.out).mono ?_; rintro e w3 ⟨rfl, hb3⟩; refine Hid.out ?_)
                refine Lib.hid ?_
                have HI3 := tm_Bst.old HI2 hb3
                clear hb3
                go_wp2_with (first | (go_at_call 42; refine (tm_bItoa m hm _).mono ?_; rintro e w4 ⟨rfl, rfl⟩) | (go_at_call 41; refine (tm_Bst.ws HI3 _ HL3 hd).mono ?_; rintro e w4 ⟨⟨v4, rfl⟩, HI4⟩))
                go_roundw
                case rel => exact ⟨k, j + 1, _, by go_num, HU, HI4⟩
                case measure => simp [intOf]; omega
              · rw [tmBar_yes hj0 hj8] at HU
                go_wp2_with (go_at_call 39; refine (tm_Bst.wb HI _ (by decide) HL).mono ?_; rintro e w2 ⟨rfl, HI2⟩; refine Hid.out ?_)
                refine Lib.hid ?_
                have HI2 : Hid (tm_Bst w1 w2 (s ++ [124])) := HI2
                have HL3 := HL2
                have g0 : w2.cell? ⟨w.heap.size, 0, none⟩ = some (.int .i64 x.1) := tm_Bst.cell HI2 hn K1.out 0
                have g1 : w2.cell? ⟨w.heap.size, 1, none⟩ = some (.slice a1 n1 c1) := tm_Bst.cell HI2 hn K1.out 1
                have g2 : w2.cell? ⟨w.heap.size, 2, none⟩ = some (.slice a2 n2 c2) := tm_Bst.cell HI2 hn K1.out 2
                have g3 : w2.cell? ⟨w.heap.size, 3, none⟩ = some (.slice a3 n3 c3) := tm_Bst.cell HI2 hn K1.out 3
                have g4 : w2.cell? ⟨w.heap.size, 4, none⟩ = some (.slice a4 n4 c4) := tm_Bst.cell HI2 hn K1.out 4
                have g5 : w2.cell? ⟨w.heap.size, 5, none⟩ = some (.slice a5 n5 c5) := tm_Bst.cell HI2 hn K1.out 5
                have g6 : w2.cell? ⟨w.heap.size, 6, none⟩ = some (.slice a6 x.2.2.2.1.length c6) := tm_Bst.cell HI2 hn K1.out 6
                have g7 : w2.cell? ⟨w.heap.size, 7, none⟩ = some (.slice a7 n7 c7) := tm_Bst.cell HI2 hn K1.out 7
                have g8 : w2.cell? ⟨w.heap.size, 8, none⟩ = some (.slice a8 n8 c8) := tm_Bst.cell HI2 hn K1.out 8
                have HW2 := Lib.hid (HB.out.trans (HI2.out.2.mono (Nat.le_of_lt hn)))
                go_wp2_with (go_at_call 40; refine (tm_cAt HP.out HR.out hf hb ho _ HW2.out).mono ?_; rintro e w3 ⟨rfl, hb3⟩; refine Hid.out ?_)
                refine Lib.hid ?_
                have HI3 := tm_Bst.old HI2 hb3
                clear hb3
                go_wp2_with (first | (go_at_call 42; refine (tm_bItoa m hm _).mono ?_; rintro e w4 ⟨rfl, rfl⟩) | (go_at_call 41; refine (tm_Bst.ws HI3 _ HL3 hd).mono ?_; rintro e w4 ⟨⟨v4, rfl⟩, HI4⟩))
                go_roundw
                case rel => exact ⟨k, j + 1, _, by go_num, HU, HI4⟩
                case measure => simp [intOf]; omega
            · rw [tmBar_no0 hj0] at HU
              have HI2 := HI
              have HL3 := HL
              have HW2 := Lib.hid (HB.out.trans (HI2.out.2.mono (Nat.le_of_lt hn)))
              go_wp2_with (go_at_call 40; refine (tm_cAt HP.out HR.out hf hb ho _ HW2.out).mono ?_; rintro e w3 ⟨rfl, hb3⟩; refine Hid.out ?_)
              refine Lib.hid ?_
              have HI3 := tm_Bst.old HI2 hb3
              clear hb3
              go_wp2_with (first | (go_at_call 42; refine (tm_bItoa m hm _).mono ?_; rintro e w4 ⟨rfl, rfl⟩) | (go_at_call 41; refine (tm_Bst.ws HI3 _ HL3 hd).mono ?_; rintro e w4 ⟨⟨v4, rfl⟩, HI4⟩))
              go_roundw
              case rel => exact ⟨k, j + 1, _, by go_num, HU, HI4⟩
              case measure => simp [intOf]; omega
        · rw [q2, Bool.true_and] at hq
          cases q3 : ((j : Int) == f1)
          · rw [q3, cond_false, cond_true] at hq
            injection hq with hq
            subst hq
            by_cases hj0 : 0 < j
            · cases hj8 : ((j : Int) % 8 == 0)
              · rw [tmBar_no8 hj0 hj8] at HU
                have HI2 := HI
                have HL3 := HL
                have HW2 := Lib.hid (HB.out.trans (HI2.out.2.mono (Nat.le_of_lt hn)))
                go_wp2_with (go_at_call 40; refine (tm_cAt HP.out HR.out hf hb ho _ HW2.out).mono ?_; rintro e w3 ⟨rfl, hb3⟩; refine Hid.out ?_)
                refine Lib.hid ?_
                have HI3 := tm_Bst.old HI2 hb3
                clear hb3
                go_wp2_with (go_at_call 39; refine (tm_Bst.wb HI3 _ (by decide) HL3).mono ?_; rintro e w4 ⟨rfl, HI4⟩)
                go_roundw
                case rel => exact ⟨k, j + 1, _, by go_num, HU, HI4⟩
                case measure => simp [intOf]; omega
              · rw [tmBar_yes hj0 hj8] at HU
                go_wp2_with (go_at_call 39; refine (tm_Bst.wb HI _ (by decide) HL).mono ?_; rintro e w2 ⟨rfl, HI2⟩; refine Hid.out ?_)
                refine Lib.hid ?_
                have HI2 : Hid (tm_Bst w1 w2 (s ++ [124])) := HI2
                have HL3 := HL2
                have g0 : w2.cell? ⟨w.heap.size, 0, none⟩ = some (.int .i64 x.1) := tm_Bst.cell HI2 hn K1.out 0
                have g1 : w2.cell? ⟨w.heap.size, 1, none⟩ = some (.slice a1 n1 c1) := tm_Bst.cell HI2 hn K1.out 1
                have g2 : w2.cell? ⟨w.heap.size, 2, none⟩ = some (.slice a2 n2 c2) := tm_Bst.cell HI2 hn K1.out 2
                have g3 : w2.cell? ⟨w.heap.size, 3, none⟩ = some (.slice a3 n3 c3) := tm_Bst.cell HI2 hn K1.out 3
                have g4 : w2.cell? ⟨w.heap.size, 4, none⟩ = some (.slice a4 n4 c4) := tm_Bst.cell HI2 hn K1.out 4
                have g5 : w2.cell? ⟨w.heap.size, 5, none⟩ = some (.slice a5 n5 c5) := tm_Bst.cell HI2 hn K1.out 5
                have g6 : w2.cell? ⟨w.heap.size, 6, none⟩ = some (.slice a6 x.2.2.2.1.length c6) := tm_Bst.cell HI2 hn K1.out 6
                have g7 : w2.cell? ⟨w.heap.size, 7, none⟩ = some (.slice a7 n7 c7) := tm_Bst.cell HI2 hn K1.out 7
                have g8 : w2.cell? ⟨w.heap.size, 8, none⟩ = some (.slice a8 n8 c8) := tm_Bst.cell HI2 hn K1.out 8
                have HW2 := Lib.hid (HB.out.trans (HI2.out.2.mono (Nat.le_of_lt hn)))
                go_wp2_with (go_at_call 40; refine (tm_cAt HP.out HR.out hf hb ho _ HW2.out).mono ?_; rintro e w3 ⟨rfl, hb3⟩; refine Hid.out ?_)
                refine Lib.hid ?_
                have HI3 := tm_Bst.old HI2 hb3
                clear hb3
                go_wp2_with (go_at_call 39; refine (tm_Bst.wb HI3 _ (by decide) HL3).mono ?_; rintro e w4 ⟨rfl, HI4⟩)
                go_roundw
                case rel => exact ⟨k, j + 1, _, by go_num, HU, HI4⟩
                case measure => simp [intOf]; omega
            · rw [tmBar_no0 hj0] at HU
              have HI2 := HI
              have HL3 := HL
              have HW2 := Lib.hid (HB.out.trans (HI2.out.2.mono (Nat.le_of_lt hn)))
              go_wp2_with (go_at_call 40; refine (tm_cAt HP.out HR.out hf hb ho _ HW2.out).mono ?_; rintro e w3 ⟨rfl, hb3⟩; refine Hid.out ?_)
              refine Lib.hid ?_
              have HI3 := tm_Bst.old HI2 hb3
              clear hb3
              go_wp2_with (go_at_call 39; refine (tm_Bst.wb HI3 _ (by decide) HL3).mono ?_; rintro e w4 ⟨rfl, HI4⟩)
              go_roundw
              case rel => exact ⟨k, j + 1, _, by go_num, HU, HI4⟩
              case measure => simp [intOf]; omega
          · rw [q3, cond_true] at hq
            injection hq with hq
            subst hq
            by_cases hj0 : 0 < j
            · cases hj8 : ((j : Int) % 8 == 0)
              · rw [tmBar_no8 hj0 hj8] at HU
                have HI2 := HI
                have HL3 := HL
                have HW2 := Lib.hid (HB.out.trans (HI2.out.2.mono (Nat.le_of_lt hn)))
                go_wp2_with (go_at_call 40; refine (tm_cAt HP.out HR.out hf hb ho _ HW2.out).mono ?_; rintro e w3 ⟨rfl, hb3⟩; refine Hid.out ?_)
                refine Lib.hid ?_
                have HI3 := tm_Bst.old HI2 hb3
                clear hb3
                go_wp2_with (go_at_call 39; refine (tm_Bst.wb HI3 _ (by decide) HL3).mono ?_; rintro e w4 ⟨rfl, HI4⟩)
                go_roundw
                case rel => exact ⟨k, j + 1, _, by go_num, HU, HI4⟩
                case measure => simp [intOf]; omega
              · rw [tmBar_yes hj0 hj8] at HU
                go_wp2_with (go_at_call 39; refine (tm_Bst.wb HI _ (by decide) HL).mono ?_; rintro e w2 ⟨rfl, HI2⟩; refine Hid.out ?_)
                refine Lib.hid ?_
                have HI2 : Hid (tm_Bst w1 w2 (s ++ [124])) := HI2
                have HL3 := HL2
                have g0 : w2.cell? ⟨w.heap.size, 0, none⟩ = some (.int .i64 x.1) := tm_Bst.cell HI2 hn K1.out 0
                have g1 : w2.cell? ⟨w.heap.size, 1, none⟩ = some (.slice a1 n1 c1) := tm_Bst.cell HI2 hn K1.out 1
                have g2 : w2.cell? ⟨w.heap.size, 2, none⟩ = some (.slice a2 n2 c2) := tm_Bst.cell HI2 hn K1.out 2
                have g3 : w2.cell? ⟨w.heap.size, 3, none⟩ = some (.slice a3 n3 c3) := tm_Bst.cell HI2 hn K1.out 3
                have g4 : w2.cell? ⟨w.heap.size, 4, none⟩ = some (.slice a4 n4 c4) := tm_Bst.cell HI2 hn K1.out 4
                have g5 : w2.cell? ⟨w.heap.size, 5, none⟩ = some (.slice a5 n5 c5) := tm_Bst.cell HI2 hn K1.out 5
                have g6 : w2.cell? ⟨w.heap.size, 6, none⟩ = some (.slice a6 x.2.2.2.1.length c6) := tm_Bst.cell HI2 hn K1.out 6
                have g7 : w2.cell? ⟨w.heap.size, 7, none⟩ = some (.slice a7 n7 c7) := tm_Bst.cell HI2 hn K1.out 7
                have g8 : w2.cell? ⟨w.heap.size, 8, none⟩ = some (.slice a8 n8 c8) := tm_Bst.cell HI2 hn K1.out 8
                have HW2 := Lib.hid (HB.out.trans (HI2.out.2.mono (Nat.le_of_lt hn)))
                go_wp2_with (go_at_call 40; refine (tm_cAt HP.out HR.out hf hb ho _ HW2.out).mono ?_; rintro e w3 ⟨rfl, hb3⟩; refine Hid.out ?_)
                refine Lib.hid ?_
                have HI3 := tm_Bst.old HI2 hb3
                clear hb3
                go_wp2_with (go_at_call 39; refine (tm_Bst.wb HI3 _ (by decide) HL3).mono ?_; rintro e w4 ⟨rfl, HI4⟩)
                go_roundw
                case rel => exact ⟨k, j + 1, _, by go_num, HU, HI4⟩
                case measure => simp [intOf]; omega
            · rw [tmBar_no0 hj0] at HU
              have HI2 := HI
              have HL3 := HL
              have HW2 := Lib.hid (HB.out.trans (HI2.out.2.mono (Nat.le_of_lt hn)))
              go_wp2_with (go_at_call 40; refine (tm_cAt HP.out HR.out hf hb ho _ HW2.out).mono ?_; rintro e w3 ⟨rfl, hb3⟩; refine Hid.out ?_)
              refine Lib.hid ?_
              have HI3 := tm_Bst.old HI2 hb3
              clear hb3
              go_wp2_with (go_at_call 39; refine (tm_Bst.wb HI3 _ (by decide) HL3).mono ?_; rintro e w4 ⟨rfl, HI4⟩)
              go_roundw
              case rel => exact ⟨k, j + 1, _, by go_num, HU, HI4⟩
              case measure => simp [intOf]; omega
      · rw [q1, cond_true] at hq
        injection hq with hq
        subst hq
        by_cases hj0 : 0 < j
        · cases hj8 : ((j : Int) % 8 == 0)
          · rw [tmBar_no8 hj0 hj8] at HU
            have HI2 := HI
            have HL3 := HL
            have HW2 := Lib.hid (HB.out.trans (HI2.out.2.mono (Nat.le_of_lt hn)))
            go_wp2_with (go_at_call 40; refine (tm_cAt HP.out HR.out hf hb ho _ HW2.out).mono ?_; rintro e w3 ⟨rfl, hb3⟩; refine Hid.out ?_)
            refine Lib.hid ?_
            have HI3 := tm_Bst.old HI2 hb3
            clear hb3
            go_wp2_with (go_at_call 39; refine (tm_Bst.wb HI3 _ (by decide) HL3).mono ?_; rintro e w4 ⟨rfl, HI4⟩)
            go_roundw
            case rel => exact ⟨k, j + 1, _, by go_num, HU, HI4⟩
            case measure => simp [intOf]; omega
          · rw [tmBar_yes hj0 hj8] at HU
            go_wp2_with (go_at_call 39; refine (tm_Bst.wb HI _ (by decide) HL).mono ?_; rintro e w2 ⟨rfl, HI2⟩; refine Hid.out ?_)
            refine Lib.hid ?_
            have HI2 : Hid (tm_Bst w1 w2 (s ++ [124])) := HI2
            have HL3 := HL2
            have g0 : w2.cell? ⟨w.heap.size, 0, none⟩ = some (.int .i64 x.1) := tm_Bst.cell HI2 hn K1.out 0
            have g1 : w2.cell? ⟨w.heap.size, 1, none⟩ = some (.slice a1 n1 c1) := tm_Bst.cell HI2 hn K1.out 1
            have g2 : w2.cell? ⟨w.heap.size, 2, none⟩ = some (.slice a2 n2 c2) := tm_Bst.cell HI2 hn K1.out 2
            have g3 : w2.cell? ⟨w.heap.size, 3, none⟩ = some (.slice a3 n3 c3) := tm_Bst.cell HI2 hn K1.out 3
            have g4 : w2.cell? ⟨w.heap.size, 4, none⟩ = some (.slice a4 n4 c4) := tm_Bst.cell HI2 hn K1.out 4
            have g5 : w2.cell? ⟨w.heap.size, 5, none⟩ = some (.slice a5 n5 c5) := tm_Bst.cell HI2 hn K1.out 5
            have g6 : w2.cell? ⟨w.heap.size, 6, none⟩ = some (.slice a6 x.2.2.2.1.length c6) := tm_Bst.cell HI2 hn K1.out 6
            have g7 : w2.cell? ⟨w.heap.size, 7, none⟩ = some (.slice a7 n7 c7) := tm_Bst.cell HI2 hn K1.out 7
            have g8 : w2.cell? ⟨w.heap.size, 8, none⟩ = some (.slice a8 n8 c8) := tm_Bst.cell HI2 hn K1.out 8
            have HW2 := Lib.hid (HB.out.trans (HI2.out.2.mono (Nat.le_of_lt hn)))
            go_wp2_with (go_at_call 40; refine (tm_cAt HP.out HR.out hf hb ho _ HW2.out).mono ?_; rintro e w3 ⟨rfl, hb3⟩; refine Hid.out ?_)
            refine Lib.hid ?_
            have HI3 := tm_Bst.old HI2 hb3
            clear hb3
            go_wp2_with (go_at_call 39; refine (tm_Bst.wb HI3 _ (by decide) HL3).mono ?_; rintro e w4 ⟨rfl, HI4⟩)
            go_roundw
            case rel => exact ⟨k, j + 1, _, by go_num, HU, HI4⟩
            case measure => simp [intOf]; omega
        · rw [tmBar_no0 hj0] at HU
          have HI2 := HI
          have HL3 := HL
          have HW2 := Lib.hid (HB.out.trans (HI2.out.2.mono (Nat.le_of_lt hn)))
          go_wp2_with (go_at_call 40; refine (tm_cAt HP.out HR.out hf hb ho _ HW2.out).mono ?_; rintro e w3 ⟨rfl, hb3⟩; refine Hid.out ?_)
          refine Lib.hid ?_
          have HI3 := tm_Bst.old HI2 hb3
          clear hb3
          go_wp2_with (go_at_call 39; refine (tm_Bst.wb HI3 _ (by decide) HL3).mono ?_; rintro e w4 ⟨rfl, HI4⟩)
          go_roundw
          case rel => exact ⟨k, j + 1, _, by go_num, HU, HI4⟩
          case measure => simp [intOf]; omega
    · have HE : u = (⟨s.toArray⟩, ()) := by
        have HU := HU.out
        cases k with
        | zero => exact absurd HU (by simp [impl_TidyMap.l0])
        | succ k => rw [impl_TidyMap.l0, decide_eq_false hj, cond_false] at HU; exact (Option.some.inj HU).symm
      go_wp2_with (go_at_call 43; refine (tm_Bst.str HI).mono ?_; rintro e w2 ⟨rfl, hb2⟩)
      go_ret
      rw [HE]
      exact ⟨rfl, HB.out.trans (hb2.out.mono (Nat.le_of_lt hn))⟩
theorem ok_impl_TidyMap (N : Nat) : EntOk Tryd.prog (E_impl_TidyMap N) := by
  refine ⟨by rfl, ⟨⟨_, Tryd.func12, by kernel_rfl, by kernel_rfl⟩⟩, ?_⟩
  intro x y u hu args w fz bz W φ hS
  obtain ⟨v, rfl, hr⟩ := hS.rep
  have hr : RepV0 w fz bz φ tm_tB x v := hr
  have hr0 := hr
  obtain ⟨cs, rfl, d0, r0, rfl, h0, d1, r1, rfl, h1, d2, r2, rfl, ⟨f0, s0, rfl, g0, f1, s1, rfl, g1, f2, f3, rfl, g2, g3⟩, d3, r3, rfl, h3, d4, d5, rfl, h4, h5⟩ := hr0
  simp only [RepC] at h0
  subst h0
  obtain ⟨a1, c1, rfl, _⟩ := h1
  obtain ⟨a2, c2, rfl, _⟩ := g0
  obtain ⟨a3, c3, rfl, _⟩ := g1
  obtain ⟨a4, c4, rfl, _⟩ := g2
  obtain ⟨a5, c5, rfl, _⟩ := g3
  obtain ⟨a6, c6, rfl, _⟩ := h3
  obtain ⟨a7, c7, rfl, _⟩ := h4
  obtain ⟨a8, c8, rfl, _⟩ := h5
  refine (tm_ok (N := N) (x := x) (u := u) hu hS.fzlt hS.bzlt hS.one a1 a2 a3 a4 a5 a6 a7 a8 c1 c2 c3 c4 c5 c6 c7 c8 _ _ _ _ _ _ _ _ rfl hr).mono ?_
  rintro e w' ⟨rfl, hb⟩
  refine ⟨fz, φ, ?_, by simp [cellsOf, E_impl_TidyMap], by simp [cellsOf, E_impl_TidyMap], by simp [cellsOf, E_impl_TidyMap], fun b h => h, fun b h => .inl h, fun b h => Nat.lt_of_lt_of_le (hS.fzlt b h) hb.size, fun j hj => rfl, hS.one, hb.size, fun b hb' _ => hb.block b hb', hb.os, hb.tape, hb.output⟩
  simp [RepV, RepV0, RepC, E_impl_TidyMap]
noncomputable def spec_TidyAt.l0 (N : Nat) : Nat → Int → Int → (Int × List Int × (List Int × List Int × List Int × List Int) × List Int × List Int × List Int) → Option ((Int × Int × Int) × Unit)
  | 0, _, _, _ => none
  | k + 1, v1, v7, m64 => (bif decide (v7 ≤ v1) then (spec_l3Room N m64 v7).bind fun u2 => (bif decide (u2.1 > IntKind.i64.wrap (v1 - v7)) then (bif (bif decide (0 ≤ v7) then decide (v7 < (m64.2.2.2.1.length : Int)) else false) then some ((v7, u2.1, m64.2.2.2.1.getD v7.toNat 0), ()) else none) else spec_TidyAt.l0 N k v1 (IntKind.i64.wrap (v7 + 1)) m64) else (bif (bif decide (0 ≤ IntKind.i64.wrap (Int.tdiv v1 8)) then decide (IntKind.i64.wrap (Int.tdiv v1 8) < (m64.2.1.length : Int)) else false) then (spec_l3Kind N (m64.2.1.getD (IntKind.i64.wrap (Int.tdiv v1 8)).toNat 0)).bind fun u3 => (bif decide (u3.1 < 0) then some ((IntKind.i64.wrap (IntKind.i64.wrap (Int.tdiv v1 8) * 8), 0, 0), ()) else (spec_l3Size N u3.1).bind fun u4 => (bif decide (u4.1 = 0) then none else (spec_l3Size N u3.1).bind fun u5 => (spec_l3Size N u3.1).bind fun u6 => some ((IntKind.i64.wrap (IntKind.i64.wrap (Int.tdiv v1 u4.1) * u5.1), u6.1, 0), ()))) else none))
noncomputable def spec_TidyAt (N : Nat) (a0 : Int × List Int × (List Int × List Int × List Int × List Int) × List Int × List Int × List Int) (a1 : Int) : Option ((Int × Int × Int) × Unit) := (spec_BookOk N a0).bind fun u1 => (bif (!u1.1) then some ((0, 0, 0), ()) else (bif decide (a1 < 0) then some ((0, 0, 0), ()) else (bif decide (a1 ≥ (a0.2.2.2.1.length : Int)) then some ((0, 0, 0), ()) else spec_TidyAt.l0 N N a1 0 a0)))
noncomputable def C_spec_TidyAt (N : Nat) : Cx := ⟨tt, [E_spec_BookOk N, E_spec_l3Room N, E_spec_l3Kind N, E_spec_l3Size N], [], [], []⟩
noncomputable def E_spec_TidyAt (N : Nat) : Ent := { f := 21, par := (.pair (.agg (.pair (.int .i64) (.pair (.sl .bor (.int .i64)) (.pair (.agg (.pair (.sl .bor (.int .i64)) (.pair (.sl .bor (.int .i64)) (.pair (.sl .bor (.int .i64)) (.sl .bor (.int .i64)))))) (.pair (.sl .bor (.int .i64)) (.pair (.sl .bor (.int .i64)) (.sl .bor (.int .i64)))))))) (.int .i64)), sto := [], res := (.tup (.pair (.int .i64) (.pair (.int .i64) (.int .i64)))), osto := [], fn := fun (x : (Int × List Int × (List Int × List Int × List Int × List Int) × List Int × List Int × List Int) × Int) (y : Unit) => spec_TidyAt N x.1 x.2 }
noncomputable def L_spec_TidyAt (N : Nat) : List (LpE ((E_spec_TidyAt N).res.D × SD (E_spec_TidyAt N).osto)) := [⟨[0, 1, 0, 1, 1], ⟨[(1, (.int .i64)), (2, (.ptr 64 [] 0)), (7, (.int .i64))], [(64, .box (.agg (.pair (.int .i64) (.pair (.sl .bor (.int .i64)) (.pair (.agg (.pair (.sl .bor (.int .i64)) (.pair (.sl .bor (.int .i64)) (.pair (.sl .bor (.int .i64)) (.sl .bor (.int .i64)))))) (.pair (.sl .bor (.int .i64)) (.pair (.sl .bor (.int .i64)) (.sl .bor (.int .i64)))))))))], 128⟩, fun k (x : Int × Unit × Int) (y : (Int × List Int × (List Int × List Int × List Int × List Int) × List Int × List Int × List Int)) => spec_TidyAt.l0 N k x.1 x.2.2 y⟩]
theorem ok_spec_TidyAt (N : Nat) : EntOk Tryd.prog (E_spec_TidyAt N) := ent_of (C := C_spec_TidyAt N) ⟨tt_ok, (tab_cons (ok_spec_BookOk N) (tab_cons (ok_spec_l3Room N) (tab_cons (ok_spec_l3Kind N) (tab_cons (ok_spec_l3Size N) tab_nil)))), (fun t h => by simp [C_spec_TidyAt] at h)⟩ mixed (fn := Tryd.f21) Tryd.func21 (by kernel_rfl) (by kernel_rfl) (by kernel_rfl) (by kernel_rfl) (by kernel_rfl) (L_spec_TidyAt N) N (fun x y => by kernel_rfl) ⟨⟨by kernel_rfl, fun _ _ => rfl, fun k x y => by kernel_rfl⟩, trivial⟩
noncomputable def spec_l20Dec.l0 (N : Nat) : Nat → Int → ByteArray → Option (ByteArray × Unit)
  | 0, _, _ => none
  | k + 1, v0, v3 => (bif decide (v0 > 9) then (bif inBytes ([IntKind.u8.wrap (IntKind.i64.wrap (48 + Int.tmod v0 10))]) then (bif decide ((((mkBytes ([IntKind.u8.wrap (IntKind.i64.wrap (48 + Int.tmod v0 10))])).size + v3.size : Nat) : Int) > IntKind.i64.max) then none else spec_l20Dec.l0 N k (IntKind.i64.wrap (Int.tdiv v0 10)) ((mkBytes ([IntKind.u8.wrap (IntKind.i64.wrap (48 + Int.tmod v0 10))])) ++ v3)) else none) else (bif inBytes ([IntKind.u8.wrap (IntKind.i64.wrap (48 + v0))]) then (bif decide ((((mkBytes ([IntKind.u8.wrap (IntKind.i64.wrap (48 + v0))])).size + v3.size : Nat) : Int) > IntKind.i64.max) then none else some ((mkBytes ([IntKind.u8.wrap (IntKind.i64.wrap (48 + v0))])) ++ v3, ())) else none))
noncomputable def spec_l20Dec (N : Nat) (a0 : Int) : Option (ByteArray × Unit) := (bif decide (a0 < (-9223372036854775807)) then some ((ByteArray.mk #[45, 57, 50, 50, 51, 51, 55, 50, 48, 51, 54, 56, 53, 52, 55, 55, 53, 56, 48, 56]), ()) else (bif decide (a0 < 0) then none else spec_l20Dec.l0 N N a0 ByteArray.empty))
noncomputable def C_spec_l20Dec (N : Nat) : Cx := ⟨tt, [], [], [], []⟩
noncomputable def E_spec_l20Dec (N : Nat) : Ent := { f := 73, par := (.int .i64), sto := [], res := .str, osto := [], fn := fun (x : Int) (y : Unit) => spec_l20Dec N x }
noncomputable def L_spec_l20Dec (N : Nat) : List (LpE ((E_spec_l20Dec N).res.D × SD (E_spec_l20Dec N).osto)) := [⟨[0, 0, 1, 1, 1, 1], ⟨[(0, (.int .i64)), (3, .str)], [], 64⟩, fun k (x : Int × ByteArray) (y : Unit) => spec_l20Dec.l0 N k x.1 x.2⟩]
theorem ok_spec_l20Dec (N : Nat) : EntOk Tryd.prog (E_spec_l20Dec N) := ent_of (C := C_spec_l20Dec N) ⟨tt_ok, tab_nil, (fun t h => by simp [C_spec_l20Dec] at h)⟩ mixed (fn := Tryd.f73) Tryd.func73 (by kernel_rfl) (by kernel_rfl) (by kernel_rfl) (by kernel_rfl) (by kernel_rfl) (L_spec_l20Dec N) N (fun x y => by kernel_rfl) ⟨⟨by kernel_rfl, fun _ _ => rfl, fun k x y => by kernel_rfl⟩, trivial⟩
noncomputable def spec_l18Sign (N : Nat) (a0 : Int × List Int × (List Int × List Int × List Int × List Int) × List Int × List Int × List Int) (a1 : Int) : Option (ByteArray × Unit) := (spec_TidyAt N a0 a1).bind fun u1 => (bif (u1.1.2.1 == 0) then some ((ByteArray.mk #[46]), ()) else (bif (u1.1.2.2 == 0) then (bif (u1.1.1 == a1) then some ((ByteArray.mk #[111]), ()) else (bif (u1.1.2.2 == 0) then some ((ByteArray.mk #[45]), ()) else (bif (u1.1.1 == a1) then (spec_l20Dec N (IntKind.i64.wrap (u1.1.2.2 - 1))).bind fun u2 => some (u2.1, ()) else some ((ByteArray.mk #[61]), ())))) else (bif (u1.1.2.2 == 0) then some ((ByteArray.mk #[45]), ()) else (bif (u1.1.1 == a1) then (spec_l20Dec N (IntKind.i64.wrap (u1.1.2.2 - 1))).bind fun u3 => some (u3.1, ()) else some ((ByteArray.mk #[61]), ())))))
noncomputable def C_spec_l18Sign (N : Nat) : Cx := ⟨tt, [E_spec_TidyAt N, E_spec_l20Dec N], [], [], []⟩
noncomputable def E_spec_l18Sign (N : Nat) : Ent := { f := 35, par := (.pair (.agg (.pair (.int .i64) (.pair (.sl .bor (.int .i64)) (.pair (.agg (.pair (.sl .bor (.int .i64)) (.pair (.sl .bor (.int .i64)) (.pair (.sl .bor (.int .i64)) (.sl .bor (.int .i64)))))) (.pair (.sl .bor (.int .i64)) (.pair (.sl .bor (.int .i64)) (.sl .bor (.int .i64)))))))) (.int .i64)), sto := [], res := .str, osto := [], fn := fun (x : (Int × List Int × (List Int × List Int × List Int × List Int) × List Int × List Int × List Int) × Int) (y : Unit) => spec_l18Sign N x.1 x.2 }
noncomputable def L_spec_l18Sign (N : Nat) : List (LpE ((E_spec_l18Sign N).res.D × SD (E_spec_l18Sign N).osto)) := []
theorem ok_spec_l18Sign (N : Nat) : EntOk Tryd.prog (E_spec_l18Sign N) := ent_of (C := C_spec_l18Sign N) ⟨tt_ok, (tab_cons (ok_spec_TidyAt N) (tab_cons (ok_spec_l20Dec N) tab_nil)), (fun t h => by simp [C_spec_l18Sign] at h)⟩ mixed (fn := Tryd.f35) Tryd.func35 (by kernel_rfl) (by kernel_rfl) (by kernel_rfl) (by kernel_rfl) (by kernel_rfl) (L_spec_l18Sign N) N (fun x y => by kernel_rfl) trivial
noncomputable def spec_TidyMap.l0 (N : Nat) : Nat → ByteArray → Int → (Int × List Int × (List Int × List Int × List Int × List Int) × List Int × List Int × List Int) → Option (ByteArray × Unit)
  | 0, _, _, _ => none
  | k + 1, v3, v4, m64 => (spec_BookOk N m64).bind fun u1 => (bif u1.1 then (bif decide (v4 < (m64.2.2.2.1.length : Int)) then (bif decide (v4 > 0) then (bif (Int.tmod v4 8 == 0) then (bif decide (((v3.size + (ByteArray.mk #[124]).size : Nat) : Int) > IntKind.i64.max) then none else (spec_l18Sign N m64 v4).bind fun u2 => (bif decide ((((v3 ++ (ByteArray.mk #[124])).size + u2.1.size : Nat) : Int) > IntKind.i64.max) then none else spec_TidyMap.l0 N k ((v3 ++ (ByteArray.mk #[124])) ++ u2.1) (IntKind.i64.wrap (v4 + 1)) m64)) else (spec_l18Sign N m64 v4).bind fun u3 => (bif decide (((v3.size + u3.1.size : Nat) : Int) > IntKind.i64.max) then none else spec_TidyMap.l0 N k (v3 ++ u3.1) (IntKind.i64.wrap (v4 + 1)) m64)) else (spec_l18Sign N m64 v4).bind fun u4 => (bif decide (((v3.size + u4.1.size : Nat) : Int) > IntKind.i64.max) then none else spec_TidyMap.l0 N k (v3 ++ u4.1) (IntKind.i64.wrap (v4 + 1)) m64)) else some (v3, ())) else some (v3, ()))
noncomputable def spec_TidyMap (N : Nat) (a0 : Int × List Int × (List Int × List Int × List Int × List Int) × List Int × List Int × List Int) : Option (ByteArray × Unit) := spec_TidyMap.l0 N N ByteArray.empty 0 a0
noncomputable def C_spec_TidyMap (N : Nat) : Cx := ⟨tt, [E_spec_BookOk N, E_spec_l18Sign N], [], [], []⟩
noncomputable def E_spec_TidyMap (N : Nat) : Ent := { f := 10, par := (.agg (.pair (.int .i64) (.pair (.sl .bor (.int .i64)) (.pair (.agg (.pair (.sl .bor (.int .i64)) (.pair (.sl .bor (.int .i64)) (.pair (.sl .bor (.int .i64)) (.sl .bor (.int .i64)))))) (.pair (.sl .bor (.int .i64)) (.pair (.sl .bor (.int .i64)) (.sl .bor (.int .i64)))))))), sto := [], res := .str, osto := [], fn := fun (x : Int × List Int × (List Int × List Int × List Int × List Int) × List Int × List Int × List Int) (y : Unit) => spec_TidyMap N x }
noncomputable def L_spec_TidyMap (N : Nat) : List (LpE ((E_spec_TidyMap N).res.D × SD (E_spec_TidyMap N).osto)) := [⟨[0, 1, 0, 1, 1], ⟨[(1, (.ptr 64 [] 0)), (3, .str), (4, (.int .i64))], [(64, .box (.agg (.pair (.int .i64) (.pair (.sl .bor (.int .i64)) (.pair (.agg (.pair (.sl .bor (.int .i64)) (.pair (.sl .bor (.int .i64)) (.pair (.sl .bor (.int .i64)) (.sl .bor (.int .i64)))))) (.pair (.sl .bor (.int .i64)) (.pair (.sl .bor (.int .i64)) (.sl .bor (.int .i64)))))))))], 128⟩, fun k (x : Unit × ByteArray × Int) (y : (Int × List Int × (List Int × List Int × List Int × List Int) × List Int × List Int × List Int)) => spec_TidyMap.l0 N k x.2.1 x.2.2 y⟩]
theorem ok_spec_TidyMap (N : Nat) : EntOk Tryd.prog (E_spec_TidyMap N) := ent_of (C := C_spec_TidyMap N) ⟨tt_ok, (tab_cons (ok_spec_BookOk N) (tab_cons (ok_spec_l18Sign N) tab_nil)), (fun t h => by simp [C_spec_TidyMap] at h)⟩ mixed (fn := Tryd.f10) Tryd.func10 (by kernel_rfl) (by kernel_rfl) (by kernel_rfl) (by kernel_rfl) (by kernel_rfl) (L_spec_TidyMap N) N (fun x y => by kernel_rfl) ⟨⟨by kernel_rfl, fun _ _ => rfl, fun k x y => by kernel_rfl⟩, trivial⟩
noncomputable def laws_FnTidyMap.l0 (N : Nat) : Nat → Int → (Int × Unit × (Unit × Unit × Unit × Unit) × Unit × Unit × Unit) → (Int × Unit × (Unit × Unit × Unit × Unit) × Unit × Unit × Unit) → List Int → List Int → List Int → List Int → List Int → List Int → List Int → List Int → List Int → List Int → List Int → List Int → List Int → List Int → List Int → List Int → Option (Bool × Unit)
  | 0, _, _, _, _, _, _, _, _, _, _, _, _, _, _, _, _, _, _, _ => none
  | k + 1, v7, m64, m65, m66, m67, m68, m69, m70, m71, m72, m73, m74, m75, m76, m77, m78, m79, m80, m81 => (bif decide (v7 < (m71.length : Int)) then (bif (bif decide (0 ≤ v7) then decide (v7 < (m71.length : Int)) else false) then (bif (bif decide (0 ≤ v7) then decide (v7 < (m79.length : Int)) else false) then (bif (m71.getD v7.toNat 0 != m79.getD v7.toNat 0) then some (false, ()) else (bif (bif decide (0 ≤ IntKind.i64.wrap (Int.tdiv v7 8)) then decide (IntKind.i64.wrap (Int.tdiv v7 8) < (m66.length : Int)) else false) then (bif (bif decide (0 ≤ IntKind.i64.wrap (Int.tdiv v7 8)) then decide (IntKind.i64.wrap (Int.tdiv v7 8) < (m74.length : Int)) else false) then (bif (m66.getD ((IntKind.i64.wrap (Int.tdiv v7 8)).toNat) 0 != m74.getD ((IntKind.i64.wrap (Int.tdiv v7 8)).toNat) 0) then some (false, ()) else laws_FnTidyMap.l0 N k (IntKind.i64.wrap (v7 + 1)) (m64.1, (), ((), (), (), ()), (), (), ()) (m65.1, (), ((), (), (), ()), (), (), ()) m66 m67 m68 m69 m70 m71 m72 m73 m74 m75 m76 m77 m78 m79 m80 m81) else none) else none)) else none) else none) else some (((m71.length : Int) == (m79.length : Int)), ()))
noncomputable def laws_FnTidyMap (N : Nat) (a0 : List Int) (a1 : List Int) : Option (Bool × Unit) := (bif decide ((a0.length : Int) > 1048576) then some (true, ()) else (bif decide ((a1.length : Int) > 1048576) then some (true, ()) else (spec_DrawTidyMap N a0).bind fun u1 => (spec_DrawTidyMap N a1).bind fun u2 => (impl_TidyMap N (u1.1.1, u1.2.1, (u1.2.2.1, u1.2.2.2.1, u1.2.2.2.2.1, u1.2.2.2.2.2.1), u1.2.2.2.2.2.2)).bind fun u3 => (spec_TidyMap N (u1.1.1, u1.2.1, (u1.2.2.1, u1.2.2.2.1, u1.2.2.2.2.1, u1.2.2.2.2.2.1), u1.2.2.2.2.2.2)).bind fun u4 => (bif (!(u3.1.toList == u4.1.toList)) then some (false, ()) else (spec_BookOk N (u1.1.1, u1.2.1, (u1.2.2.1, u1.2.2.2.1, u1.2.2.2.2.1, u1.2.2.2.2.2.1), u1.2.2.2.2.2.2)).bind fun u5 => (bif (!u5.1) then some (true, ()) else (spec_BookOk N (u2.1.1, u2.2.1, (u2.2.2.1, u2.2.2.2.1, u2.2.2.2.2.1, u2.2.2.2.2.2.1), u2.2.2.2.2.2.2)).bind fun u6 => (bif (!u6.1) then some (true, ()) else (impl_TidyMap N (u1.1.1, u1.2.1, (u1.2.2.1, u1.2.2.2.1, u1.2.2.2.2.1, u1.2.2.2.2.2.1), u1.2.2.2.2.2.2)).bind fun u7 => (impl_TidyMap N (u2.1.1, u2.2.1, (u2.2.2.1, u2.2.2.2.1, u2.2.2.2.2.1, u2.2.2.2.2.2.1), u2.2.2.2.2.2.2)).bind fun u8 => (bif (!(u7.1.toList == u8.1.toList)) then some (true, ()) else laws_FnTidyMap.l0 N N 0 (u1.1.1, (), ((), (), (), ()), (), (), ()) (u2.1.1, (), ((), (), (), ()), (), (), ()) u1.2.1 u1.2.2.1 u1.2.2.2.1 u1.2.2.2.2.1 u1.2.2.2.2.2.1 u1.2.2.2.2.2.2.1 u1.2.2.2.2.2.2.2.1 u1.2.2.2.2.2.2.2.2 u2.2.1 u2.2.2.1 u2.2.2.2.1 u2.2.2.2.2.1 u2.2.2.2.2.2.1 u2.2.2.2.2.2.2.1 u2.2.2.2.2.2.2.2.1 u2.2.2.2.2.2.2.2.2))))))
noncomputable def C_laws_FnTidyMap (N : Nat) : Cx := ⟨tt, [E_spec_TidyMap N, E_impl_TidyMap N, E_spec_DrawTidyMap N, E_spec_BookOk N], [], [], []⟩
noncomputable def E_laws_FnTidyMap (N : Nat) : Ent := { f := 4, par := (.pair (.sl .frz (.int .u8)) (.sl .frz (.int .u8))), sto := [], res := .bool, osto := [], fn := fun (x : List Int × List Int) (y : Unit) => laws_FnTidyMap N x.1 x.2 }
noncomputable def L_laws_FnTidyMap (N : Nat) : List (LpE ((E_laws_FnTidyMap N).res.D × SD (E_laws_FnTidyMap N).osto)) := [⟨[0, 1, 0, 1, 1, 1, 1, 1, 1], ⟨[(5, (.ptr 64 [] 0)), (6, (.ptr 65 [] 0)), (7, (.int .i64))], [(64, .box (.agg (.pair (.int .i64) (.pair (.sl (.own 66) (.int .i64)) (.pair (.agg (.pair (.sl (.own 67) (.int .i64)) (.pair (.sl (.own 68) (.int .i64)) (.pair (.sl (.own 69) (.int .i64)) (.sl (.own 70) (.int .i64)))))) (.pair (.sl (.own 71) (.int .i64)) (.pair (.sl (.own 72) (.int .i64)) (.sl (.own 73) (.int .i64))))))))), (65, .box (.agg (.pair (.int .i64) (.pair (.sl (.own 74) (.int .i64)) (.pair (.agg (.pair (.sl (.own 75) (.int .i64)) (.pair (.sl (.own 76) (.int .i64)) (.pair (.sl (.own 77) (.int .i64)) (.sl (.own 78) (.int .i64)))))) (.pair (.sl (.own 79) (.int .i64)) (.pair (.sl (.own 80) (.int .i64)) (.sl (.own 81) (.int .i64))))))))), (66, .arr (.int .i64)), (67, .arr (.int .i64)), (68, .arr (.int .i64)), (69, .arr (.int .i64)), (70, .arr (.int .i64)), (71, .arr (.int .i64)), (72, .arr (.int .i64)), (73, .arr (.int .i64)), (74, .arr (.int .i64)), (75, .arr (.int .i64)), (76, .arr (.int .i64)), (77, .arr (.int .i64)), (78, .arr (.int .i64)), (79, .arr (.int .i64)), (80, .arr (.int .i64)), (81, .arr (.int .i64))], 128⟩, fun k (x : Unit × Unit × Int) (y : (Int × Unit × (Unit × Unit × Unit × Unit) × Unit × Unit × Unit) × (Int × Unit × (Unit × Unit × Unit × Unit) × Unit × Unit × Unit) × (List Int) × (List Int) × (List Int) × (List Int) × (List Int) × (List Int) × (List Int) × (List Int) × (List Int) × (List Int) × (List Int) × (List Int) × (List Int) × (List Int) × (List Int) × (List Int)) => laws_FnTidyMap.l0 N k x.2.2 y.1 y.2.1 y.2.2.1 y.2.2.2.1 y.2.2.2.2.1 y.2.2.2.2.2.1 y.2.2.2.2.2.2.1 y.2.2.2.2.2.2.2.1 y.2.2.2.2.2.2.2.2.1 y.2.2.2.2.2.2.2.2.2.1 y.2.2.2.2.2.2.2.2.2.2.1 y.2.2.2.2.2.2.2.2.2.2.2.1 y.2.2.2.2.2.2.2.2.2.2.2.2.1 y.2.2.2.2.2.2.2.2.2.2.2.2.2.1 y.2.2.2.2.2.2.2.2.2.2.2.2.2.2.1 y.2.2.2.2.2.2.2.2.2.2.2.2.2.2.2.1 y.2.2.2.2.2.2.2.2.2.2.2.2.2.2.2.2.1 y.2.2.2.2.2.2.2.2.2.2.2.2.2.2.2.2.2⟩]
theorem ok_laws_FnTidyMap (N : Nat) : EntOk Tryd.prog (E_laws_FnTidyMap N) := ent_of (C := C_laws_FnTidyMap N) ⟨tt_ok, (tab_cons (ok_spec_TidyMap N) (tab_cons (ok_impl_TidyMap N) (tab_cons (ok_spec_DrawTidyMap N) (tab_cons (ok_spec_BookOk N) tab_nil)))), (fun t h => by simp [C_laws_FnTidyMap] at h)⟩ mixed (fn := Tryd.f4) Tryd.func4 (by kernel_rfl) (by kernel_rfl) (by kernel_rfl) (by kernel_rfl) (by kernel_rfl) (L_laws_FnTidyMap N) N (fun x y => by kernel_rfl) ⟨⟨by kernel_rfl, fun _ _ => rfl, fun k x y => by kernel_rfl⟩, trivial⟩
end Go.Proofs.YtdkinmgpclbedaaDoor.Pv
