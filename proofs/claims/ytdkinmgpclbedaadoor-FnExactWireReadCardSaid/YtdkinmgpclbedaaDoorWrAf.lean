/- The law FnExactWireRead, walked by hand. -/
import Derived.Test.YtdkinmgpclbedaaDoorWrAe
import Derived.Stop.LaidErr
import Derived.MakeChecks
import Derived.SizedLaws
namespace Go.Proofs.YtdkinmgpclbedaaDoor.Pv
open Go Go.Pv Go.Proofs Go.RowKit Go.Shelf
set_option linter.unusedVariables false
set_option linter.unusedSimpArgs false
set_option maxRecDepth 100000
/-- A row of cells that may be written. -/
def RowW (w : World) (B off n : Nat) : Prop := ∀ j, j < n → (∃ v, w.cell? ⟨B, off + j, none⟩ = some v) ∧ w.frozen? ⟨B, off + j, none⟩ = false
/-- Only blocks of a set are written; what they can be written at stays. -/
structure OnlyZ (Z : Nat → Prop) (w w' : World) : Prop where
  os : w'.os = w.os
  tape : w'.tape = w.tape
  output : w'.output = w.output
  size : w'.heap.size = w.heap.size
  block : ∀ k, ¬ Z k → w'.heap[k]? = w.heap[k]?
  cell : ∀ b o v, w.cell? ⟨b, o, none⟩ = some v → ∃ v', w'.cell? ⟨b, o, none⟩ = some v'
  frz : ∀ b o, w'.frozen? ⟨b, o, none⟩ = w.frozen? ⟨b, o, none⟩
theorem OnlyZ.refl (Z : Nat → Prop) (w : World) : OnlyZ Z w w := ⟨rfl, rfl, rfl, rfl, fun _ _ => rfl, fun _ _ v h => ⟨v, h⟩, fun _ _ => rfl⟩
theorem OnlyZ.trans {Z : Nat → Prop} {w w' w'' : World} (h : OnlyZ Z w w') (h2 : OnlyZ Z w' w'') : OnlyZ Z w w'' :=
  ⟨h2.os.trans h.os, h2.tape.trans h.tape, h2.output.trans h.output, h2.size.trans h.size, fun k hk => (h2.block k hk).trans (h.block k hk), fun b o v hv => (h.cell b o v hv).elim fun v' hv' => h2.cell b o v' hv', fun b o => (h2.frz b o).trans (h.frz b o)⟩
theorem OnlyZ.mono {Z Y : Nat → Prop} {w w' : World} (h : OnlyZ Z w w') (hz : ∀ k, Z k → Y k) : OnlyZ Y w w' :=
  ⟨h.os, h.tape, h.output, h.size, fun k hk => h.block k (fun c => hk (hz k c)), h.cell, h.frz⟩
theorem cell_set_self (w : World) (b o : Nat) (v u : Value) (h : w.cell? ⟨b, o, none⟩ = some u) : (w.setCell ⟨b, o, none⟩ v).cell? ⟨b, o, none⟩ = some v := by
  unfold World.cell? World.setCell at *
  simp only [Array.getElem?_modify, if_true]
  cases hb : w.heap[b]? with
  | none => simp [hb] at h
  | some ob =>
    cases ob with
    | cells c t f =>
      simp [hb] at h ⊢
      have := (Array.getElem?_eq_some_iff.1 h).1
      simp [this]
    | _ => simp [hb] at h
theorem cell_set_ne (w : World) (b o o2 : Nat) (v : Value) (h : o ≠ o2) : (w.setCell ⟨b, o, none⟩ v).cell? ⟨b, o2, none⟩ = w.cell? ⟨b, o2, none⟩ := by
  unfold World.cell? World.setCell
  simp only [Array.getElem?_modify, if_true]
  cases hb : w.heap[b]? with
  | none => simp
  | some ob =>
    cases ob with
    | cells c t f => simp [Array.getElem?_setIfInBounds, h]
    | _ => simp
theorem heap_set_ne (w : World) (p : Addr) (v : Value) (k : Nat) (h : k ≠ p.block) : (w.setCell p v).heap[k]? = w.heap[k]? := by
  unfold World.setCell
  simp only [Array.getElem?_modify]
  rw [if_neg (fun e => h e.symm)]
theorem OnlyZ.set {Z : Nat → Prop} {w w' : World} (h : OnlyZ Z w w') {B o : Nat} (hB : Z B) (v : Value) : OnlyZ Z w (w'.setCell ⟨B, o, none⟩ v) := by
  refine h.trans ⟨rfl, rfl, rfl, by simp [World.setCell], fun k hk => heap_set_ne _ _ _ _ (fun e => hk (by rw [e]; exact hB)), fun b o2 u hu => ?_, fun b o2 => World.frozen?_setCell ..⟩
  by_cases hb : b = B
  · subst hb
    by_cases ho : o = o2
    · subst ho; exact ⟨v, cell_set_self _ _ _ _ _ hu⟩
    · exact ⟨u, by rw [cell_set_ne _ _ _ _ _ ho]; exact hu⟩
  · refine ⟨u, ?_⟩
    rw [← hu]
    exact World.cell?_of_block (heap_set_ne _ _ _ _ hb)
theorem RowW.only {Z : Nat → Prop} {w w' : World} {B off n : Nat} (h : RowW w B off n) (ho : OnlyZ Z w w') : RowW w' B off n := fun j hj =>
  ⟨(h j hj).1.elim fun v hv => ho.cell _ _ v hv, (ho.frz _ _).trans (h j hj).2⟩
theorem mk31c (g c n : Nat) (w : World) (hR : RowW w g 0 n) (hn : n ≤ 1048576) :
    Calls Tryd.prog 31 #[.slice (some ⟨g, 0, none⟩) n c, .int .i64 1] w fun e w' => e = .returned (.int .i64 (1 + n)) ∧ OnlyZ (· = g) w w' ∧ ∀ i, i < n → w'.cell? ⟨g, i, none⟩ = some (.int .u64 (1 + (i : Int))) := by
  have hR : ∀ j, j < n → (∃ v, w.cell? ⟨g, j, none⟩ = some v) ∧ w.frozen? ⟨g, j, none⟩ = false := fun j hj => by have := hR j hj; rwa [Nat.zero_add] at this
  have HR := Lib.hid hR
  clear hR
  go_enter Tryd.func31, Tryd.ntmps31
  go_wp2
  go_loopw [1, 5] (fun q i wr => ∃ j : Nat, i = .int .i64 j ∧ q = .int .i64 (1 + j) ∧ j ≤ n ∧ Hid (OnlyZ (· = g) w wr) ∧ Hid (∀ i, i < j → wr.cell? ⟨g, i, none⟩ = some (.int .u64 (1 + (i : Int))))) (fun _ i _ => n - (intOf i).toNat)
  case atStart => exact ⟨0, rfl, by go_num, by omega, Lib.hid (OnlyZ.refl _ w), Lib.hid (fun i hi => by omega)⟩
  case round =>
    obtain ⟨j, rfl, rfl, hj, HO, HM⟩ := hrel
    by_cases hjn : j < n
    · obtain ⟨⟨v, hv⟩, hf⟩ := HR.out j hjn
      obtain ⟨v', hv'⟩ := HO.out.cell _ _ _ hv
      have hf' := (HO.out.frz g j).trans hf
      clear hv hf
      go_wp2
      go_roundw
      case rel => exact ⟨j + 1, by go_num, by go_num, by omega, Lib.hid (HO.out.set rfl _), Lib.hid (fun i hi => by
        by_cases e : i = j
        · subst e; exact cell_set_self _ _ _ _ _ hv'
        · rw [cell_set_ne _ _ _ _ _ (Ne.symm e)]; exact HM.out i (by omega))⟩
      case measure => simp [intOf]; omega
    · have e : j = n := by omega
      subst e
      go_wp2
      go_ret
      exact ⟨rfl, HO.out, HM.out⟩
theorem mk31n (A : Option Addr) (c : Nat) (w : World) :
    Calls Tryd.prog 31 #[.slice A 0 c, .int .i64 1] w fun e w' => e = .returned (.int .i64 1) ∧ w' = w := by
  go_enter Tryd.func31, Tryd.ntmps31
  go_wp2
  go_loopw [1, 5] (fun q i wr => i = .int .i64 0 ∧ q = .int .i64 1 ∧ wr = w) (fun _ i _ => 0)
  case atStart => exact ⟨rfl, rfl, rfl⟩
  case round =>
    obtain ⟨rfl, rfl, rfl⟩ := hrel
    go_wp2
    go_ret
    exact ⟨rfl, rfl⟩
theorem mk31 {B : Nat} {w : World} {v : Value} {o : List Int} (h : Own B w v o) (hl : o.length ≤ 300) (hB : B ≤ w.heap.size) :
    Calls Tryd.prog 31 #[v, .int .i64 1] w fun e w' => e = .returned (.int .i64 (1 + (o.length : Int))) ∧ U64At w' v (marks 1 o.length) ∧ Below B w w' := by
  have hm := marks_length 1 o.length
  rcases h.2 with ⟨rfl, h0⟩ | ⟨g, cap, cur, rfl, hb, hg, hnc, hcm, hcs, htake⟩
  · rw [h0]
    refine (mk31n none 0 w).mono ?_
    rintro e w' ⟨rfl, rfl⟩
    exact ⟨by simp, ⟨none, 0, rfl, Nat.le_refl _, .inl rfl⟩, Below.refl _ _⟩
  · have hlt := (Array.getElem?_eq_some_iff.1 hg).1
    have hR : RowW w g 0 o.length := fun j hj => by
      have hjc : 0 + j < cur.size := by rw [hcs]; omega
      refine ⟨⟨cur[0 + j], ?_⟩, ?_⟩
      · rw [cell_of_row w g (0 + j) cur 40 (0, 0) hg, Array.getElem?_eq_getElem hjc]
      · unfold World.frozen?
        simp [hg]
    refine (mk31c g cap o.length w hR (by omega)).mono ?_
    rintro e w' ⟨rfl, ho, hc⟩
    refine ⟨rfl, ⟨some ⟨g, 0, none⟩, cap, by rw [hm], by rw [hm]; exact hnc, .inr ⟨g, 0, rfl, by rw [ho.size]; exact hlt, fun i hi => ?_⟩⟩, ho.os, ho.tape, ho.output, by rw [ho.size]; exact Nat.le_refl _, fun k hk => ho.block k (by omega)⟩
    rw [hm] at hi
    rw [Nat.zero_add, hc i hi, marks_getD 1 _ _ hi]
theorem held32 {l : List Int} {r : Int} (hu : laws_heldUint64S N0 l 1 = some (r, ())) {w : World} {v : Value} (hv : U64At w v l) :
    Calls Tryd.prog 32 #[v, .int .i64 1] w fun e w' => e = .returned (.int .i64 r) ∧ Below w.heap.size w w' := by
  refine (quiet_calls (fz := zF) (bz := fun b => b < w.heap.size) (φ := zφ) (ok_laws_heldUint64S N0) rfl (x := (l, 1)) (y := ()) hu (args := [v, .int .i64 1]) ⟨v, _, rfl, hv.rep, _, rfl, rfl⟩ (fun _ h => h.elim) (fun _ h => h) (fun _ => rfl)).mono ?_
  rintro e w' ⟨⟨q, rfl, fz', φ', h1⟩, h2⟩
  have h1 : [q] = [.int .i64 r] := h1
  have h1 : q = .int .i64 r := by simpa using h1
  exact ⟨by rw [h1], h2⟩
theorem spec29 {t : ByteArray} {b : Bool} {o : List Int} (hu : spec_WireRead N0 t = some (((), b), o)) (w : World) :
    Calls Tryd.prog 29 #[.string t] w fun e w' => ∃ v, e = .returned (.tuple #[v, .bool b]) ∧ U64At w' v o ∧ Below w.heap.size w w' := by
  have hS : Go.Pv.Start w zF (fun b => b < w.heap.size) zF zφ (E_spec_WireRead N0).par t (cellsOf (E_spec_WireRead N0).sto ()) [.string t] := by
    refine ⟨⟨_, rfl, rfl⟩, by simp [cellsOf, E_spec_WireRead], by simp [cellsOf, E_spec_WireRead], by simp [cellsOf, E_spec_WireRead], fun _ h => h.elim, fun _ h => h, fun _ => rfl⟩
  refine ((ok_spec_WireRead N0).run t () _ hu [.string t] w _ _ _ _ hS).mono fun r w' hr => ?_
  cases r with
  | returned v' =>
    obtain ⟨fz', φ', hF⟩ := hr
    obtain ⟨vs, e0, v1, r1, e1, g1, v2, e2, g2⟩ := hF.rep
    have g1 : [v1] = [φ' 32] := g1
    have g2 : [v2] = [.bool b] := g2
    have g1 : v1 = φ' 32 := by simpa using g1
    have g2 : v2 = .bool b := by simpa using g2
    subst e2
    subst e1
    subst g2
    refine ⟨v1, by rw [e0], ?_, hF.os, hF.tape, hF.output, hF.size, fun k hk => hF.frame k hk (fun h => h)⟩
    obtain ⟨_, _, A, c, e3, h3, h4⟩ := hF.cell (32, .arr (.int .u64) o) (by simp [cellsOf, E_spec_WireRead, CTy.cell])
    have e3 : φ' 32 = .slice A o.length c := e3
    refine ⟨A, c, g1.trans e3, h3.1, ?_⟩
    rcases h4 with h4 | ⟨B, off, ety, ar, rfl, h5, h6, h7⟩
    · have := h3.1
      exact .inl (by omega)
    · refine .inr ⟨B, off, rfl, (Array.getElem?_eq_some_iff.1 h5).1, fun i hi => ?_⟩
      obtain ⟨ys, k1, k2⟩ := h7 i o[i] (List.getElem?_eq_getElem hi)
      have k1 : ys = [.int .u64 o[i]] := k1
      have := k2 0 (.int .u64 o[i]) (by rw [k1]; rfl)
      rw [show Ty.sz (.int .u64) = 1 from rfl, Nat.mul_one, Nat.add_zero] at this
      rw [Lib.cell_of_heap h5, this]
      simp [List.getD, hi]
  | panicked ch => exact hr.elim
  | outgrown => exact hr.elim
theorem wr_long {t : ByteArray} (hl : 1048576 < t.size) (w : World) : Calls Tryd.prog 8 #[.string t] w fun e w' => e = .returned (.bool true) ∧ Below w.heap.size w w' := by
  go_enter Tryd.func8, Tryd.ntmps8
  go_wp2
  go_ret
  exact ⟨rfl, Below.refl _ _⟩
/-- What is found in the world that the law begins in, and stays. -/
structure Grounds (w : World) : Prop where
  maxl : MaxL w
  errs : Errs w
  tabs : Tabs w
theorem Grounds.old {w w' : World} (h : Grounds w) (hb : Below w.heap.size w w') : Grounds w' := ⟨h.maxl.old hb, h.errs.old hb, h.tabs.old hb⟩
theorem wr30u {t : ByteArray} {b : Bool} {o : List Int} (hr : Reads t.data.toList b o) (w : World) (hG : Grounds w) :
    Calls Tryd.prog 30 #[.string t] w fun e w' => ∃ v, e = .returned (.tuple #[v, .bool b]) ∧ Own w.heap.size w' v o ∧ Below w.heap.size w w' := by
  refine (wr30 t w hG.maxl hG.errs hG.tabs).mono ?_
  rintro e w' ⟨⟨b', o', v, rfl, h1, h2⟩, h3⟩
  obtain ⟨rfl, rfl⟩ := Reads.unique hr h1
  exact ⟨v, rfl, h2, h3⟩
set_option maxHeartbeats 8000000 in
theorem wr_law {t : ByteArray} {b : Bool} {o : List Int} (hl : t.size ≤ 1048576) (hs : spec_WireRead N0 t = some (((), b), o)) (hr : Reads t.data.toList b o) (ho : o.length ≤ 300) (heq : laws_eqUint64S N0 o o = some (true, ())) (hh : laws_heldUint64S N0 (marks 1 o.length) 1 = some (1 + (o.length : Int), ()))
    (w : World) (hG : Grounds w) : Calls Tryd.prog 8 #[.string t] w fun e w' => e = .returned (.bool true) ∧ Below w.heap.size w w' := by
  have C29 := Lib.hid (spec29 hs w)
  have C30 := Lib.hid (fun (w' : World) (hb : Below w.heap.size w w') => wr30u hr w' (hG.old hb))
  have C28 := Lib.hid (fun (w' : World) (v v2 : Value) (h : U64At w' v o) (h2 : U64At w' v2 o) => eq28 heq h h2)
  have C31 := Lib.hid (fun (B : Nat) (w' : World) (v : Value) (h : Own B w' v o) (hB : B ≤ w'.heap.size) => mk31 h ho hB)
  have C32 := Lib.hid (fun (w' : World) (v : Value) (h : U64At w' v (marks 1 o.length)) => held32 hh h)
  clear hs hr ho heq hh hG
  obtain ⟨n, hn⟩ : ∃ n : Nat, n = o.length := ⟨_, rfl⟩
  rw [← hn] at C31 C32
  clear hn
  have hneg : ¬ ((1 : Int) + n < 0) := by omega
  go_enter Tryd.func8, Tryd.ntmps8
  go_wp2_with (go_at_call 29; refine C29.out.mono ?_; rintro e w1 ⟨v0, rfl, hu, hb⟩; refine Hid.out ?_)
  refine Lib.hid ?_
  have HU0 := Lib.hid hu; have HB1 := Lib.hid hb; clear hu hb
  go_wp2_with (go_at_call 30; refine (C30.out _ HB1.out).mono ?_; rintro e w2 ⟨v1, rfl, hown, hb⟩; refine Hid.out ?_)
  refine Lib.hid ?_
  have HOWN := Lib.hid hown; have HB12 := Lib.hid hb; clear hown hb
  go_wp2_with (go_at_call 28; refine (C28.out _ _ _ (Own.u64 HOWN.out) (HU0.out.old HB12.out)).mono ?_; rintro e w3 ⟨rfl, hb⟩; refine Hid.out ?_)
  refine Lib.hid ?_
  have HOWN3 := Lib.hid (Own.old HOWN.out hb)
  have HB13 := Lib.hid (HB12.out.trans (hb.mono HB12.out.size)); clear hb
  go_wp2_with (go_at_call 31; refine (C31.out _ _ _ HOWN3.out HB13.out.size).mono ?_; rintro e w4 ⟨rfl, hu, hb⟩; refine Hid.out ?_)
  refine Lib.hid ?_
  have HU1 := Lib.hid hu
  have HB14 := Lib.hid (HB13.out.trans hb); clear hu hb
  go_wp2_with (go_at_call 32; refine (C32.out _ _ HU1.out).mono ?_; rintro e w5 ⟨rfl, hb⟩; refine Hid.out ?_)
  refine Lib.hid ?_
  have HB45 := Lib.hid hb; clear hb
  have HB5 : Hid (Below w.heap.size w w5) := Lib.hid (HB1.out.trans ((HB14.out.trans (HB45.out.mono HB14.out.size)).mono HB1.out.size))
  go_wp2_with (go_at_call 30; refine (C30.out _ HB5.out).mono ?_; rintro e w6 ⟨v2, rfl, hown, hb⟩; refine Hid.out ?_)
  refine Lib.hid ?_
  have HU2 := Lib.hid (Own.u64 hown)
  have HB46 := Lib.hid (HB45.out.trans (hb.mono HB45.out.size))
  have HB6 := Lib.hid (HB5.out.trans (hb.mono HB5.out.size)); clear hown hb
  go_wp2_with (go_at_call 28; refine (C28.out _ _ _ HU2.out ((HU0.out.old HB14.out).old HB46.out)).mono ?_; rintro e w7 ⟨rfl, hb⟩; refine Hid.out ?_)
  refine Lib.hid ?_
  have HB47 := Lib.hid (HB46.out.trans (hb.mono HB46.out.size))
  have HB7 := Lib.hid (HB6.out.trans (hb.mono HB6.out.size)); clear hb
  go_wp2_with (go_at_call 32; refine (C32.out _ _ (HU1.out.old HB47.out)).mono ?_; rintro e w8 ⟨rfl, hb⟩)
  go_ret
  exact ⟨rfl, HB7.out.trans (hb.mono HB7.out.size)⟩
theorem star_errorString : "*" ++ "errors.errorString" = "*errors.errorString" := by decide
theorem row156 (u : TypeId) (h : Tryd.prog.typeName? 3 u = some "*errors.errorString") : u = 156 :=
  typeName_ptr_named (nm := "errors.errorString") (by rw [star_errorString]; kernel_rfl) (by kernel_rfl) (by decide) u (by rw [star_errorString]; exact h)
theorem errs_of {W : World} {a b c d : String × DataW Unit} {t1 t2 : List UInt8} {r : List (String × DataW Unit)}
    (h : laidMet Tryd.prog (a :: b :: c :: d :: ("strconv.ErrRange", .iface "*errors.errorString" (.ptr (.agg [.lit (.string t1)]))) :: ("strconv.ErrSyntax", .iface "*errors.errorString" (.ptr (.agg [.lit (.string t2)]))) :: r) W) : Errs W := by
  have h2 := h.tail.tail.tail.tail
  obtain ⟨a0, sa, hva, _, _, _⟩ := laid_sentinel h2 (by kernel_rfl : Tryd.prog.globalNamed "strconv.ErrRange" = some 2) (by kernel_rfl : (Tryd.prog.globals[2]?).map (·.type) = some 61) Tryd.underlying61 row156 Tryd.underlying156 Tryd.underlying158 rfl rfl Tryd.underlying9 (by kernel_rfl) (by kernel_rfl)
  obtain ⟨b0, sb, hvb, _, _, _⟩ := laid_sentinel h2.tail (by kernel_rfl : Tryd.prog.globalNamed "strconv.ErrSyntax" = some 1) (by kernel_rfl : (Tryd.prog.globals[1]?).map (·.type) = some 61) Tryd.underlying61 row156 Tryd.underlying156 Tryd.underlying158 rfl rfl Tryd.underlying9 (by kernel_rfl) (by kernel_rfl)
  exact ⟨⟨_, _, hvb⟩, _, _, hva⟩
/-- The wrap, the world's shape kept. -/
theorem returns_and_shaped {H : Type} {enc : TypeId × Value → H} {a : Assume} {C : Checked} {os : Os} {f : FuncId} {fn : Func} {s : ChangeSpec} {conds : List PathCond} {apart fresh handsOn again : Bool} {X : World → Array Value → Prop}
    (hX : ∀ (w w' : World) (args : Array Value), w.heap = w'.heap → X w args → X w' args)
    (own : ownKnob C.prog.godebug = none) (started : os.Started) (noInit : C.prog.inits.idxOf? f = none) (hfn : C.prog.funcs[f]? = some fn)
    (witness : ∃ (w : World) (tape : Tape) (i : Input), w.os = os ∧ (w.forCall tape i).Shaped C.prog ∧ i.vars = [] ∧ Input.okWide C.prog (w.forCall tape i) .any w.heap.size f i ∧
      ((s.pre enc C.prog fn conds apart (w.forCall tape i).memory i.args ∧ X (w.forCall tape i).memory i.args) ∧ sizedMet enc C.prog fn (OpenSpec.ofChange s) apart (w.forCall tape i).memory i.args) ∧ a.holds C.prog (lone (Frame.enter C.prog f i.args .normal) [] (w.forCall tape i)))
    (contract : ∀ (W : World) (base : Nat) (args : Array Value) (ds gs : List (DataW H)) (before : List MemPlace),
      (∀ (j : Nat) t v, fn.params[j]? = some t → args[j]? = some v → Value.okWide C.prog W .any base t v) →
      DataW.Whole enc C.prog fn.params.toList s.vars apart W args.toList ds gs before →
      conds.all (PathCond.test C.prog ⟨fn.params.toList, ds, s.plain.varTypes C.prog, gs⟩) = true →
      (DataW.weightsEach C.prog (fn.params.toList ++ s.plain.varTypes C.prog) (ds ++ gs)).all (· ≤ reachBytes) = true → X W args → W.ShapedOpen C.prog →
      a.holds C.prog (lone (Frame.enter C.prog f args .normal) [] W) →
      Calls C.prog f args W fun e W' => ∃ v, e = .returned v ∧ s.post enc C.prog fn apart fresh handsOn again W args v W') :
    ReturnsInHanded a C os f .any (fun w args => (s.pre enc C.prog fn conds apart w args ∧ X w args) ∧ sizedMet enc C.prog fn (OpenSpec.ofChange s) apart w args) (s.post enc C.prog fn apart fresh handsOn again) := by
  refine returnsInHanded_of_calls own started noInit witness ?_
  intro w tape i _ hsh _ hok hpre hholds
  obtain ⟨_, _, _, fn', hfn', _, _, _, _, hval⟩ := hok
  have e : fn' = fn := Option.some.inj (hfn'.symm.trans hfn)
  subst e
  obtain ⟨⟨⟨ds, gs, before, hw, hc⟩, hx⟩, hz⟩ := hpre
  have hw' := DataW.Whole.of_heap (w' := w.forCall tape i) (by rfl) hw
  refine (contract (w.forCall tape i) w.heap.size i.args ds gs before hval hw' hc (hz.weights hw) (hX _ _ _ (by rfl) hx) hsh hholds).mono fun e W' ⟨v, he, hp⟩ => ?_
  subst he
  exact ChangeSpec.post_blind hp
end Go.Proofs.YtdkinmgpclbedaaDoor.Pv
