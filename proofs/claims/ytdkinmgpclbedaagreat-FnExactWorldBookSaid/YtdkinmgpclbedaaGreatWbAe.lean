/- The law FnExactWorldBook, walked: the law itself. -/
import Derived.Test.YtdkinmgpclbedaaGreatWbAd
import Derived.Deep.RegionWith
import Derived.Deep.CutRange
namespace Go.Proofs.YtdkinmgpclbedaaGreat.Pv
open Go Go.Pv Go.Proofs Go.RowKit
set_option linter.unusedVariables false
set_option linter.unusedSimpArgs false
set_option maxRecDepth 100000
set_option maxHeartbeats 0
theorem Wrote.of {w w' : World} (h : Below w.heap.size w w') : Wrote zF w w' := ⟨h.os, h.tape, h.output, h.size, fun k hk _ => h.block k hk⟩
theorem Wrote.alloc (w : World) (o : Obj) : Wrote zF w (w.alloc o) := .of ((Below.refl _ w).alloc (Nat.le_refl _) o)
structure IA (W : World) (aW aG : Value) (w : World) : Prop where
  bel : Below W.heap.size W w
  row : w.heap[W.heap.size]? = some (.cells #[aW, aG] 25 (0, 0))
structure IB (p n0 n1 : Nat) (b : Bk) (x : Int) (v1 v2 v3 v4 v5 v6 v7 v8 : Value) (w : World) : Prop where
  row : w.heap[p]? = some (.cells #[.int .i64 x, v1, v2, v3, v4, v5, v6, v7, v8] 30 (0, 0))
  book : BookO n0 n1 w b [v1, v2, v3, v4, v5, v6, v7, v8]
structure IC (p n0 n1 : Nat) (y : Wld) (xW xG : Value) (w : World) : Prop where
  row : w.heap[p]? = some (.cells #[xW, xG] 35 (0, 0))
  copy : WCopy n0 n1 w y xW xG
  lt : n1 ≤ w.heap.size
theorem lt_of_get {w : World} {k : Nat} {o : Obj} (h : w.heap[k]? = some o) : k < w.heap.size := (Array.getElem?_eq_some_iff.1 h).1
theorem IA.step {Z : Nat → Prop} {W w w' : World} {aW aG : Value} (h : Hid (IA W aW aG w)) (hw : Wrote Z w w') (hz : ∀ k, Z k → W.heap.size < k) : Hid (IA W aW aG w') :=
  ⟨⟨hw.os.trans h.out.bel.os, hw.tape.trans h.out.bel.tape, hw.output.trans h.out.bel.output, Nat.le_trans h.out.bel.size hw.size, fun k hk => (hw.block k (Nat.lt_of_lt_of_le hk h.out.bel.size) (fun c => by have := hz k c; omega)).trans (h.out.bel.block k hk)⟩,
    (hw.block _ (lt_of_get h.out.row) (fun c => by have := hz _ c; omega)).trans h.out.row⟩
theorem IB.step {Z : Nat → Prop} {p n0 n1 : Nat} {b : Bk} {x : Int} {v1 v2 v3 v4 v5 v6 v7 v8 : Value} {w w' : World} (h : Hid (IB p n0 n1 b x v1 v2 v3 v4 v5 v6 v7 v8 w)) (hw : Wrote Z w w') (hz : ∀ k, Z k → k ≠ p ∧ ¬ Zn n0 n1 k) : Hid (IB p n0 n1 b x v1 v2 v3 v4 v5 v6 v7 v8 w') :=
  ⟨(hw.block _ (lt_of_get h.out.row) (fun c => (hz _ c).1 rfl)).trans h.out.row, h.out.book.mono (fun k hk => hw.block k (Nat.lt_of_lt_of_le hk.2 h.out.book.lt) (fun c => (hz k c).2 hk)) hw.size⟩
theorem IC.step {Z : Nat → Prop} {p n0 n1 : Nat} {y : Wld} {xW xG : Value} {w w' : World} (h : Hid (IC p n0 n1 y xW xG w)) (hw : Wrote Z w w') (hz : ∀ k, Z k → k ≠ p ∧ ¬ Zn n0 n1 k) : Hid (IC p n0 n1 y xW xG w') :=
  ⟨(hw.block _ (lt_of_get h.out.row) (fun c => (hz _ c).1 rfl)).trans h.out.row, h.out.copy.mono (fun k hk => hw.block k (Nat.lt_of_lt_of_le hk.2 h.out.lt) (fun c => (hz k c).2 hk)), Nat.le_trans h.out.lt hw.size⟩
theorem cells2 {w : World} {p t : Nat} {u v : Value} (h : w.heap[p]? = some (.cells #[u, v] t (0, 0))) : w.cell? ⟨p, 0, none⟩ = some u ∧ w.cell? ⟨p, 1, none⟩ = some v := by
  constructor <;> rw [Lib.cell_of_heap h] <;> rfl
theorem cells9 {w : World} {p t : Nat} {u v1 v2 v3 v4 v5 v6 v7 v8 : Value} (h : w.heap[p]? = some (.cells #[u, v1, v2, v3, v4, v5, v6, v7, v8] t (0, 0))) : w.cell? ⟨p, 0, none⟩ = some u ∧ w.cell? ⟨p, 1, none⟩ = some v1 ∧ w.cell? ⟨p, 2, none⟩ = some v2 ∧ w.cell? ⟨p, 3, none⟩ = some v3 ∧ w.cell? ⟨p, 4, none⟩ = some v4 ∧ w.cell? ⟨p, 5, none⟩ = some v5 ∧ w.cell? ⟨p, 6, none⟩ = some v6 ∧ w.cell? ⟨p, 7, none⟩ = some v7 ∧ w.cell? ⟨p, 8, none⟩ = some v8 := by
  refine ⟨?_, ?_, ?_, ?_, ?_, ?_, ?_, ?_, ?_⟩ <;> rw [Lib.cell_of_heap h] <;> rfl
theorem WCopy.toRep {n0 n1 : Nat} {w : World} {y : Wld} {vW vG : Value} (h : WCopy n0 n1 w y vW vG) (hn : n1 ≤ w.heap.size) :
    RepC w (· < w.heap.size) zF zφ (.sl .frz (.int .u64)) y.1 [vW] ∧ RepC w (· < w.heap.size) zF zφ (.sl .frz tyG) y.2 [vG] :=
  ⟨RepC.mono (fun _ _ => rfl) (fun b h => Nat.lt_of_lt_of_le h.2 hn) (fun _ h => h.elim) (fun _ _ => rfl) h.r1, RepC.mono (fun _ _ => rfl) (fun b h => Nat.lt_of_lt_of_le h.2 hn) (fun _ h => h.elim) (fun _ _ => rfl) h.r2⟩
theorem WCopy.slices {n0 n1 : Nat} {w : World} {y : Wld} {vW vG : Value} (h : WCopy n0 n1 w y vW vG) : ∃ A m c G, vW = .slice A m c ∧ vG = .slice (some ⟨G, 0, none⟩) y.2.length y.2.length := by
  obtain ⟨_, _, G, _, _, rfl, ⟨A, c, rfl, _⟩, _⟩ := h
  exact ⟨A, _, c, G, rfl, rfl⟩
theorem Wrote.drew (w : World) : Wrote zF w w.drew := ⟨rfl, rfl, rfl, Nat.le_refl _, fun _ _ _ => rfl⟩
theorem Wrote.trans {Z : Nat → Prop} {w w' w'' : World} (h : Wrote zF w w') (h2 : Wrote Z w' w'') : Wrote Z w w'' := ⟨h2.os.trans h.os, h2.tape.trans h.tape, h2.output.trans h.output, Nat.le_trans h.size h2.size, fun k hk hz => (h2.block k (Nat.lt_of_lt_of_le hk h.size) hz).trans (h.block k hk id)⟩
theorem alloc_cell {w : World} {p o : Nat} {v : Value} (h : w.cell? ⟨p, o, none⟩ = some v) (ob : Obj) : (w.alloc ob).cell? ⟨p, o, none⟩ = some v := by
  rw [World.cell?_of_block (heap_alloc_old w ob (World.block_lt_of_cell? _ _ h))]
  exact h
theorem zF_any {p : Prop} (k : Nat) (h : zF k) : p := h.elim
theorem wb_law (W : World) (y : Wld) (cs : List Value) (hr : RepC W (· < W.heap.size) zF zφ (.pair (.sl .frz (.int .u64)) (.sl .frz tyG)) y cs) (hs : ∃ r : Int, laws_szWorld N0 y 1048576 = some (r, ()) ∧ (0 ≤ r → ∃ b ok, WbSpec y b ok)) :
    Calls Tryz.prog 3 #[.agg cs.toArray] W fun e W' => e = .returned (.bool true) ∧ Below W.heap.size W W' := by
  obtain ⟨r, hr1, hsp⟩ := hs
  obtain ⟨aW, aG, rfl, ra, rb⟩ : ∃ aW aG, cs = [aW, aG] ∧ RepC W (· < W.heap.size) zF zφ (.sl .frz (.int .u64)) y.1 [aW] ∧ RepC W (· < W.heap.size) zF zφ (.sl .frz tyG) y.2 [aG] := by
    simp only [RepC] at hr
    obtain ⟨_, _, rfl, ⟨A1, k1, rfl, p1, o1⟩, ⟨A2, k2, rfl, p2, o2⟩⟩ := hr
    exact ⟨_, _, rfl, by simp only [RepC]; exact ⟨A1, k1, rfl, p1, o1⟩, by simp only [RepC]; exact ⟨A2, k2, rfl, p2, o2⟩⟩
  have eA : ∃ A m k, aW = .slice A m k := by simp only [RepC] at ra; obtain ⟨A, k, e, _⟩ := ra; exact ⟨A, _, k, List.singleton_inj.1 e⟩
  have eB : ∃ A m k, aG = .slice A m k := by simp only [RepC] at rb; obtain ⟨A, k, e, _⟩ := rb; exact ⟨A, _, k, List.singleton_inj.1 e⟩
  obtain ⟨A1, l1, k1, rfl⟩ := eA
  obtain ⟨A2, l2, k2, rfl⟩ := eB
  have RA := Lib.hid ra
  have RB := Lib.hid rb
  have RC := Lib.hid hr
  have HSP := Lib.hid hsp
  have HR1 := Lib.hid hr1
  clear ra rb hr hsp hr1
  obtain ⟨W1, hW1⟩ : ∃ W1, W1 = W.alloc (.cells #[.slice A1 l1 k1, .slice A2 l2 k2] 25) := ⟨_, rfl⟩
  have I1 : Hid (IA W (.slice A1 l1 k1) (.slice A2 l2 k2) W1) := Lib.hid ⟨by rw [hW1]; exact (Below.refl _ W).alloc (Nat.le_refl _) _, by rw [hW1]; exact heap_alloc_new W _⟩
  have s1 : W.heap.size < W1.heap.size := by rw [hW1]; simp
  go_enter Tryz.func3, Tryz.ntmps3
  go_wp2_with (go_at_call 4; rw [← hW1]; refine (csz4 W1 y _ _ (repOld RA.out I1.out.bel) (repOld RB.out I1.out.bel) r HR1.out).mono ?_; rintro e w2 ⟨rfl, hb⟩; refine Hid.out ?_)
  clear hW1
  have hw : Wrote zF W1 w2 := Wrote.of hb
  replace I1 := IA.step I1 hw (fun _ h => False.elim h)
  have z_w2 : W1.heap.size ≤ w2.heap.size := hw.size
  clear hw
  clear hb
  by_cases hr0 : r < 0
  · refine Lib.hid ?_
    go_wp2
    go_ret
    exact ⟨rfl, I1.out.bel⟩
  obtain ⟨b, ok, hS⟩ := HSP.out (by omega)
  have HS := Lib.hid hS
  clear hS
  obtain ⟨f00, f01⟩ := cells2 I1.out.row
  refine Lib.hid ?_
  as_aux_lemma =>
    go_wp2_with (go_at_call 6; refine (tw6 w2 y [.slice A1 l1 k1, .slice A2 l2 k2] (repOld RC.out I1.out.bel) HS.out).mono ?_; rintro e w3 ⟨hb, vW, vG, rfl, hC⟩; refine Hid.out ?_)
    clear f00 f01
    have HC := Lib.hid (hC.toRep (Nat.le_refl _))
    have hw : Wrote zF w2 w3 := Wrote.of hb
    replace I1 := IA.step I1 hw (fun _ h => False.elim h)
    have z_w3 : w2.heap.size ≤ w3.heap.size := hw.size
    clear hw
    clear hb hC
    refine Lib.hid ?_
    go_wp2_with (go_at_call 5; refine (wb5 w3 y vW vG HC.out.1 HC.out.2 HS.out).mono ?_; rintro e w4 ⟨hb, wA1, wn1, wc1, wA2, wn2, wc2, wA3, wn3, wc3, wA4, wn4, wc4, wA5, wn5, wc5, wA6, wn6, wc6, wA7, wn7, wc7, wA8, wn8, wc8, rfl, hB⟩; refine Hid.out ?_)
    have HB := Lib.hid hB
    have hw : Wrote zF w3 w4 := Wrote.of hb
    replace I1 := IA.step I1 hw (fun _ h => False.elim h)
    have z_w4 : w3.heap.size ≤ w4.heap.size := hw.size
    clear hw
    clear hb hB HC
    obtain ⟨e00, e01⟩ := cells2 I1.out.row
    have f00 := alloc_cell e00
    have f01 := alloc_cell e01
    clear e00 e01
    obtain ⟨w5, hw5⟩ : ∃ w5, w5 = w4.alloc (.cells #[.int .i64 b.1, .slice wA1 wn1 wc1, .slice wA2 wn2 wc2, .slice wA3 wn3 wc3, .slice wA4 wn4 wc4, .slice wA5 wn5 wc5, .slice wA6 wn6 wc6, .slice wA7 wn7 wc7, .slice wA8 wn8 wc8] 30) := ⟨_, rfl⟩
    have qn : w5.heap[w4.heap.size]? = some (.cells #[.int .i64 b.1, .slice wA1 wn1 wc1, .slice wA2 wn2 wc2, .slice wA3 wn3 wc3, .slice wA4 wn4 wc4, .slice wA5 wn5 wc5, .slice wA6 wn6 wc6, .slice wA7 wn7 wc7, .slice wA8 wn8 wc8] 30 (0, 0)) := by rw [hw5]; exact heap_alloc_new w4 _
    have s_w5 : w4.heap.size < w5.heap.size := lt_of_get qn
    have hx : Wrote zF w4 w5 := by rw [hw5]; exact Wrote.alloc _ _
    have B4 := Lib.hid (IB.mk qn (HB.out.mono (fun k hk => hx.block k hk.2 id) hx.size))
    have hw : Wrote zF w4 w5 := hx
    replace I1 := IA.step I1 hw (fun _ h => False.elim h)
    have z_w5 : w4.heap.size ≤ w5.heap.size := hw.size
    clear hw
    clear qn HB hx
    refine Lib.hid ?_
    as_aux_lemma =>
      go_wp2_with (go_at_call 6; rw [← hw5]; refine (tw6 w5 y [.slice A1 l1 k1, .slice A2 l2 k2] (repOld RC.out I1.out.bel) HS.out).mono ?_; rintro e w6 ⟨hb, xW, xG, rfl, hC⟩; refine Hid.out ?_)
      clear hw5
      clear f00 f01
      obtain ⟨xA, xm, xc, xg, rfl, rfl⟩ := hC.slices
      have HC := Lib.hid hC
      have hw : Wrote zF w5 w6 := Wrote.of hb
      replace I1 := IA.step I1 hw (fun _ h => False.elim h)
      replace B4 := IB.step B4 hw (fun _ h => False.elim h)
      have z_w6 : w5.heap.size ≤ w6.heap.size := hw.size
      clear hw
      clear hb hC
      obtain ⟨w7, hw7⟩ : ∃ w7, w7 = w6.alloc (.cells #[.slice xA xm xc, .slice (some ⟨xg, 0, none⟩) y.2.length y.2.length] 35) := ⟨_, rfl⟩
      have qn : w7.heap[w6.heap.size]? = some (.cells #[.slice xA xm xc, .slice (some ⟨xg, 0, none⟩) y.2.length y.2.length] 35 (0, 0)) := by rw [hw7]; exact heap_alloc_new w6 _
      have s_w7 : w6.heap.size < w7.heap.size := lt_of_get qn
      have hx : Wrote zF w6 w7 := by rw [hw7]; exact Wrote.alloc _ _
      have C6 := Lib.hid (IC.mk qn (HC.out.mono (fun k hk => hx.block k hk.2 id)) hx.size)
      have hw : Wrote zF w6 w7 := hx
      replace I1 := IA.step I1 hw (fun _ h => False.elim h)
      replace B4 := IB.step B4 hw (fun _ h => False.elim h)
      have z_w7 : w6.heap.size ≤ w7.heap.size := hw.size
      clear hw
      clear qn HC hx
      have HC7 := Lib.hid (C6.out.copy.toRep C6.out.lt)
      refine Lib.hid ?_
      as_aux_lemma =>
        go_wp2_with (go_at_call 7; rw [← hw7]; refine (wb7 w7 y _ _ HC7.out.1 HC7.out.2 HS.out).mono ?_; rintro e w8 ⟨hb, gA1, gn1, gc1, gA2, gn2, gc2, gA3, gn3, gc3, gA4, gn4, gc4, gA5, gn5, gc5, gA6, gn6, gc6, gA7, gn7, gc7, gA8, gn8, gc8, rfl, hB⟩; refine Hid.out ?_)
        clear hw7
        clear HC7
        have HB := Lib.hid hB
        have hw : Wrote zF w7 w8 := Wrote.of hb
        replace I1 := IA.step I1 hw (fun _ h => False.elim h)
        replace B4 := IB.step B4 hw (fun _ h => False.elim h)
        replace C6 := IC.step C6 hw (fun _ h => False.elim h)
        have z_w8 : w7.heap.size ≤ w8.heap.size := hw.size
        clear hw
        clear hb hB
        obtain ⟨e00, e01, e02, e03, e04, e05, e06, e07, e08⟩ := cells9 B4.out.row
        have f00 := alloc_cell e00
        have f01 := alloc_cell e01
        have f02 := alloc_cell e02
        have f03 := alloc_cell e03
        have f04 := alloc_cell e04
        have f05 := alloc_cell e05
        have f06 := alloc_cell e06
        have f07 := alloc_cell e07
        have f08 := alloc_cell e08
        clear e00 e01 e02 e03 e04 e05 e06 e07 e08
        obtain ⟨w9, hw9⟩ : ∃ w9, w9 = w8.alloc (.cells #[.int .i64 b.1, .slice gA1 gn1 gc1, .slice gA2 gn2 gc2, .slice gA3 gn3 gc3, .slice gA4 gn4 gc4, .slice gA5 gn5 gc5, .slice gA6 gn6 gc6, .slice gA7 gn7 gc7, .slice gA8 gn8 gc8] 30) := ⟨_, rfl⟩
        have qn : w9.heap[w8.heap.size]? = some (.cells #[.int .i64 b.1, .slice gA1 gn1 gc1, .slice gA2 gn2 gc2, .slice gA3 gn3 gc3, .slice gA4 gn4 gc4, .slice gA5 gn5 gc5, .slice gA6 gn6 gc6, .slice gA7 gn7 gc7, .slice gA8 gn8 gc8] 30 (0, 0)) := by rw [hw9]; exact heap_alloc_new w8 _
        have s_w9 : w8.heap.size < w9.heap.size := lt_of_get qn
        have hx : Wrote zF w8 w9 := by rw [hw9]; exact Wrote.alloc _ _
        have B7 := Lib.hid (IB.mk qn (HB.out.mono (fun k hk => hx.block k hk.2 id) hx.size))
        have hw : Wrote zF w8 w9 := hx
        replace I1 := IA.step I1 hw (fun _ h => False.elim h)
        replace B4 := IB.step B4 hw (fun _ h => False.elim h)
        replace C6 := IC.step C6 hw (fun _ h => False.elim h)
        have z_w9 : w8.heap.size ≤ w9.heap.size := hw.size
        clear hw
        clear qn HB hx
        refine Lib.hid ?_
        as_aux_lemma =>
          go_wp2_with (go_at_call 8; rw [← hw9]; refine (ceq8 w9 b _ _ _ _ _ _ _ _ _ _ _ _ _ _ _ _ _ _ _ _ B7.out.book B4.out.book HS.out.eqB).mono ?_; rintro e w10 ⟨rfl, hb⟩; refine Hid.out ?_)
          clear hw9
          clear f00 f01 f02 f03 f04 f05 f06 f07 f08
          have hw : Wrote zF w9 w10 := Wrote.of hb
          replace I1 := IA.step I1 hw (fun _ h => False.elim h)
          replace B4 := IB.step B4 hw (fun _ h => False.elim h)
          replace C6 := IC.step C6 hw (fun _ h => False.elim h)
          replace B7 := IB.step B7 hw (fun _ h => False.elim h)
          have z_w10 : w9.heap.size ≤ w10.heap.size := hw.size
          clear hw
          clear hb
          obtain ⟨f00, f01⟩ := cells2 C6.out.row
          obtain ⟨f10, f11⟩ := cells2 I1.out.row
          refine Lib.hid ?_
          as_aux_lemma =>
            go_upto_region 10 with fail
            go_cut [45] from 14 (fun s45 wx => s45 = .bool false ∧ Hid (Wrote zF w10 wx))
            case first =>
              as_aux_lemma =>
                have J1 := IA.step I1 (Wrote.drew w10) (fun _ h => False.elim h)
                have J6 := IC.step C6 (Wrote.drew w10) (fun _ h => False.elim h)
                have HD : Hid (Wrote zF w10 w10.drew) := Lib.hid (Wrote.drew w10)
                go_region_with (first | (go_at_call 6; refine (tw6 w10.drew y [.slice A1 l1 k1, .slice A2 l2 k2] (repOld RC.out J1.out.bel) HS.out).mono ?_; rintro e w11 ⟨hb, uW, uG, rfl, hC⟩; have JC := Lib.hid (hC.toRep (Nat.le_refl _)); have J6b := IC.step J6 (Wrote.of hb) (fun _ h => False.elim h); have HW := Lib.hid (HD.out.trans (Wrote.of hb)); obtain ⟨f00, f01⟩ := cells2 J6b.out.row; clear hb hC) | (go_at_call 9; refine (ceq9 w11 y _ _ _ _ (J6b.out.copy.toRep J6b.out.lt).1 (J6b.out.copy.toRep J6b.out.lt).2 JC.out.1 JC.out.2 HS.out.eqW).mono ?_; rintro e w12 ⟨rfl, hb⟩; have HV := Lib.hid (HW.out.trans (Wrote.of hb)); clear hb))
                all_goals (go_wp2_with fail; go_meet; exact ⟨rfl, HV⟩)
            case rest =>
              as_aux_lemma =>
                obtain ⟨rfl, HV⟩ := hcut
                clear f00 f01 f10 f11
                have hw : Wrote zF w10 wc := HV.out
                replace I1 := IA.step I1 hw (fun _ h => False.elim h)
                replace B4 := IB.step B4 hw (fun _ h => False.elim h)
                replace C6 := IC.step C6 hw (fun _ h => False.elim h)
                replace B7 := IB.step B7 hw (fun _ h => False.elim h)
                have z_wc : w10.heap.size ≤ wc.heap.size := hw.size
                clear hw
                clear HV
                obtain ⟨f00, f01⟩ := cells2 C6.out.row
                refine Lib.hid ?_
                go_wp2_with (go_at_call 10; refine (mw10 _ _ wc y _ _ C6.out.copy C6.out.lt HS.out).mono ?_; rintro e w13 ⟨⟨q, rfl, hq⟩, hW⟩; refine Hid.out ?_)
                clear f00 f01
                clear C6
                have hw : Wrote (Zn w5.heap.size w6.heap.size) wc w13 := hW
                replace I1 := IA.step I1 hw (by intro k hk; have h1 := hk.1; have h2 := hk.2; (try unfold Zn); omega)
                replace B4 := IB.step B4 hw (by intro k hk; have h1 := hk.1; have h2 := hk.2; (try unfold Zn); omega)
                replace B7 := IB.step B7 hw (by intro k hk; have h1 := hk.1; have h2 := hk.2; (try unfold Zn); omega)
                have z_w13 : wc.heap.size ≤ w13.heap.size := hw.size
                clear hw
                clear hW
                obtain ⟨f00, f01, f02, f03, f04, f05, f06, f07, f08⟩ := cells9 B7.out.row
                obtain ⟨f10, f11, f12, f13, f14, f15, f16, f17, f18⟩ := cells9 B4.out.row
                refine Lib.hid ?_
                as_aux_lemma =>
                  go_wp2_with (go_at_call 8; refine (ceq8 w13 b _ _ _ _ _ _ _ _ _ _ _ _ _ _ _ _ _ _ _ _ B7.out.book B4.out.book HS.out.eqB).mono ?_; rintro e w14 ⟨rfl, hb⟩; refine Hid.out ?_)
                  clear f00 f01 f02 f03 f04 f05 f06 f07 f08 f10 f11 f12 f13 f14 f15 f16 f17 f18
                  have hw : Wrote zF w13 w14 := Wrote.of hb
                  replace I1 := IA.step I1 hw (fun _ h => False.elim h)
                  replace B4 := IB.step B4 hw (fun _ h => False.elim h)
                  replace B7 := IB.step B7 hw (fun _ h => False.elim h)
                  have z_w14 : w13.heap.size ≤ w14.heap.size := hw.size
                  clear hw
                  clear hb
                  obtain ⟨f00, f01, f02, f03, f04, f05, f06, f07, f08⟩ := cells9 B7.out.row
                  refine Lib.hid ?_
                  as_aux_lemma =>
                    go_wp2_with (go_at_call 11; refine (cmb11 w14 b _ _ _ _ _ _ _ _ _ _ B7.out.book HS.out).mono ?_; rintro e w15 ⟨rfl, hW, hM⟩; refine Hid.out ?_)
                    clear f00 f01 f02 f03 f04 f05 f06 f07 f08
                    have M7 := Lib.hid (IB.mk ((hW.block _ (lt_of_get B7.out.row) (fun h => by have := h.2; omega)).trans B7.out.row) hM)
                    clear B7
                    have hw : Wrote (Zn w7.heap.size w8.heap.size) w14 w15 := hW
                    replace I1 := IA.step I1 hw (by intro k hk; have h1 := hk.1; have h2 := hk.2; (try unfold Zn); omega)
                    replace B4 := IB.step B4 hw (by intro k hk; have h1 := hk.1; have h2 := hk.2; (try unfold Zn); omega)
                    have z_w15 : w14.heap.size ≤ w15.heap.size := hw.size
                    clear hw
                    clear hW hM
                    obtain ⟨f00, f01, f02, f03, f04, f05, f06, f07, f08⟩ := cells9 M7.out.row
                    have hp := HS.out.pos
                    refine Lib.hid ?_
                    as_aux_lemma =>
                      go_wp2_with (go_at_call 12; refine (cheld12 w15 b _ _ _ _ _ _ _ _ _ _ M7.out.book HS.out.held).mono ?_; rintro e w16 ⟨rfl, hb⟩; refine Hid.out ?_)
                      clear f00 f01 f02 f03 f04 f05 f06 f07 f08
                      have hw : Wrote zF w15 w16 := Wrote.of hb
                      replace I1 := IA.step I1 hw (fun _ h => False.elim h)
                      replace B4 := IB.step B4 hw (fun _ h => False.elim h)
                      replace M7 := IB.step M7 hw (fun _ h => False.elim h)
                      have z_w16 : w15.heap.size ≤ w16.heap.size := hw.size
                      clear hw
                      clear hb
                      obtain ⟨f00, f01⟩ := cells2 I1.out.row
                      refine Lib.hid ?_
                      as_aux_lemma =>
                        go_wp2_with (go_at_call 6; refine (tw6 w16 y [.slice A1 l1 k1, .slice A2 l2 k2] (repOld RC.out I1.out.bel) HS.out).mono ?_; rintro e w17 ⟨hb, pW, pG, rfl, hC⟩; refine Hid.out ?_)
                        clear f00 f01
                        have HC := Lib.hid (hC.toRep (Nat.le_refl _))
                        have hw : Wrote zF w16 w17 := Wrote.of hb
                        replace I1 := IA.step I1 hw (fun _ h => False.elim h)
                        replace B4 := IB.step B4 hw (fun _ h => False.elim h)
                        replace M7 := IB.step M7 hw (fun _ h => False.elim h)
                        have z_w17 : w16.heap.size ≤ w17.heap.size := hw.size
                        clear hw
                        clear hb hC
                        refine Lib.hid ?_
                        go_wp2_with (go_at_call 7; refine (wb7 w17 y pW pG HC.out.1 HC.out.2 HS.out).mono ?_; rintro e w18 ⟨hb, hA1, hn1, hc1, hA2, hn2, hc2, hA3, hn3, hc3, hA4, hn4, hc4, hA5, hn5, hc5, hA6, hn6, hc6, hA7, hn7, hc7, hA8, hn8, hc8, rfl, hB⟩; refine Hid.out ?_)
                        have HB := Lib.hid hB
                        have hw : Wrote zF w17 w18 := Wrote.of hb
                        replace I1 := IA.step I1 hw (fun _ h => False.elim h)
                        replace B4 := IB.step B4 hw (fun _ h => False.elim h)
                        replace M7 := IB.step M7 hw (fun _ h => False.elim h)
                        have z_w18 : w17.heap.size ≤ w18.heap.size := hw.size
                        clear hw
                        clear hb hB HC
                        obtain ⟨e00, e01, e02, e03, e04, e05, e06, e07, e08⟩ := cells9 B4.out.row
                        have f00 := alloc_cell e00
                        have f01 := alloc_cell e01
                        have f02 := alloc_cell e02
                        have f03 := alloc_cell e03
                        have f04 := alloc_cell e04
                        have f05 := alloc_cell e05
                        have f06 := alloc_cell e06
                        have f07 := alloc_cell e07
                        have f08 := alloc_cell e08
                        clear e00 e01 e02 e03 e04 e05 e06 e07 e08
                        obtain ⟨w19, hw19⟩ : ∃ w19, w19 = w18.alloc (.cells #[.int .i64 b.1, .slice hA1 hn1 hc1, .slice hA2 hn2 hc2, .slice hA3 hn3 hc3, .slice hA4 hn4 hc4, .slice hA5 hn5 hc5, .slice hA6 hn6 hc6, .slice hA7 hn7 hc7, .slice hA8 hn8 hc8] 30) := ⟨_, rfl⟩
                        have qn : w19.heap[w18.heap.size]? = some (.cells #[.int .i64 b.1, .slice hA1 hn1 hc1, .slice hA2 hn2 hc2, .slice hA3 hn3 hc3, .slice hA4 hn4 hc4, .slice hA5 hn5 hc5, .slice hA6 hn6 hc6, .slice hA7 hn7 hc7, .slice hA8 hn8 hc8] 30 (0, 0)) := by rw [hw19]; exact heap_alloc_new w18 _
                        have s_w19 : w18.heap.size < w19.heap.size := lt_of_get qn
                        have hx : Wrote zF w18 w19 := by rw [hw19]; exact Wrote.alloc _ _
                        have B12 := Lib.hid (IB.mk qn (HB.out.mono (fun k hk => hx.block k hk.2 id) hx.size))
                        have hw : Wrote zF w18 w19 := hx
                        replace I1 := IA.step I1 hw (fun _ h => False.elim h)
                        replace B4 := IB.step B4 hw (fun _ h => False.elim h)
                        replace M7 := IB.step M7 hw (fun _ h => False.elim h)
                        have z_w19 : w18.heap.size ≤ w19.heap.size := hw.size
                        clear hw
                        clear qn HB hx
                        refine Lib.hid ?_
                        as_aux_lemma =>
                          go_wp2_with (go_at_call 8; rw [← hw19]; refine (ceq8 w19 b _ _ _ _ _ _ _ _ _ _ _ _ _ _ _ _ _ _ _ _ B12.out.book B4.out.book HS.out.eqB).mono ?_; rintro e w20 ⟨rfl, hb⟩; refine Hid.out ?_)
                          clear hw19
                          clear f00 f01 f02 f03 f04 f05 f06 f07 f08
                          have hw : Wrote zF w19 w20 := Wrote.of hb
                          replace I1 := IA.step I1 hw (fun _ h => False.elim h)
                          replace B4 := IB.step B4 hw (fun _ h => False.elim h)
                          replace M7 := IB.step M7 hw (fun _ h => False.elim h)
                          replace B12 := IB.step B12 hw (fun _ h => False.elim h)
                          have z_w20 : w19.heap.size ≤ w20.heap.size := hw.size
                          clear hw
                          clear hb
                          obtain ⟨f00, f01, f02, f03, f04, f05, f06, f07, f08⟩ := cells9 M7.out.row
                          refine Lib.hid ?_
                          as_aux_lemma =>
                            go_wp2_with (go_at_call 12; refine (cheld12 w20 b _ _ _ _ _ _ _ _ _ _ M7.out.book HS.out.held).mono ?_; rintro e w21 ⟨rfl, hb⟩; refine Hid.out ?_)
                            clear f00 f01 f02 f03 f04 f05 f06 f07 f08
                            have hw : Wrote zF w20 w21 := Wrote.of hb
                            replace I1 := IA.step I1 hw (fun _ h => False.elim h)
                            replace B4 := IB.step B4 hw (fun _ h => False.elim h)
                            replace M7 := IB.step M7 hw (fun _ h => False.elim h)
                            replace B12 := IB.step B12 hw (fun _ h => False.elim h)
                            have z_w21 : w20.heap.size ≤ w21.heap.size := hw.size
                            clear hw
                            clear hb
                            refine Lib.hid ?_
                            go_wp2
                            go_ret
                            exact ⟨rfl, I1.out.bel⟩
end Go.Proofs.YtdkinmgpclbedaaGreat.Pv
