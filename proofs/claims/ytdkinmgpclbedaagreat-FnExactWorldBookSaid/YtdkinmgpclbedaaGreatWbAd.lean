/- The law FnExactWorldBook, walked. -/
import Derived.Test.YtdkinmgpclbedaaGreatWbAc
import Derived.Test.YtdkinmgpclbedaaGreatWbAb
namespace Go.Proofs.YtdkinmgpclbedaaGreat.Pv
open Go Go.Pv Go.Proofs Go.RowKit
set_option linter.unusedVariables false
set_option linter.unusedSimpArgs false
set_option maxRecDepth 100000
theorem tu17 (w : World) (l : List Int) (v : Value) (hr : RepC w (· < w.heap.size) zF zφ (.sl .frz (.int .u64)) l [v]) (hs : laws_toUint64S N0 l = some ((), l)) :
    Calls Tryz.prog 17 #[v] w fun e w' => Below w.heap.size w w' ∧ ∃ A c, e = .returned (.slice A l.length c) ∧ RepC w' (Zn w.heap.size w'.heap.size) zF zφ (.sl .frz (.int .u64)) l [.slice A l.length c] ∧ RowV (Zn w.heap.size w'.heap.size) w' (.slice A l.length c) l.length := by
  have hS : Go.Pv.Start w (· < w.heap.size) zF zF zφ (E_laws_toUint64S N0).par l (cellsOf (E_laws_toUint64S N0).sto ()) [v] :=
    ⟨⟨_, rfl, frzBor hr⟩, by simp [E_laws_toUint64S, cellsOf], by simp [E_laws_toUint64S, cellsOf], by simp [E_laws_toUint64S, cellsOf], fun _ h => h, fun _ h => h.elim, fun _ => rfl⟩
  refine ((ok_laws_toUint64S N0).run l () _ hs _ w _ _ _ _ hS).mono fun r w' hr => ?_
  cases r with
  | returned v =>
    obtain ⟨fz', φ', F⟩ := hr
    have hrep : [v] = [φ' 32] := F.rep
    obtain rfl : v = φ' 32 := by simpa using hrep
    have m1 : (32, Cell.arr (.int .u64) l) ∈ cellsOf (E_laws_toUint64S N0).osto l := List.mem_cons_self
    obtain ⟨h1, k1⟩ := own_row (F.cell _ m1) (fun b hb => (F.own _ m1 b hb).2.2.resolve_left id)
    obtain ⟨A, c, e, _⟩ := id k1
    dsimp only at h1 k1 e
    rw [e] at h1 k1 ⊢
    exact ⟨⟨F.os, F.tape, F.output, F.size, fun k hk => F.frame k hk (fun h => h)⟩, _, _, rfl, h1, k1⟩
  | panicked ch => exact hr.elim
  | outgrown => exact hr.elim
/-- A copy of a world: what it holds, and what may be written. -/
structure WCopy (n0 n1 : Nat) (w : World) (y : Wld) (vW vG : Value) : Prop where
  r1 : RepC w (Zn n0 n1) zF zφ (.sl .frz (.int .u64)) y.1 [vW]
  r2 : RepC w (Zn n0 n1) zF zφ (.sl .frz tyG) y.2 [vG]
  k : ∃ G, n0 ≤ G ∧ G < n1 ∧ vG = .slice (some ⟨G, 0, none⟩) y.2.length y.2.length ∧ RowV (Zn n0 G) w vW y.1.length ∧ RowW w G 0 (26 * y.2.length) ∧
    (∀ i, i < y.2.length → ∃ v, w.cell? ⟨G, 0 + 26 * i + 21, none⟩ = some v ∧ RowV (Zn (G + 1) n1) w v (gSnap (y.2.getD i default)).length) ∧
    (∀ i, i < y.2.length → ∃ v, w.cell? ⟨G, 0 + 26 * i + 22, none⟩ = some v ∧ RowV (Zn (G + 1) n1) w v (gPlan (y.2.getD i default)).length)
theorem repOld {w w' : World} {t : Go.Pv.Ty} {x : t.D} {c : List Value} (h : RepC w (· < w.heap.size) zF zφ t x c) (hb : Below w.heap.size w w') : RepC w' (· < w'.heap.size) zF zφ t x c :=
  RepC.mono (fun b h => hb.block b (h.resolve_right id)) (fun b h => Nat.lt_of_lt_of_le h hb.size) (fun _ h => h.elim) (fun _ _ => rfl) h
theorem wcopy_mk {n0 s1 : Nat} {w2 w2' w3 w' : World} {y : Wld} {vW : Value} (hs : n0 ≤ s1) (hs2 : s1 ≤ w2.heap.size) (h1 : RepC w2 (Zn s1 w2.heap.size) zF zφ (.sl .frz (.int .u64)) y.1 [vW]) (v1 : RowV (Zn s1 w2.heap.size) w2 vW y.1.length)
    (hz2 : w2'.heap.size = w2.heap.size) (hk2 : ∀ k, s1 ≤ k → w2'.heap[k]? = w2.heap[k]?) (h3 : GsAt w2' w3 y.2 y.2.length) (hz3 : w'.heap.size = w3.heap.size) (hk3 : ∀ k, s1 ≤ k → w'.heap[k]? = w3.heap[k]?) :
    WCopy n0 w'.heap.size w' y vW (.slice (some ⟨w2'.heap.size, 0, none⟩) y.2.length y.2.length) := by
  obtain ⟨hb, cur, hc, hcs, hrow⟩ := h3
  have hle := hb.size
  have hlt : w2'.heap.size < w3.heap.size := (Array.getElem?_eq_some_iff.1 hc).1
  have hc' : w'.heap[w2'.heap.size]? = some (.cells cur 68 (0, 0)) := by rw [hk3 _ (by omega)]; exact hc
  have same : ∀ b, Zn s1 w2.heap.size b → w'.heap[b]? = w2.heap[b]? := fun b hb2 => by
    rw [hk3 b hb2.1, hb.block b (by have := hb2.2; omega)]
    exact hk2 b hb2.1
  have row : ∀ i, i < y.2.length → ∃ ds, GRow w' (Zn (w2'.heap.size + 1) w'.heap.size) (y.2.getD i default) ds ∧ ∀ q v, ds[q]? = some v → cur[26 * i + q]? = some v := fun i hi => by
    obtain ⟨ds, h5, h6⟩ := hrow i y.2[i] hi (List.getElem?_eq_getElem hi)
    refine ⟨ds, ?_, h6⟩
    rw [show y.2.getD i default = y.2[i] by simp [List.getD, hi], hz3]
    exact h5.mono (fun _ h => h) (fun b h => hk3 b (by have := h.1; omega))
  refine ⟨?_, ?_, w2'.heap.size, by omega, by omega, rfl, ?_, ?_, fun i hi => ?_, fun i hi => ?_⟩
  · exact RepC.mono (fun b h => same b (h.resolve_right id)) (fun b h => ⟨by have := h.1; omega, by have := h.2; omega⟩) (fun _ h => h.elim) (fun _ _ => rfl) h1
  · simp only [RepC]
    refine ⟨_, _, rfl, Nat.le_refl _, .inr ⟨w2'.heap.size, 0, rfl, ⟨by omega, by omega⟩, fun i x hx => ?_⟩⟩
    have hi : i < y.2.length := (List.getElem?_eq_some_iff.1 hx).1
    obtain ⟨ds, h5, h6⟩ := row i hi
    rw [show y.2.getD i default = x by simp [List.getD, hx]] at h5
    refine ⟨ds, ?_, fun q v hq => ?_⟩
    · have := RepC.mono (φ' := noTok) (bz' := zF) (fun b h => rfl) (fun b (h : Zn (w2'.heap.size + 1) w'.heap.size b) => (show Zn n0 w'.heap.size b from ⟨by have := h.1; omega, h.2⟩)) (fun _ h => h.elim) (fun k hk => by cases hk) h5.rep
      simpa only [RepC] using this
    · rw [Lib.cell_of_heap hc', Nat.zero_add]
      have e : tyG.sz = 26 := rfl
      rw [e, Nat.mul_comm i 26]
      exact h6 q v hq
  · exact v1.mono (fun b h => ⟨by have := h.1; omega, by have := h.2; omega⟩) same
  · intro j hj
    rw [Lib.cell_of_heap hc']
    exact ⟨⟨cur[0 + j]'(by omega), Array.getElem?_eq_getElem (by omega)⟩, Lib.frozen_of_heap hc' _⟩
  · obtain ⟨ds, h5, h6⟩ := row i hi
    obtain ⟨v, h7, h8⟩ := h5.snap
    refine ⟨v, ?_, h8⟩
    rw [Lib.cell_of_heap hc', Nat.zero_add]
    exact h6 21 v h7
  · obtain ⟨ds, h5, h6⟩ := row i hi
    obtain ⟨v, h7, h8⟩ := h5.plan
    refine ⟨v, ?_, h8⟩
    rw [Lib.cell_of_heap hc', Nat.zero_add]
    exact h6 22 v h7
theorem tw6 (w : World) (y : Wld) (cs : List Value) (hr : RepC w (· < w.heap.size) zF zφ (.pair (.sl .frz (.int .u64)) (.sl .frz tyG)) y cs) {b : Bk} {ok : Bool} (S : WbSpec y b ok) :
    Calls Tryz.prog 6 #[.agg cs.toArray] w fun e w' => Below w.heap.size w w' ∧ ∃ vW vG, e = .returned (.agg #[vW, vG]) ∧ WCopy w.heap.size w'.heap.size w' y vW vG := by
  simp only [RepC] at hr
  obtain ⟨c1, c2, rfl, ⟨A1, k1, rfl, p1, o1⟩, ⟨A2, k2, rfl, p2, o2⟩⟩ := hr
  have HS := Lib.hid S
  have H1 : Hid (RepC w (· < w.heap.size) zF zφ (.sl .frz (.int .u64)) y.1 [.slice A1 y.1.length k1]) := Lib.hid (by simp only [RepC]; exact ⟨A1, k1, rfl, p1, o1⟩)
  have H2 : Hid (RepC w (· < w.heap.size) zF zφ (.sl .frz tyG) y.2 [.slice A2 y.2.length k2]) := Lib.hid (by simp only [RepC]; exact ⟨A2, k2, rfl, p2, o2⟩)
  have hn2 := S.s2
  clear S o1 o2 p1 p2
  obtain ⟨W1, hW1⟩ : ∃ W1, W1 = ((w.alloc (.cells #[.slice A1 y.1.length k1, .slice A2 y.2.length k2] 25)).alloc (.cells #[.slice none 0 0, .slice none 0 0] 35)).alloc (.cells #[.slice none 0 0, .slice none 0 0] 35) := ⟨_, rfl⟩
  have hz1 : W1.heap.size = w.heap.size + 3 := by rw [hW1]; simp
  have b0 : W1.heap[w.heap.size]? = some (.cells #[.slice A1 y.1.length k1, .slice A2 y.2.length k2] 25 (0, 0)) := by
    rw [hW1, Lib.alloc_old _ _ _ (by simp <;> omega), Lib.alloc_old _ _ _ (by simp <;> omega)]
    exact heap_alloc_new w _
  have b1 : W1.heap[w.heap.size + 1]? = some (.cells #[.slice none 0 0, .slice none 0 0] 35 (0, 0)) := by
    rw [hW1, Lib.alloc_old _ _ _ (by simp <;> omega)]
    have := heap_alloc_new (w.alloc (.cells #[.slice A1 y.1.length k1, .slice A2 y.2.length k2] 25)) (.cells #[.slice none 0 0, .slice none 0 0] 35)
    simpa using this
  have b2 : W1.heap[w.heap.size + 1 + 1]? = some (.cells #[.slice none 0 0, .slice none 0 0] 35 (0, 0)) := by
    rw [hW1]
    have := heap_alloc_new ((w.alloc (.cells #[.slice A1 y.1.length k1, .slice A2 y.2.length k2] 25)).alloc (.cells #[.slice none 0 0, .slice none 0 0] 35)) (.cells #[.slice none 0 0, .slice none 0 0] 35)
    simpa using this
  have hb1 : Below w.heap.size w W1 := by
    rw [hW1]
    exact (((Below.refl _ w).alloc (Nat.le_refl _) _).alloc (by simp <;> omega) _).alloc (by simp <;> omega) _
  have HB1 := Lib.hid hb1
  go_enter Tryz.func6, Tryz.ntmps6
  go_wp2_with (go_at_call 17; rw [← hW1]; refine (tu17 W1 y.1 _ (repOld H1.out HB1.out) HS.out.words).mono ?_; rintro e w2 ⟨hb, A, c, rfl, hr, hv⟩; refine Hid.out ?_)
  clear hW1
  have d1 : w2.cell? ⟨w.heap.size, 1, none⟩ = some (.slice A2 y.2.length k2) := by rw [Lib.cell_of_heap ((hb.block _ (by omega)).trans b0)]; rfl
  have d2 : w2.cell? ⟨w.heap.size + 1 + 1, 0, none⟩ = some (.slice none 0 0) := by rw [Lib.cell_of_heap ((hb.block _ (by omega)).trans b2)]; rfl
  have d3 : w2.frozen? ⟨w.heap.size + 1 + 1, 0, none⟩ = false := Lib.frozen_of_heap ((hb.block _ (by omega)).trans b2) _
  have hz2 := hb.size
  have B1 := Lib.hid ((hb.block _ (by omega)).trans b1)
  have B2 := Lib.hid ((hb.block _ (by omega)).trans b2)
  have HB2 := Lib.hid hb
  have HR := Lib.hid hr
  have HV := Lib.hid hv
  clear hb hr hv b0 b1 b2 hb1
  refine Lib.hid ?_
  obtain ⟨W2, hW2⟩ : ∃ W2, W2 = w2.setCell ⟨w.heap.size + 1 + 1, 0, none⟩ (.slice A y.1.length c) := ⟨_, rfl⟩
  have e2 : W2 = w2.setRow (w.heap.size + 1 + 1) #[.slice A y.1.length c, .slice none 0 0] := by rw [hW2, setCell_eq_setRow w2 _ 0 _ 35 (0, 0) _ B2.out]; rfl
  have hzz : W2.heap.size = w2.heap.size := by rw [e2, setRow_size]
  have hot : ∀ k, k ≠ w.heap.size + 1 + 1 → W2.heap[k]? = w2.heap[k]? := fun k hk => by rw [e2]; exact setRow_other _ _ _ _ hk
  have B2' : Hid (W2.heap[w.heap.size + 1 + 1]? = some (.cells #[.slice A y.1.length c, .slice none 0 0] 35 (0, 0))) := Lib.hid (by rw [e2]; exact setRow_heap _ _ _ _ _ _ B2.out)
  have hbW : Below w.heap.size w W2 := by
    have h1 := HB1.out
    have h2 := HB2.out
    refine ⟨by rw [e2]; exact h2.os.trans h1.os, by rw [e2]; exact h2.tape.trans h1.tape, by rw [e2]; exact h2.output.trans h1.output, by omega, fun k hk => by rw [hot k (by omega), h2.block k (by omega)]; exact h1.block k hk⟩
  have HBW := Lib.hid hbW
  have HOT := Lib.hid hot
  have HG := HS.out.guest
  have HGG := Lib.hid HG
  clear HG hot hbW e2
  go_wp2_with (go_at_call 18; rw [← hW2]; refine (tgs18 W2 y.2 A2 k2 (frzBor (repOld H2.out HBW.out)) hn2 HGG.out).mono ?_; rintro e w3 ⟨rfl, h3⟩; refine Hid.out ?_)
  clear hW2 d1 d2 d3
  have hle := h3.1.size
  have q1 := (h3.1.block (w.heap.size + 1 + 1) (by omega)).trans B2'.out
  have q2 := (h3.1.block (w.heap.size + 1) (by omega)).trans ((HOT.out _ (by omega)).trans B1.out)
  have c30 : w3.cell? ⟨w.heap.size + 1 + 1, 0, none⟩ = some (.slice A y.1.length c) := by rw [Lib.cell_of_heap q1]; rfl
  have c31 : w3.cell? ⟨w.heap.size + 1 + 1, 1, none⟩ = some (.slice none 0 0) := by rw [Lib.cell_of_heap q1]; rfl
  have f31 : w3.frozen? ⟨w.heap.size + 1 + 1, 1, none⟩ = false := Lib.frozen_of_heap q1 _
  have c20 : w3.cell? ⟨w.heap.size + 1, 0, none⟩ = some (.slice none 0 0) := by rw [Lib.cell_of_heap q2]; rfl
  have c21 : w3.cell? ⟨w.heap.size + 1, 1, none⟩ = some (.slice none 0 0) := by rw [Lib.cell_of_heap q2]; rfl
  have f20 : w3.frozen? ⟨w.heap.size + 1, 0, none⟩ = false := Lib.frozen_of_heap q2 _
  have f21 : w3.frozen? ⟨w.heap.size + 1, 1, none⟩ = false := Lib.frozen_of_heap q2 _
  have H3 := Lib.hid h3
  have Q1 := Lib.hid q1
  have Q2 := Lib.hid q2
  clear h3 q1 q2
  refine Lib.hid ?_
  go_wp2
  obtain ⟨vG, hvG⟩ : ∃ vG, vG = Value.slice (some ⟨w2.heap.size, 0, none⟩) y.2.length y.2.length := ⟨_, rfl⟩
  rw [← hvG]
  obtain ⟨w4, hw4⟩ : ∃ w4, w4 = w3.setCell ⟨w.heap.size + 1 + 1, 1, none⟩ vG := ⟨_, rfl⟩
  have k4 : w4 = w3.setRow (w.heap.size + 1 + 1) #[.slice A y.1.length c, vG] := by rw [hw4, setCell_eq_setRow w3 _ 1 _ 35 (0, 0) _ Q1.out]; rfl
  have g4 : w4.heap[w.heap.size + 1]? = some (.cells #[.slice none 0 0, .slice none 0 0] 35 (0, 0)) := by rw [k4, setRow_other _ _ _ _ (by omega)]; exact Q2.out
  obtain ⟨w5, hw5⟩ : ∃ w5, w5 = w4.setCell ⟨w.heap.size + 1, 0, none⟩ (.slice A y.1.length c) := ⟨_, rfl⟩
  have k5 : w5 = w4.setRow (w.heap.size + 1) #[.slice A y.1.length c, .slice none 0 0] := by rw [hw5, setCell_eq_setRow w4 _ 0 _ 35 (0, 0) _ g4]; rfl
  have g5 : w5.heap[w.heap.size + 1]? = some (.cells #[.slice A y.1.length c, .slice none 0 0] 35 (0, 0)) := by rw [k5]; exact setRow_heap _ _ _ _ _ _ g4
  obtain ⟨w6, hw6⟩ : ∃ w6, w6 = w5.setCell ⟨w.heap.size + 1, 1, none⟩ vG := ⟨_, rfl⟩
  have k6 : w6 = w5.setRow (w.heap.size + 1) #[.slice A y.1.length c, vG] := by rw [hw6, setCell_eq_setRow w5 _ 1 _ 35 (0, 0) _ g5]; rfl
  have g6 : w6.heap[w.heap.size + 1]? = some (.cells #[.slice A y.1.length c, vG] 35 (0, 0)) := by rw [k6]; exact setRow_heap _ _ _ _ _ _ g5
  rw [← hw4, ← hw5, ← hw6]
  have z6 : w6.heap.size = w3.heap.size := by rw [k6, setRow_size, k5, setRow_size, k4, setRow_size]
  have o6 : ∀ k, k ≠ w.heap.size + 1 → k ≠ w.heap.size + 1 + 1 → w6.heap[k]? = w3.heap[k]? := fun k h1 h2 => by rw [k6, setRow_other _ _ _ _ h1, k5, setRow_other _ _ _ _ h1, k4, setRow_other _ _ _ _ h2]
  have hb3 := H3.out.1
  have hbw := HBW.out
  try simp only [Exit.inBlock, Exit.then]
  refine bodyPost_ret_by (v := .agg #[.slice A y.1.length c, vG]) ?res rfl ?post
  case res => exact results_cell_row rfl _ _ _ _ _ _ _ rfl g6 Tryz.underlying35 rfl (by kernel_rfl)
  case post =>
    refine ⟨⟨by rw [k6, k5, k4]; exact hb3.os.trans hbw.os, by rw [k6, k5, k4]; exact hb3.tape.trans hbw.tape, by rw [k6, k5, k4]; exact hb3.output.trans hbw.output, by omega, fun k hk => by rw [o6 k (by omega) (by omega), hb3.block k (by have := hbw.size; omega)]; exact hbw.block k hk⟩, _, _, rfl, ?_⟩
    rw [hvG, ← hzz]
    exact wcopy_mk (s1 := W1.heap.size) (by omega) hz2 HR.out HV.out hzz (fun k hk => HOT.out k (by omega)) H3.out z6 (fun k hk => o6 k (by omega) (by omega))
theorem WCopy.mono {n0 n1 : Nat} {w w' : World} {y : Wld} {vW vG : Value} (h : WCopy n0 n1 w y vW vG) (hk : ∀ k, Zn n0 n1 k → w'.heap[k]? = w.heap[k]?) : WCopy n0 n1 w' y vW vG := by
  obtain ⟨h1, h2, G, hG0, hG1, rfl, h3, h4, h5, h6⟩ := h
  have hg := hk G ⟨hG0, hG1⟩
  refine ⟨RepC.mono (fun b h => hk b (h.resolve_right id)) (fun b h => h) (fun _ h => h.elim) (fun _ _ => rfl) h1, RepC.mono (fun b h => hk b (h.resolve_right id)) (fun b h => h) (fun _ h => h.elim) (fun _ _ => rfl) h2, G, hG0, hG1, rfl, h3.mono (fun _ h => h) (fun b h => hk b ⟨h.1, by have := h.2; omega⟩), ?_, fun i hi => ?_, fun i hi => ?_⟩
  · intro j hj
    rw [World.cell?_of_block hg, frozen_of_block hg]
    exact h4 j hj
  · obtain ⟨v, h7, h8⟩ := h5 i hi
    exact ⟨v, by rw [World.cell?_of_block hg]; exact h7, h8.mono (fun _ h => h) (fun b h => hk b ⟨by have := h.1; omega, h.2⟩)⟩
  · obtain ⟨v, h7, h8⟩ := h6 i hi
    exact ⟨v, by rw [World.cell?_of_block hg]; exact h7, h8.mono (fun _ h => h) (fun b h => hk b ⟨by have := h.1; omega, h.2⟩)⟩
/-- Nothing but a set of old blocks is written. -/
structure Wrote (Z : Nat → Prop) (w w' : World) : Prop where
  os : w'.os = w.os
  tape : w'.tape = w.tape
  output : w'.output = w.output
  size : w.heap.size ≤ w'.heap.size
  block : ∀ k, k < w.heap.size → ¬ Z k → w'.heap[k]? = w.heap[k]?
theorem mw10 (n0 n1 : Nat) (w : World) (y : Wld) (vW vG : Value) (hC : WCopy n0 n1 w y vW vG) (hn : n1 ≤ w.heap.size) {b : Bk} {ok : Bool} (S : WbSpec y b ok) :
    Calls Tryz.prog 10 #[.agg #[vW, vG], .int .i64 1] w fun e w' => (∃ q : Int, e = .returned (.int .i64 q) ∧ 0 ≤ q) ∧ Wrote (Zn n0 n1) w w' := by
  have hC1 : WCopy n0 n1 (w.alloc (.cells #[vW, vG] 35)) y vW vG := hC.mono (fun k h => Below.heap_alloc w _ k (by have := h.2; omega))
  obtain ⟨_, _, G, hG0, hG1, rfl, h3, h4, h5, h6⟩ := hC1
  obtain ⟨A, c, rfl, _⟩ := id h3
  have H3 := Lib.hid h3
  have H4 := Lib.hid h4
  have H5 := Lib.hid h5
  have H6 := Lib.hid h6
  have HL := Lib.hid S.s3
  have s1 := S.s1
  have s2 := S.s2
  clear h3 h4 h5 h6 hC S
  obtain ⟨W1, hW1⟩ : ∃ W1, W1 = w.alloc (.cells #[.slice A y.1.length c, .slice (some ⟨G, 0, none⟩) y.2.length y.2.length] 35) := ⟨_, rfl⟩
  have q1 : W1.heap[w.heap.size]? = some (.cells #[.slice A y.1.length c, .slice (some ⟨G, 0, none⟩) y.2.length y.2.length] 35 (0, 0)) := by rw [hW1]; exact heap_alloc_new w _
  have z1 : W1.heap.size = w.heap.size + 1 := by rw [hW1]; simp
  have HB : Hid (Below w.heap.size w W1) := Lib.hid (by rw [hW1]; exact (Below.refl _ w).alloc (Nat.le_refl _) _)
  rw [← hW1] at H3 H4 H5 H6
  have Q1 := Lib.hid q1
  clear q1
  go_enter Tryz.func10, Tryz.ntmps10
  go_wp2_with (go_at_call 25; rw [← hW1]; refine (mu25 (Zn n0 G) _ y.1.length _ W1 H3.out s1 (by omega) (by omega)).mono ?_; rintro e w2 ⟨rfl, ho⟩; refine Hid.out ?_)
  clear hW1
  have q2 : w2.cell? ⟨w.heap.size, 1, none⟩ = some (.slice (some ⟨G, 0, none⟩) y.2.length y.2.length) := by
    rw [Lib.cell_of_heap ((ho.block w.heap.size (fun h => by have := h.2; omega)).trans Q1.out)]
    rfl
  have HO := Lib.hid ho
  clear ho
  refine Lib.hid ?_
  have hs : ∀ i, i < y.2.length → (gSnap (y.2.getD i default)).length ≤ 1048576 ∧ (gPlan (y.2.getD i default)).length ≤ 1048576 := fun i hi => HL.out _ (by rw [show y.2.getD i default = y.2[i] by simp [List.getD, hi]]; exact List.getElem_mem hi)
  have hg : w2.heap[G]? = W1.heap[G]? := HO.out.block G (fun h => by have := h.2; omega)
  have k1 : ∀ i, i < y.2.length → ∃ v, w2.cell? ⟨G, 0 + 26 * i + 21, none⟩ = some v ∧ RowV (Zn (G + 1) n1) w2 v (gSnap (y.2.getD i default)).length ∧ (gSnap (y.2.getD i default)).length ≤ 1048576 := fun i hi => by
    obtain ⟨v, h7, h8⟩ := H5.out i hi
    exact ⟨v, by rw [World.cell?_of_block hg]; exact h7, h8.only HO.out, (hs i hi).1⟩
  have k2 : ∀ i, i < y.2.length → ∃ v, w2.cell? ⟨G, 0 + 26 * i + 22, none⟩ = some v ∧ RowV (Zn (G + 1) n1) w2 v (gPlan (y.2.getD i default)).length ∧ (gPlan (y.2.getD i default)).length ≤ 1048576 := fun i hi => by
    obtain ⟨v, h7, h8⟩ := H6.out i hi
    exact ⟨v, by rw [World.cell?_of_block hg]; exact h7, h8.only HO.out, (hs i hi).2⟩
  have K1 := Lib.hid k1
  have K2 := Lib.hid k2
  clear hs hg k1 k2
  go_wp2_with (go_at_call 26; refine (mg26 (Zn (G + 1) n1) G 0 y.2.length y.2.length _ w2 (fun i => (gSnap (y.2.getD i default)).length) (fun i => (gPlan (y.2.getD i default)).length) (fun h => by have := h.1; omega) (H4.out.only HO.out) s2 (by omega) (by omega) K1.out K2.out).mono ?_; rintro e w3 ⟨⟨q, rfl, hq⟩, ho⟩; refine Hid.out ?_)
  have HO3 := Lib.hid ho
  clear ho
  refine Lib.hid ?_
  go_wp2
  go_ret
  have h1 := HB.out
  have h2 := HO.out
  have h3 := HO3.out
  refine ⟨⟨q, rfl, hq⟩, ⟨h3.os.trans (h2.os.trans h1.os), h3.tape.trans (h2.tape.trans h1.tape), h3.output.trans (h2.output.trans h1.output), by rw [h3.size, h2.size]; omega, fun k hk hz => ?_⟩⟩
  rw [h3.block k (fun h => h.elim (fun h => hz ⟨by have := h.1; omega, h.2⟩) (fun h => hz ⟨by omega, by omega⟩)), h2.block k (fun h => hz ⟨h.1, by have := h.2; omega⟩)]
  exact h1.block k hk
/-- The rows of a book. -/
def rows8 (b : Bk) : List (List Int) := [b.2.1, b.2.2.1.1, b.2.2.1.2.1, b.2.2.1.2.2.1, b.2.2.1.2.2.2, b.2.2.2.1, b.2.2.2.2.1, b.2.2.2.2.2]
noncomputable abbrev nthV (vs : List Value) (i : Nat) : Value := vs.getD i (.slice none 0 0)
/-- A book's rows, each in memory of its own between two marks. -/
structure BookO (n0 n1 : Nat) (w : World) (b : Bk) (vs : List Value) : Prop where
  cell : ∀ i, i < 8 → CellAt w zF zF zφ (nthV vs i) (.arr (.int .i64) ((rows8 b).getD i []))
  inj : ∀ i j B, i < 8 → j < 8 → blkOf (nthV vs i) = some B → blkOf (nthV vs j) = some B → i = j
  zone : ∀ i B, i < 8 → blkOf (nthV vs i) = some B → Zn n0 n1 B
  lt : n1 ≤ w.heap.size
theorem cellAt_same {w w' : World} {fz : Nat → Prop} {φ : Nat → Value} {h : Value} {l : List Int} (hc : CellAt w fz zF φ h (.arr (.int .i64) l)) (hb : ∀ B, blkOf h = some B → w'.heap[B]? = w.heap[B]?) : CellAt w' zF zF zφ h (.arr (.int .i64) l) := by
  obtain ⟨h1, h2, A, c, rfl, h3, h4⟩ := hc
  refine ⟨h1, h2, A, c, rfl, h3, ?_⟩
  rcases h4 with h4 | ⟨B, off, ety, ar, rfl, hg, h5, h6⟩
  · exact .inl h4
  · by_cases c0 : c = 0
    · exact .inl c0
    · refine .inr ⟨B, off, ety, ar, rfl, by rw [hb B (by simp [blkOf, c0])]; exact hg, h5, fun i x hx => ?_⟩
      obtain ⟨ys, h7, h8⟩ := h6 i x hx
      exact ⟨ys, by simpa only [RepC] using h7, h8⟩
theorem BookO.mono {n0 n1 : Nat} {w w' : World} {b : Bk} {vs : List Value} (h : BookO n0 n1 w b vs) (hk : ∀ k, Zn n0 n1 k → w'.heap[k]? = w.heap[k]?) (hs : w.heap.size ≤ w'.heap.size) : BookO n0 n1 w' b vs :=
  ⟨fun i hi => cellAt_same (h.cell i hi) fun B hB => hk B (h.zone i B hi hB), h.inj, h.zone, Nat.le_trans h.lt hs⟩
theorem BookO.row {n0 n1 : Nat} {w : World} {b : Bk} {vs : List Value} (h : BookO n0 n1 w b vs) (i : Nat) (hi : i < 8) : RepC w (· < w.heap.size) zF zφ (.sl .bor (.int .i64)) ((rows8 b).getD i []) [nthV vs i] := by
  have hz := h.zone i
  have hl := h.lt
  obtain ⟨_, _, A, c, e, ⟨hlc, _⟩, h1⟩ := h.cell i hi
  simp only [RepC]
  rw [e]
  refine ⟨A, c, rfl, hlc, ?_⟩
  rcases h1 with rfl | ⟨B, off, ety, ar, rfl, hg, hfit, hcell⟩
  · exact .inl (by omega)
  · refine .inr ⟨B, off, rfl, .inl (Array.getElem?_eq_some_iff.1 hg).1, fun i x hx => ?_⟩
    obtain ⟨ys, k1, k2⟩ := hcell i x hx
    refine ⟨ys, by simpa only [RepC] using k1, fun j v hj => ?_⟩
    rw [Lib.cell_of_heap hg]
    exact k2 j v hj
abbrev tyBb : Go.Pv.Ty := .pair (.int .i64) (.pair (.sl .bor (.int .i64)) (.pair (.agg (.pair (.sl .bor (.int .i64)) (.pair (.sl .bor (.int .i64)) (.pair (.sl .bor (.int .i64)) (.sl .bor (.int .i64)))))) (.pair (.sl .bor (.int .i64)) (.pair (.sl .bor (.int .i64)) (.sl .bor (.int .i64))))))
theorem pairIn {w : World} {fz bz : Nat → Prop} {φ : Nat → Value} {a b : Go.Pv.Ty} {x : (Go.Pv.Ty.pair a b).D} {c d : List Value} (h1 : RepC w fz bz φ a x.1 c) (h2 : RepC w fz bz φ b x.2 d) : RepC w fz bz φ (.pair a b) x (c ++ d) := by
  simp only [RepC]
  exact ⟨c, d, rfl, h1, h2⟩
abbrev tyH : Go.Pv.Ty := .pair (.sl .bor (.int .i64)) (.pair (.sl .bor (.int .i64)) (.pair (.sl .bor (.int .i64)) (.sl .bor (.int .i64))))
abbrev tyT : Go.Pv.Ty := .pair (.sl .bor (.int .i64)) (.pair (.sl .bor (.int .i64)) (.sl .bor (.int .i64)))
theorem BookO.rep {n0 n1 : Nat} {w : World} {b : Bk} {v1 v2 v3 v4 v5 v6 v7 v8 : Value} (h : BookO n0 n1 w b [v1, v2, v3, v4, v5, v6, v7, v8]) : RepC w (· < w.heap.size) zF zφ tyBb b (.int .i64 b.1 :: [v1, v2, v3, v4, v5, v6, v7, v8]) := by
  have hh : RepC w (· < w.heap.size) zF zφ tyH b.2.2.1 ([v2] ++ ([v3] ++ ([v4] ++ [v5]))) := pairIn (h.row 1 (by omega)) (pairIn (h.row 2 (by omega)) (pairIn (h.row 3 (by omega)) (h.row 4 (by omega))))
  have hh' : RepC w (· < w.heap.size) zF zφ (.agg tyH) b.2.2.1 [v2, v3, v4, v5] := hh
  have ht : RepC w (· < w.heap.size) zF zφ (.pair (.sl .bor (.int .i64)) (.pair (.sl .bor (.int .i64)) (.sl .bor (.int .i64)))) b.2.2.2 ([v6] ++ ([v7] ++ [v8])) := pairIn (h.row 5 (by omega)) (pairIn (h.row 6 (by omega)) (h.row 7 (by omega)))
  have h0 : RepC w (· < w.heap.size) zF zφ (.int .i64) b.1 [.int .i64 b.1] := rfl
  have h1 : RepC w (· < w.heap.size) zF zφ (.sl .bor (.int .i64)) b.2.1 [v1] := h.row 0 (by omega)
  exact pairIn (a := .int .i64) (b := .pair (.sl .bor (.int .i64)) (.pair (.agg tyH) tyT)) (x := b) (c := [.int .i64 b.1]) h0 (pairIn (a := .sl .bor (.int .i64)) (b := .pair (.agg tyH) tyT) (x := b.2) (c := [v1]) h1 (pairIn (a := .agg tyH) (b := tyT) (x := b.2.2) (c := [v2, v3, v4, v5]) hh' ht))
/-- A call that writes nothing. -/
theorem quiet_calls {P : Program} {w : World} {fz bz : Nat → Prop} {φ : Nat → Value} {e : Ent} (he : EntOk P e) (hsto : e.sto = []) {x : e.par.D} {y : SD e.sto} {u : e.res.D × SD e.osto} (hu : e.fn x y = some u) {args : List Value}
    (hr : RepL w fz bz φ e.par x args) (hf : ∀ b, fz b → b < w.heap.size) (hb : ∀ b, bz b → b < w.heap.size) (ho : ∀ j, (φ j).oneCell' = true) :
    Calls P e.f args.toArray w fun r w' => (∃ v, r = .returned v ∧ ∃ fz' φ', RepV w' fz' bz φ' e.res u.1 v) ∧ Below w.heap.size w w' := by
  have hc0 : ∀ (l : List (Nat × CTy)) (_ : l = []) (z : SD l), cellsOf l z = [] := by intro l hl z; subst hl; rfl
  have hc := hc0 e.sto hsto y
  have hS : Go.Pv.Start w fz bz (fun _ => False) φ e.par x (cellsOf e.sto y) args := by
    refine ⟨hr, by rw [hc]; simp, by rw [hc]; simp, by rw [hc]; simp, hf, hb, ho⟩
  refine (he.run x y u hu args w _ _ _ _ hS).mono fun r w' hr => ?_
  cases r with
  | returned v =>
    obtain ⟨fz', φ', hF⟩ := hr
    exact ⟨⟨v, rfl, fz', φ', hF.rep⟩, hF.os, hF.tape, hF.output, hF.size, fun k hk => hF.frame k hk (fun h => h)⟩
  | panicked ch => exact hr.elim
  | outgrown => exact hr.elim
theorem ceq8 (w : World) (b : Bk) (v1 v2 v3 v4 v5 v6 v7 v8 u1 u2 u3 u4 u5 u6 u7 u8 : Value) (m0 m1 k0 k1 : Nat) (h1 : BookO m0 m1 w b [v1, v2, v3, v4, v5, v6, v7, v8]) (h2 : BookO k0 k1 w b [u1, u2, u3, u4, u5, u6, u7, u8]) (hs : laws_eqBook N0 b b = some (true, ())) :
    Calls Tryz.prog 8 #[.agg #[.int .i64 b.1, v1, v2, v3, v4, v5, v6, v7, v8], .agg #[.int .i64 b.1, u1, u2, u3, u4, u5, u6, u7, u8]] w fun e w' => e = .returned (.bool true) ∧ Below w.heap.size w w' := by
  refine (quiet_calls (fz := (· < w.heap.size)) (bz := zF) (φ := zφ) (ok_laws_eqBook N0) rfl (x := (b, b)) (y := ()) hs (args := [.agg #[.int .i64 b.1, v1, v2, v3, v4, v5, v6, v7, v8], .agg #[.int .i64 b.1, u1, u2, u3, u4, u5, u6, u7, u8]]) ⟨_, _, rfl, ⟨_, rfl, h1.rep⟩, _, rfl, ⟨_, rfl, h2.rep⟩⟩ (fun _ h => h) (fun _ h => h.elim) (fun _ => rfl)).mono ?_
  rintro e w' ⟨⟨v, rfl, fz', φ', h1⟩, h2⟩
  have h1 : v = .bool true := by simpa [RepV, RepV0, RepC, E_laws_eqBook] using h1
  exact ⟨by rw [h1], h2⟩
theorem cheld12 (w : World) (b : Bk) (v1 v2 v3 v4 v5 v6 v7 v8 : Value) (m0 m1 : Nat) (h1 : BookO m0 m1 w (markB b) [v1, v2, v3, v4, v5, v6, v7, v8]) (hs : laws_heldBook N0 (b.1, (markB b).2) 1 = some (markN b, ())) :
    Calls Tryz.prog 12 #[.agg #[.int .i64 b.1, v1, v2, v3, v4, v5, v6, v7, v8], .int .i64 1] w fun e w' => e = .returned (.int .i64 (markN b)) ∧ Below w.heap.size w w' := by
  refine (quiet_calls (fz := (· < w.heap.size)) (bz := zF) (φ := zφ) (ok_laws_heldBook N0) rfl (x := ((b.1, (markB b).2), 1)) (y := ()) hs (args := [.agg #[.int .i64 b.1, v1, v2, v3, v4, v5, v6, v7, v8], .int .i64 1]) ⟨_, _, rfl, ⟨_, rfl, h1.rep⟩, _, rfl, rfl⟩ (fun _ h => h) (fun _ h => h.elim) (fun _ => rfl)).mono ?_
  rintro e w' ⟨⟨v, rfl, fz', φ', h1⟩, h2⟩
  have h1 : v = .int .i64 (markN b) := by simpa [RepV, RepV0, RepC, E_laws_heldBook] using h1
  exact ⟨by rw [h1], h2⟩
abbrev tyOh2 : Go.Pv.Ty := .pair (.sl (.own 2) (.int .i64)) (.pair (.sl (.own 3) (.int .i64)) (.sl (.own 4) (.int .i64)))
abbrev tyOh : Go.Pv.Ty := .pair (.sl (.own 1) (.int .i64)) tyOh2
abbrev tyOt3 : Go.Pv.Ty := .pair (.sl (.own 5) (.int .i64)) (.pair (.sl (.own 6) (.int .i64)) (.sl (.own 7) (.int .i64)))
abbrev tyOt2 : Go.Pv.Ty := .pair (.agg tyOh) tyOt3
abbrev tyOt : Go.Pv.Ty := .pair (.sl (.own 0) (.int .i64)) tyOt2
theorem wrep {w : World} {y : Wld} {vW vG : Value} (h1 : RepC w (· < w.heap.size) zF zφ (.sl .frz (.int .u64)) y.1 [vW]) (h2 : RepC w (· < w.heap.size) zF zφ (.sl .frz tyG) y.2 [vG]) : RepC w (· < w.heap.size) zF zφ (.pair (.sl .bor (.int .u64)) (.sl .bor tyG)) y [vW, vG] :=
  pairIn (a := .sl .bor (.int .u64)) (b := .sl .bor tyG) (x := y) (c := [vW]) (d := [vG]) (frzBor h1) (frzBor h2)
theorem BookO.slices {n0 n1 : Nat} {w : World} {b : Bk} {v1 v2 v3 v4 v5 v6 v7 v8 : Value} (h : BookO n0 n1 w b [v1, v2, v3, v4, v5, v6, v7, v8]) : ∃ A1 n1 c1 A2 n2 c2 A3 n3 c3 A4 n4 c4 A5 n5 c5 A6 n6 c6 A7 n7 c7 A8 n8 c8, [v1, v2, v3, v4, v5, v6, v7, v8] = [.slice A1 n1 c1, .slice A2 n2 c2, .slice A3 n3 c3, .slice A4 n4 c4, .slice A5 n5 c5, .slice A6 n6 c6, .slice A7 n7 c7, .slice A8 n8 c8] := by
  obtain ⟨_, _, B1, d1, e1, _⟩ := h.cell 0 (by omega)
  obtain rfl : v1 = _ := e1
  obtain ⟨_, _, B2, d2, e2, _⟩ := h.cell 1 (by omega)
  obtain rfl : v2 = _ := e2
  obtain ⟨_, _, B3, d3, e3, _⟩ := h.cell 2 (by omega)
  obtain rfl : v3 = _ := e3
  obtain ⟨_, _, B4, d4, e4, _⟩ := h.cell 3 (by omega)
  obtain rfl : v4 = _ := e4
  obtain ⟨_, _, B5, d5, e5, _⟩ := h.cell 4 (by omega)
  obtain rfl : v5 = _ := e5
  obtain ⟨_, _, B6, d6, e6, _⟩ := h.cell 5 (by omega)
  obtain rfl : v6 = _ := e6
  obtain ⟨_, _, B7, d7, e7, _⟩ := h.cell 6 (by omega)
  obtain rfl : v7 = _ := e7
  obtain ⟨_, _, B8, d8, e8, _⟩ := h.cell 7 (by omega)
  obtain rfl : v8 = _ := e8
  exact ⟨_, _, _, _, _, _, _, _, _, _, _, _, _, _, _, _, _, _, _, _, _, _, _, _, rfl⟩
theorem own_book {w w' : World} {fz' : Nat → Prop} {φ' : Nat → Value} {b : Bk} {cells : List (Nat × Cell)} (hm : ∀ i, i < 8 → (32 + i, Cell.arr (.int .i64) ((rows8 b).getD i [])) ∈ cells) (hc : ∀ p ∈ cells, CellAt w' fz' zF φ' (φ' p.1) p.2)
    (hi : ∀ p ∈ cells, ∀ q ∈ cells, ∀ b, blkOf (φ' p.1) = some b → blkOf (φ' q.1) = some b → p.1 = q.1) (ho : ∀ p ∈ cells, ∀ b, blkOf (φ' p.1) = some b → w.heap.size ≤ b) : BookO w.heap.size w'.heap.size w' b [φ' 32, φ' 33, φ' 34, φ' 35, φ' 36, φ' 37, φ' 38, φ' 39] := by
  have hn : ∀ i, i < 8 → nthV [φ' 32, φ' 33, φ' 34, φ' 35, φ' 36, φ' 37, φ' 38, φ' 39] i = φ' (32 + i) := fun i hi => match i, hi with
    | 0, _ => rfl
    | 1, _ => rfl
    | 2, _ => rfl
    | 3, _ => rfl
    | 4, _ => rfl
    | 5, _ => rfl
    | 6, _ => rfl
    | 7, _ => rfl
  have hcell : ∀ i, i < 8 → CellAt w' fz' zF φ' (φ' (32 + i)) (.arr (.int .i64) ((rows8 b).getD i [])) := fun i hi => hc _ (hm i hi)
  refine ⟨fun i hi => by rw [hn i hi]; exact cellAt_same (hcell i hi) (fun _ _ => rfl), fun i j B h1 h2 h3 h4 => ?_, fun i B h1 h2 => ?_, Nat.le_refl _⟩
  · rw [hn i h1] at h3
    rw [hn j h2] at h4
    have := hi _ (hm i h1) _ (hm j h2) B h3 h4
    dsimp only at this
    omega
  · rw [hn i h1] at h2
    refine ⟨ho _ (hm i h1) B h2, ?_⟩
    obtain ⟨_, _, A, c, e, _, h4⟩ := hcell i h1
    rw [e] at h2
    rcases h4 with rfl | ⟨B', off, ety, ar, rfl, hg, _⟩
    · cases A <;> simp [blkOf] at h2
    · simp only [blkOf] at h2
      split at h2
      · cases h2
      · injection h2 with h2
        subst h2
        exact (Array.getElem?_eq_some_iff.1 hg).1
theorem wb5 (w : World) (y : Wld) (vW vG : Value) (h1 : RepC w (· < w.heap.size) zF zφ (.sl .frz (.int .u64)) y.1 [vW]) (h2 : RepC w (· < w.heap.size) zF zφ (.sl .frz tyG) y.2 [vG]) {b : Bk} {ok : Bool} (S : WbSpec y b ok) :
    Calls Tryz.prog 5 #[.agg #[vW, vG]] w fun e w' => Below w.heap.size w w' ∧ ∃ A1 n1 c1 A2 n2 c2 A3 n3 c3 A4 n4 c4 A5 n5 c5 A6 n6 c6 A7 n7 c7 A8 n8 c8, e = .returned (.tuple #[.agg #[.int .i64 b.1, .slice A1 n1 c1, .slice A2 n2 c2, .slice A3 n3 c3, .slice A4 n4 c4, .slice A5 n5 c5, .slice A6 n6 c6, .slice A7 n7 c7, .slice A8 n8 c8], .bool ok]) ∧ BookO w.heap.size w'.heap.size w' b [.slice A1 n1 c1, .slice A2 n2 c2, .slice A3 n3 c3, .slice A4 n4 c4, .slice A5 n5 c5, .slice A6 n6 c6, .slice A7 n7 c7, .slice A8 n8 c8] := by
  have hS : Go.Pv.Start w (· < w.heap.size) zF zF zφ (E_spec_WorldBook N0).par y (cellsOf (E_spec_WorldBook N0).sto ()) [.agg #[vW, vG]] :=
    ⟨⟨_, rfl, _, rfl, wrep h1 h2⟩, by simp [E_spec_WorldBook, cellsOf], by simp [E_spec_WorldBook, cellsOf], by simp [E_spec_WorldBook, cellsOf], fun _ h => h, fun _ h => h.elim, fun _ => rfl⟩
  refine ((ok_spec_WorldBook N0).run y () _ S.spec _ w _ _ _ _ hS).mono fun r w' hr => ?_
  cases r with
  | returned v =>
    obtain ⟨fz', φ', F⟩ := hr
    have hrep := F.rep
    simp only [E_spec_WorldBook, RepV, RepL, RepV0, RepC] at hrep
    obtain ⟨_, rfl, _, _, rfl, ⟨_, rfl, _, _, rfl, rfl, _, _, rfl, rfl, _, _, rfl, ⟨_, _, rfl, rfl, _, _, rfl, rfl, _, _, rfl, rfl, rfl⟩, _, _, rfl, rfl, _, _, rfl, rfl, rfl⟩, _, rfl, hb⟩ := hrep
    obtain rfl := List.singleton_inj.1 hb
    have hm : ∀ i, i < 8 → (32 + i, Cell.arr (.int .i64) ((rows8 b).getD i [])) ∈ cellsOf (E_spec_WorldBook N0).osto (b.2.1, b.2.2.1.1, b.2.2.1.2.1, b.2.2.1.2.2.1, b.2.2.1.2.2.2, b.2.2.2.1, b.2.2.2.2.1, b.2.2.2.2.2) := fun i hi => match i, hi with
    | 0, _ => List.mem_cons_self
    | 1, _ => (List.mem_cons_of_mem _ List.mem_cons_self)
    | 2, _ => (List.mem_cons_of_mem _ (List.mem_cons_of_mem _ List.mem_cons_self))
    | 3, _ => (List.mem_cons_of_mem _ (List.mem_cons_of_mem _ (List.mem_cons_of_mem _ List.mem_cons_self)))
    | 4, _ => (List.mem_cons_of_mem _ (List.mem_cons_of_mem _ (List.mem_cons_of_mem _ (List.mem_cons_of_mem _ List.mem_cons_self))))
    | 5, _ => (List.mem_cons_of_mem _ (List.mem_cons_of_mem _ (List.mem_cons_of_mem _ (List.mem_cons_of_mem _ (List.mem_cons_of_mem _ List.mem_cons_self)))))
    | 6, _ => (List.mem_cons_of_mem _ (List.mem_cons_of_mem _ (List.mem_cons_of_mem _ (List.mem_cons_of_mem _ (List.mem_cons_of_mem _ (List.mem_cons_of_mem _ List.mem_cons_self))))))
    | 7, _ => (List.mem_cons_of_mem _ (List.mem_cons_of_mem _ (List.mem_cons_of_mem _ (List.mem_cons_of_mem _ (List.mem_cons_of_mem _ (List.mem_cons_of_mem _ (List.mem_cons_of_mem _ List.mem_cons_self)))))))
    have hB := own_book (w := w) (b := b) hm F.cell F.inj (fun p hp b hb => (F.own p hp b hb).2.2.resolve_left id)
    obtain ⟨A1, n1, c1, A2, n2, c2, A3, n3, c3, A4, n4, c4, A5, n5, c5, A6, n6, c6, A7, n7, c7, A8, n8, c8, e⟩ := hB.slices
    rw [e] at hB
    injection e with e1 e
    injection e with e2 e
    injection e with e3 e
    injection e with e4 e
    injection e with e5 e
    injection e with e6 e
    injection e with e7 e
    injection e with e8 e
    rw [e1, e2, e3, e4, e5, e6, e7, e8]
    exact ⟨⟨F.os, F.tape, F.output, F.size, fun k hk => F.frame k hk (fun h => h)⟩, A1, n1, c1, A2, n2, c2, A3, n3, c3, A4, n4, c4, A5, n5, c5, A6, n6, c6, A7, n7, c7, A8, n8, c8, rfl, hB⟩
  | panicked ch => exact hr.elim
  | outgrown => exact hr.elim
theorem wb7 (w : World) (y : Wld) (vW vG : Value) (h1 : RepC w (· < w.heap.size) zF zφ (.sl .frz (.int .u64)) y.1 [vW]) (h2 : RepC w (· < w.heap.size) zF zφ (.sl .frz tyG) y.2 [vG]) {b : Bk} {ok : Bool} (S : WbSpec y b ok) :
    Calls Tryz.prog 7 #[.agg #[vW, vG]] w fun e w' => Below w.heap.size w w' ∧ ∃ A1 n1 c1 A2 n2 c2 A3 n3 c3 A4 n4 c4 A5 n5 c5 A6 n6 c6 A7 n7 c7 A8 n8 c8, e = .returned (.tuple #[.agg #[.int .i64 b.1, .slice A1 n1 c1, .slice A2 n2 c2, .slice A3 n3 c3, .slice A4 n4 c4, .slice A5 n5 c5, .slice A6 n6 c6, .slice A7 n7 c7, .slice A8 n8 c8], .bool ok]) ∧ BookO w.heap.size w'.heap.size w' b [.slice A1 n1 c1, .slice A2 n2 c2, .slice A3 n3 c3, .slice A4 n4 c4, .slice A5 n5 c5, .slice A6 n6 c6, .slice A7 n7 c7, .slice A8 n8 c8] := by
  have hS : Go.Pv.Start w (· < w.heap.size) zF zF zφ (E_impl_WorldBook N0).par y (cellsOf (E_impl_WorldBook N0).sto ()) [.agg #[vW, vG]] :=
    ⟨⟨_, rfl, _, rfl, wrep h1 h2⟩, by simp [E_impl_WorldBook, cellsOf], by simp [E_impl_WorldBook, cellsOf], by simp [E_impl_WorldBook, cellsOf], fun _ h => h, fun _ h => h.elim, fun _ => rfl⟩
  refine ((ok_impl_WorldBook N0).run y () _ S.impl _ w _ _ _ _ hS).mono fun r w' hr => ?_
  cases r with
  | returned v =>
    obtain ⟨fz', φ', F⟩ := hr
    have hrep := F.rep
    simp only [E_impl_WorldBook, RepV, RepL, RepV0, RepC] at hrep
    obtain ⟨_, rfl, _, _, rfl, ⟨_, rfl, _, _, rfl, rfl, _, _, rfl, rfl, _, _, rfl, ⟨_, _, rfl, rfl, _, _, rfl, rfl, _, _, rfl, rfl, rfl⟩, _, _, rfl, rfl, _, _, rfl, rfl, rfl⟩, _, rfl, hb⟩ := hrep
    obtain rfl := List.singleton_inj.1 hb
    have hm : ∀ i, i < 8 → (32 + i, Cell.arr (.int .i64) ((rows8 b).getD i [])) ∈ cellsOf (E_impl_WorldBook N0).osto (b.2.1, b.2.2.1.1, b.2.2.1.2.1, b.2.2.1.2.2.1, b.2.2.1.2.2.2, b.2.2.2.1, b.2.2.2.2.1, b.2.2.2.2.2) := fun i hi => match i, hi with
    | 0, _ => List.mem_cons_self
    | 1, _ => (List.mem_cons_of_mem _ List.mem_cons_self)
    | 2, _ => (List.mem_cons_of_mem _ (List.mem_cons_of_mem _ List.mem_cons_self))
    | 3, _ => (List.mem_cons_of_mem _ (List.mem_cons_of_mem _ (List.mem_cons_of_mem _ List.mem_cons_self)))
    | 4, _ => (List.mem_cons_of_mem _ (List.mem_cons_of_mem _ (List.mem_cons_of_mem _ (List.mem_cons_of_mem _ List.mem_cons_self))))
    | 5, _ => (List.mem_cons_of_mem _ (List.mem_cons_of_mem _ (List.mem_cons_of_mem _ (List.mem_cons_of_mem _ (List.mem_cons_of_mem _ List.mem_cons_self)))))
    | 6, _ => (List.mem_cons_of_mem _ (List.mem_cons_of_mem _ (List.mem_cons_of_mem _ (List.mem_cons_of_mem _ (List.mem_cons_of_mem _ (List.mem_cons_of_mem _ List.mem_cons_self))))))
    | 7, _ => (List.mem_cons_of_mem _ (List.mem_cons_of_mem _ (List.mem_cons_of_mem _ (List.mem_cons_of_mem _ (List.mem_cons_of_mem _ (List.mem_cons_of_mem _ (List.mem_cons_of_mem _ List.mem_cons_self)))))))
    have hB := own_book (w := w) (b := b) hm F.cell F.inj (fun p hp b hb => (F.own p hp b hb).2.2.resolve_left id)
    obtain ⟨A1, n1, c1, A2, n2, c2, A3, n3, c3, A4, n4, c4, A5, n5, c5, A6, n6, c6, A7, n7, c7, A8, n8, c8, e⟩ := hB.slices
    rw [e] at hB
    injection e with e1 e
    injection e with e2 e
    injection e with e3 e
    injection e with e4 e
    injection e with e5 e
    injection e with e6 e
    injection e with e7 e
    injection e with e8 e
    rw [e1, e2, e3, e4, e5, e6, e7, e8]
    exact ⟨⟨F.os, F.tape, F.output, F.size, fun k hk => F.frame k hk (fun h => h)⟩, A1, n1, c1, A2, n2, c2, A3, n3, c3, A4, n4, c4, A5, n5, c5, A6, n6, c6, A7, n7, c7, A8, n8, c8, rfl, hB⟩
  | panicked ch => exact hr.elim
  | outgrown => exact hr.elim
theorem ceq9 (w : World) (y : Wld) (vW vG uW uG : Value) (h1 : RepC w (· < w.heap.size) zF zφ (.sl .frz (.int .u64)) y.1 [vW]) (h2 : RepC w (· < w.heap.size) zF zφ (.sl .frz tyG) y.2 [vG]) (h3 : RepC w (· < w.heap.size) zF zφ (.sl .frz (.int .u64)) y.1 [uW]) (h4 : RepC w (· < w.heap.size) zF zφ (.sl .frz tyG) y.2 [uG]) (hs : laws_eqWorld N0 y y = some (true, ())) :
    Calls Tryz.prog 9 #[.agg #[vW, vG], .agg #[uW, uG]] w fun e w' => e = .returned (.bool true) ∧ Below w.heap.size w w' := by
  refine (quiet_calls (fz := (· < w.heap.size)) (bz := zF) (φ := zφ) (ok_laws_eqWorld N0) rfl (x := (y, y)) (y := ()) hs (args := [.agg #[vW, vG], .agg #[uW, uG]]) ⟨_, _, rfl, ⟨_, rfl, wrep h1 h2⟩, _, rfl, ⟨_, rfl, wrep h3 h4⟩⟩ (fun _ h => h) (fun _ h => h.elim) (fun _ => rfl)).mono ?_
  rintro e w' ⟨⟨v, rfl, fz', φ', h1⟩, h2⟩
  have h1 : v = .bool true := by simpa [RepV, RepV0, RepC, E_laws_eqWorld] using h1
  exact ⟨by rw [h1], h2⟩
theorem csz4 (w : World) (y : Wld) (vW vG : Value) (h1 : RepC w (· < w.heap.size) zF zφ (.sl .frz (.int .u64)) y.1 [vW]) (h2 : RepC w (· < w.heap.size) zF zφ (.sl .frz tyG) y.2 [vG]) (r : Int) (hs : laws_szWorld N0 y 1048576 = some (r, ())) :
    Calls Tryz.prog 4 #[.agg #[vW, vG], .int .i64 1048576] w fun e w' => e = .returned (.int .i64 r) ∧ Below w.heap.size w w' := by
  refine (quiet_calls (fz := (· < w.heap.size)) (bz := zF) (φ := zφ) (ok_laws_szWorld N0) rfl (x := (y, 1048576)) (y := ()) hs (args := [.agg #[vW, vG], .int .i64 1048576]) ⟨_, _, rfl, ⟨_, rfl, wrep h1 h2⟩, _, rfl, rfl⟩ (fun _ h => h) (fun _ h => h.elim) (fun _ => rfl)).mono ?_
  rintro e w' ⟨⟨v, rfl, fz', φ', h1⟩, h2⟩
  have h1 : v = .int .i64 r := by simpa [RepV, RepV0, RepC, E_laws_szWorld] using h1
  exact ⟨by rw [h1], h2⟩
theorem cmb11 (w : World) (b : Bk) (v1 v2 v3 v4 v5 v6 v7 v8 : Value) (n0 n1 : Nat) (hB : BookO n0 n1 w b [v1, v2, v3, v4, v5, v6, v7, v8]) {y : Wld} {ok : Bool} (S : WbSpec y b ok) :
    Calls Tryz.prog 11 #[.agg #[.int .i64 b.1, v1, v2, v3, v4, v5, v6, v7, v8], .int .i64 1] w fun e w' => e = .returned (.int .i64 (markN b)) ∧ Wrote (Zn n0 n1) w w' ∧ BookO n0 n1 w' (markB b) [v1, v2, v3, v4, v5, v6, v7, v8] := by
  have hm0 : ∀ i, i < 8 → (i, Cell.arr (.int .i64) ((rows8 b).getD i [])) ∈ cellsOf (E_laws_markBook N0).sto (b.2.1, b.2.2.1.1, b.2.2.1.2.1, b.2.2.1.2.2.1, b.2.2.1.2.2.2, b.2.2.2.1, b.2.2.2.2.1, b.2.2.2.2.2) := fun i hi => match i, hi with
    | 0, _ => List.mem_cons_self
    | 1, _ => (List.mem_cons_of_mem _ List.mem_cons_self)
    | 2, _ => (List.mem_cons_of_mem _ (List.mem_cons_of_mem _ List.mem_cons_self))
    | 3, _ => (List.mem_cons_of_mem _ (List.mem_cons_of_mem _ (List.mem_cons_of_mem _ List.mem_cons_self)))
    | 4, _ => (List.mem_cons_of_mem _ (List.mem_cons_of_mem _ (List.mem_cons_of_mem _ (List.mem_cons_of_mem _ List.mem_cons_self))))
    | 5, _ => (List.mem_cons_of_mem _ (List.mem_cons_of_mem _ (List.mem_cons_of_mem _ (List.mem_cons_of_mem _ (List.mem_cons_of_mem _ List.mem_cons_self)))))
    | 6, _ => (List.mem_cons_of_mem _ (List.mem_cons_of_mem _ (List.mem_cons_of_mem _ (List.mem_cons_of_mem _ (List.mem_cons_of_mem _ (List.mem_cons_of_mem _ List.mem_cons_self))))))
    | 7, _ => (List.mem_cons_of_mem _ (List.mem_cons_of_mem _ (List.mem_cons_of_mem _ (List.mem_cons_of_mem _ (List.mem_cons_of_mem _ (List.mem_cons_of_mem _ (List.mem_cons_of_mem _ List.mem_cons_self)))))))
  have hm1 : ∀ i, i < 8 → (i, Cell.arr (.int .i64) ((rows8 (markB b)).getD i [])) ∈ cellsOf (E_laws_markBook N0).osto ((markB b).2.1, (markB b).2.2.1.1, (markB b).2.2.1.2.1, (markB b).2.2.1.2.2.1, (markB b).2.2.1.2.2.2, (markB b).2.2.2.1, (markB b).2.2.2.2.1, (markB b).2.2.2.2.2) := fun i hi => match i, hi with
    | 0, _ => List.mem_cons_self
    | 1, _ => (List.mem_cons_of_mem _ List.mem_cons_self)
    | 2, _ => (List.mem_cons_of_mem _ (List.mem_cons_of_mem _ List.mem_cons_self))
    | 3, _ => (List.mem_cons_of_mem _ (List.mem_cons_of_mem _ (List.mem_cons_of_mem _ List.mem_cons_self)))
    | 4, _ => (List.mem_cons_of_mem _ (List.mem_cons_of_mem _ (List.mem_cons_of_mem _ (List.mem_cons_of_mem _ List.mem_cons_self))))
    | 5, _ => (List.mem_cons_of_mem _ (List.mem_cons_of_mem _ (List.mem_cons_of_mem _ (List.mem_cons_of_mem _ (List.mem_cons_of_mem _ List.mem_cons_self)))))
    | 6, _ => (List.mem_cons_of_mem _ (List.mem_cons_of_mem _ (List.mem_cons_of_mem _ (List.mem_cons_of_mem _ (List.mem_cons_of_mem _ (List.mem_cons_of_mem _ List.mem_cons_self))))))
    | 7, _ => (List.mem_cons_of_mem _ (List.mem_cons_of_mem _ (List.mem_cons_of_mem _ (List.mem_cons_of_mem _ (List.mem_cons_of_mem _ (List.mem_cons_of_mem _ (List.mem_cons_of_mem _ List.mem_cons_self)))))))
  have hf : ∀ p ∈ cellsOf (E_laws_markBook N0).sto (b.2.1, b.2.2.1.1, b.2.2.1.2.1, b.2.2.1.2.2.1, b.2.2.1.2.2.2, b.2.2.2.1, b.2.2.2.2.1, b.2.2.2.2.2), ∃ i, i < 8 ∧ p = (i, Cell.arr (.int .i64) ((rows8 b).getD i [])) := by
    intro p hp
    simp only [E_laws_markBook, cellsOf, List.mem_cons, List.not_mem_nil, or_false] at hp
    rcases hp with rfl | rfl | rfl | rfl | rfl | rfl | rfl | rfl
    · exact ⟨0, by omega, rfl⟩
    · exact ⟨1, by omega, rfl⟩
    · exact ⟨2, by omega, rfl⟩
    · exact ⟨3, by omega, rfl⟩
    · exact ⟨4, by omega, rfl⟩
    · exact ⟨5, by omega, rfl⟩
    · exact ⟨6, by omega, rfl⟩
    · exact ⟨7, by omega, rfl⟩
  have hS : Go.Pv.Start w zF zF (Zn n0 n1) (fun j => nthV [v1, v2, v3, v4, v5, v6, v7, v8] j) (E_laws_markBook N0).par ((b.1, (), ((), (), (), ()), (), (), ()), 1) (cellsOf (E_laws_markBook N0).sto (b.2.1, b.2.2.1.1, b.2.2.1.2.1, b.2.2.1.2.2.1, b.2.2.1.2.2.2, b.2.2.2.1, b.2.2.2.2.1, b.2.2.2.2.2)) [.agg #[.int .i64 b.1, v1, v2, v3, v4, v5, v6, v7, v8], .int .i64 1] := by
    refine ⟨⟨_, _, rfl, ⟨.int .i64 b.1 :: [v1, v2, v3, v4, v5, v6, v7, v8], rfl, ?_⟩, _, rfl, rfl⟩, fun p hp => ?_, fun p hp q hq B h1 h2 => ?_, fun p hp B h1 => ?_, fun _ h => h.elim, fun _ h => h.elim, fun j => ?_⟩
    · exact pairIn (a := .int .i64) (b := tyOt) (x := (b.1, (), ((), (), (), ()), (), (), ())) (c := [.int .i64 b.1]) rfl (pairIn (a := .sl (.own 0) (.int .i64)) (b := tyOt2) (x := ((), ((), (), (), ()), (), (), ())) (c := [v1]) rfl (pairIn (a := .agg tyOh) (b := tyOt3) (x := (((), (), (), ()), (), (), ())) (c := [v2, v3, v4, v5])
        (pairIn (a := .sl (.own 1) (.int .i64)) (b := tyOh2) (x := ((), (), (), ())) (c := [v2]) rfl (pairIn (a := .sl (.own 2) (.int .i64)) (b := .pair (.sl (.own 3) (.int .i64)) (.sl (.own 4) (.int .i64))) (x := ((), (), ())) (c := [v3]) rfl (pairIn (a := .sl (.own 3) (.int .i64)) (b := .sl (.own 4) (.int .i64)) (x := ((), ())) (c := [v4]) (d := [v5]) rfl rfl)))
        (pairIn (a := .sl (.own 5) (.int .i64)) (b := .pair (.sl (.own 6) (.int .i64)) (.sl (.own 7) (.int .i64))) (x := ((), (), ())) (c := [v6]) rfl (pairIn (a := .sl (.own 6) (.int .i64)) (b := .sl (.own 7) (.int .i64)) (x := ((), ())) (c := [v7]) (d := [v8]) rfl rfl))))
    · obtain ⟨i, hi, rfl⟩ := hf p hp
      exact hB.cell i hi
    · obtain ⟨i, hi, rfl⟩ := hf p hp
      obtain ⟨j, hj, rfl⟩ := hf q hq
      exact hB.inj i j B hi hj h1 h2
    · obtain ⟨i, hi, rfl⟩ := hf p hp
      exact ⟨id, id, hB.zone i B hi h1⟩
    · by_cases hj : j < 8
      · obtain ⟨_, _, A, c, e, _⟩ := hB.cell j hj
        rw [e]
        rfl
      · show (List.getD [v1, v2, v3, v4, v5, v6, v7, v8] j (.slice none 0 0)).oneCell' = true
        rw [List.getD_eq_getElem?_getD, List.getElem?_eq_none (by simp; omega)]
        rfl
  refine ((ok_laws_markBook N0).run ((b.1, (), ((), (), (), ()), (), (), ()), 1) (b.2.1, b.2.2.1.1, b.2.2.1.2.1, b.2.2.1.2.2.1, b.2.2.1.2.2.2, b.2.2.2.1, b.2.2.2.2.1, b.2.2.2.2.2) _ S.mark _ w _ _ _ _ hS).mono fun r w' hr => ?_
  cases r with
  | returned v =>
    obtain ⟨fz', φ', F⟩ := hr
    have hrep : [v] = [.int .i64 (markN b)] := F.rep
    obtain rfl : v = .int .i64 (markN b) := by simpa using hrep
    have hk : ∀ i, i < 8 → φ' i = nthV [v1, v2, v3, v4, v5, v6, v7, v8] i := fun i hi => match i, hi with
      | 0, _ => F.kept 0 rfl
      | 1, _ => F.kept 1 rfl
      | 2, _ => F.kept 2 rfl
      | 3, _ => F.kept 3 rfl
      | 4, _ => F.kept 4 rfl
      | 5, _ => F.kept 5 rfl
      | 6, _ => F.kept 6 rfl
      | 7, _ => F.kept 7 rfl
    refine ⟨rfl, ⟨F.os, F.tape, F.output, F.size, F.frame⟩, fun i hi => ?_, hB.inj, hB.zone, Nat.le_trans hB.lt F.size⟩
    have := F.cell _ (hm1 i hi)
    dsimp only at this
    rw [hk i hi] at this
    exact cellAt_same this (fun _ _ => rfl)
  | panicked ch => exact hr.elim
  | outgrown => exact hr.elim
end Go.Proofs.YtdkinmgpclbedaaGreat.Pv
