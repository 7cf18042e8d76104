/- Copies of worlds, as the law makes them: what they hold and what may be written. -/
import Derived.Test.YtdkinmgpclbedaaGreatWbP
import Derived.Test.YtdkinmgpclbedaaGreatWbA
import Derived.Lib.Builder
import Derived.Deep.CutRange
namespace Go.Proofs.YtdkinmgpclbedaaGreat.Pv
open Go Go.Pv Go.Proofs Go.RowKit
set_option linter.unusedVariables false
set_option linter.unusedSimpArgs false
set_option maxRecDepth 100000
abbrev tyGf : Go.Pv.Ty := (.pair .bool (.pair (.int .i64) (.pair (.int .i64) (.pair .bool (.pair (.agg (.pair (.int .i64) (.pair (.int .i64) (.pair (.int .i64) (.int .i64))))) (.pair (.int .i64) (.pair (.int .i64) (.pair (.int .i64) (.pair (.int .i64) (.pair (.int .i64) (.pair (.int .i64) (.pair (.int .i64) (.pair .bool (.pair (.int .i64) (.pair (.int .u64) (.pair (.int .u64) (.pair (.int .u64) (.pair (.int .u64) (.pair (.sl .frz (.int .u64)) (.pair (.sl .frz (.int .u64)) (.pair (.int .i64) (.pair (.int .i64) (.int .i64)))))))))))))))))))))))
abbrev tyG : Go.Pv.Ty := .agg tyGf
abbrev tyGbf : Go.Pv.Ty := (.pair .bool (.pair (.int .i64) (.pair (.int .i64) (.pair .bool (.pair (.agg (.pair (.int .i64) (.pair (.int .i64) (.pair (.int .i64) (.int .i64))))) (.pair (.int .i64) (.pair (.int .i64) (.pair (.int .i64) (.pair (.int .i64) (.pair (.int .i64) (.pair (.int .i64) (.pair (.int .i64) (.pair .bool (.pair (.int .i64) (.pair (.int .u64) (.pair (.int .u64) (.pair (.int .u64) (.pair (.int .u64) (.pair (.sl .bor (.int .u64)) (.pair (.sl .bor (.int .u64)) (.pair (.int .i64) (.pair (.int .i64) (.int .i64)))))))))))))))))))))))
abbrev tyGb : Go.Pv.Ty := .agg tyGbf
abbrev tyW : Go.Pv.Ty := .agg (.pair (.sl .bor (.int .u64)) (.sl .bor tyG))
noncomputable def zF : Nat → Prop := fun _ => False
noncomputable def zφ : Nat → Value := fun _ => .slice none 0 0
/-- The blocks between two marks. -/
def Zn (a b : Nat) : Nat → Prop := fun k => a ≤ k ∧ k < b
theorem pairMap {w w' : World} {fz bz fz' bz' : Nat → Prop} {φ φ' : Nat → Value} {a b a' b' : Go.Pv.Ty} {x : (Go.Pv.Ty.pair a b).D} {x' : (Go.Pv.Ty.pair a' b').D} (h1 : ∀ c, RepC w fz bz φ a x.1 c → RepC w' fz' bz' φ' a' x'.1 c) (h2 : ∀ c, RepC w fz bz φ b x.2 c → RepC w' fz' bz' φ' b' x'.2 c) :
    ∀ c, RepC w fz bz φ (.pair a b) x c → RepC w' fz' bz' φ' (.pair a' b') x' c := by
  intro c h
  simp only [RepC] at h ⊢
  obtain ⟨p, q, e, h3, h4⟩ := h
  exact ⟨p, q, e, h1 p h3, h2 q h4⟩
theorem pairAt {w : World} {fz bz : Nat → Prop} {φ : Nat → Value} {a b : Go.Pv.Ty} {x : (Go.Pv.Ty.pair a b).D} {v : Value} {q n : Nat} (hn : n = a.sz + q) (h2 : ∀ c, RepC w fz bz φ b x.2 c → c[q]? = some v) : ∀ c, RepC w fz bz φ (.pair a b) x c → c[n]? = some v := by
  intro c h
  simp only [RepC] at h
  obtain ⟨p, r, rfl, h3, h4⟩ := h
  rw [hn, List.getElem?_append_right (by rw [h3.len]; omega), h3.len]
  rw [show a.sz + q - a.sz = q by omega]
  exact h2 r h4
theorem pairHere {w : World} {fz bz : Nat → Prop} {φ : Nat → Value} {a b : Go.Pv.Ty} {x : (Go.Pv.Ty.pair a b).D} {v : Value} (h2 : ∀ c, RepC w fz bz φ a x.1 c → c = [v]) : ∀ c, RepC w fz bz φ (.pair a b) x c → c[0]? = some v := by
  intro c h
  simp only [RepC] at h
  obtain ⟨p, r, rfl, h3, h4⟩ := h
  rw [h2 p h3]
  rfl
theorem frzBor {w : World} {fz : Nat → Prop} {φ : Nat → Value} {e : Go.Pv.Ty} {l : List e.D} {c : List Value} (h : RepC w fz zF φ (.sl .frz e) l c) : RepC w fz zF φ (.sl .bor e) l c := by
  simp only [RepC] at h ⊢
  obtain ⟨A, q, e, p, o⟩ := h
  exact ⟨A, q, e, p, o.imp id fun ⟨B, off, k1, k2, k3⟩ => ⟨B, off, k1, .inl k2, k3⟩⟩
theorem rep_lent {w : World} {fz : Nat → Prop} {φ : Nat → Value} {g : Gst} {cs : List Value} (h : RepC w fz zF φ tyG g cs) : RepC w fz zF φ tyGb g cs := (show ∀ c, RepC w fz zF φ tyGf g c → RepC w fz zF φ tyGbf g c from (pairMap (fun _ h => h) (pairMap (fun _ h => h) (pairMap (fun _ h => h) (pairMap (fun _ h => h) (pairMap (fun _ h => h) (pairMap (fun _ h => h) (pairMap (fun _ h => h) (pairMap (fun _ h => h) (pairMap (fun _ h => h) (pairMap (fun _ h => h) (pairMap (fun _ h => h) (pairMap (fun _ h => h) (pairMap (fun _ h => h) (pairMap (fun _ h => h) (pairMap (fun _ h => h) (pairMap (fun _ h => h) (pairMap (fun _ h => h) (pairMap (fun _ h => h) (pairMap (fun _ h => frzBor h) (pairMap (fun _ h => frzBor h) (pairMap (fun _ h => h) (pairMap (fun _ h => h) (fun _ h => h)))))))))))))))))))))))) cs h
/-- What an owned row of numbers is. -/
theorem own_row {k : IntKind} {w w0 : World} {fz : Nat → Prop} {φ : Nat → Value} {h : Value} {l : List Int} (hc : CellAt w fz zF φ h (.arr (.int k) l)) (ho : ∀ b, blkOf h = some b → w0.heap.size ≤ b) :
    RepC w (Zn w0.heap.size w.heap.size) zF zφ (.sl .frz (.int k)) l [h] ∧ RowV (Zn w0.heap.size w.heap.size) w h l.length := by
  obtain ⟨_, _, A, c, rfl, ⟨hlc, _⟩, h1⟩ := hc
  rcases h1 with rfl | ⟨B, off, ety, ar, rfl, hg, hfit, hcell⟩
  · have h0 : l.length = 0 := by omega
    exact ⟨by simp only [RepC]; exact ⟨A, 0, rfl, hlc, .inl h0⟩, A, 0, rfl, .inl h0⟩
  · by_cases hc0 : c = 0
    · have h0 : l.length = 0 := by omega
      exact ⟨by simp only [RepC]; exact ⟨_, c, rfl, hlc, .inl h0⟩, _, c, rfl, .inl h0⟩
    · have hB : Zn w0.heap.size w.heap.size B := ⟨ho B (by simp [blkOf, hc0]), (Array.getElem?_eq_some_iff.1 hg).1⟩
      have e1 : (Go.Pv.Ty.int k).sz = 1 := rfl
      rw [e1, Nat.mul_one] at hfit
      refine ⟨?_, _, c, rfl, .inr ⟨B, off, rfl, hB, fun j hj => ⟨?_, Lib.frozen_of_heap hg _⟩⟩⟩
      · simp only [RepC]
        refine ⟨_, c, rfl, hlc, .inr ⟨B, off, rfl, hB, fun i x hx => ?_⟩⟩
        obtain ⟨ys, k1, k2⟩ := hcell i x hx
        refine ⟨ys, by simpa only [RepC] using k1, fun j v hj => ?_⟩
        rw [Lib.cell_of_heap hg]
        exact k2 j v hj
      · rw [Lib.cell_of_heap hg]
        exact ⟨ar[off + j]'(by omega), Array.getElem?_eq_getElem (by omega)⟩
abbrev tyGof : Go.Pv.Ty := (.pair .bool (.pair (.int .i64) (.pair (.int .i64) (.pair .bool (.pair (.agg (.pair (.int .i64) (.pair (.int .i64) (.pair (.int .i64) (.int .i64))))) (.pair (.int .i64) (.pair (.int .i64) (.pair (.int .i64) (.pair (.int .i64) (.pair (.int .i64) (.pair (.int .i64) (.pair (.int .i64) (.pair .bool (.pair (.int .i64) (.pair (.int .u64) (.pair (.int .u64) (.pair (.int .u64) (.pair (.int .u64) (.pair (.sl (.own 32) (.int .u64)) (.pair (.sl (.own 33) (.int .u64)) (.pair (.int .i64) (.pair (.int .i64) (.int .i64)))))))))))))))))))))))
abbrev tyGo : Go.Pv.Ty := .agg tyGof
def gUnit (g : Gst) : tyGo.D := (g.1, g.2.1, g.2.2.1, g.2.2.2.1, g.2.2.2.2.1, g.2.2.2.2.2.1, g.2.2.2.2.2.2.1, g.2.2.2.2.2.2.2.1, g.2.2.2.2.2.2.2.2.1, g.2.2.2.2.2.2.2.2.2.1, g.2.2.2.2.2.2.2.2.2.2.1, g.2.2.2.2.2.2.2.2.2.2.2.1, g.2.2.2.2.2.2.2.2.2.2.2.2.1, g.2.2.2.2.2.2.2.2.2.2.2.2.2.1, g.2.2.2.2.2.2.2.2.2.2.2.2.2.2.1, g.2.2.2.2.2.2.2.2.2.2.2.2.2.2.2.1, g.2.2.2.2.2.2.2.2.2.2.2.2.2.2.2.2.1, g.2.2.2.2.2.2.2.2.2.2.2.2.2.2.2.2.2.1, (), (), g.2.2.2.2.2.2.2.2.2.2.2.2.2.2.2.2.2.2.2.2)
theorem own_lent {w : World} {fz Z : Nat → Prop} {φ : Nat → Value} {g : Gst} {cs : List Value} (h1 : RepC w Z zF zφ (.sl .frz (.int .u64)) (gSnap g) [φ 32]) (h2 : RepC w Z zF zφ (.sl .frz (.int .u64)) (gPlan g) [φ 33]) (h : RepC w fz zF φ tyGo (gUnit g) cs) : RepC w Z zF zφ tyG g cs := (show ∀ c, RepC w fz zF φ tyGof (gUnit g) c → RepC w Z zF zφ tyGf g c from (pairMap (fun _ h => h) (pairMap (fun _ h => h) (pairMap (fun _ h => h) (pairMap (fun _ h => h) (pairMap (fun _ h => h) (pairMap (fun _ h => h) (pairMap (fun _ h => h) (pairMap (fun _ h => h) (pairMap (fun _ h => h) (pairMap (fun _ h => h) (pairMap (fun _ h => h) (pairMap (fun _ h => h) (pairMap (fun _ h => h) (pairMap (fun _ h => h) (pairMap (fun _ h => h) (pairMap (fun _ h => h) (pairMap (fun _ h => h) (pairMap (fun _ h => h) (pairMap (fun c h => by have e : c = [φ 32] := h; rw [e]; exact h1) (pairMap (fun c h => by have e : c = [φ 33] := h; rw [e]; exact h2) (pairMap (fun _ h => h) (pairMap (fun _ h => h) (fun _ h => h)))))))))))))))))))))))) cs h
theorem own_at21 {w : World} {fz : Nat → Prop} {φ : Nat → Value} {g : Gst} {cs : List Value} (h : RepC w fz zF φ tyGo (gUnit g) cs) : cs[21]? = some (φ 32) := (show ∀ c, RepC w fz zF φ tyGof (gUnit g) c → c[21]? = some (φ 32) from (pairAt (n := 21) (q := 20) rfl (pairAt (n := 20) (q := 19) rfl (pairAt (n := 19) (q := 18) rfl (pairAt (n := 18) (q := 17) rfl (pairAt (n := 17) (q := 13) rfl (pairAt (n := 13) (q := 12) rfl (pairAt (n := 12) (q := 11) rfl (pairAt (n := 11) (q := 10) rfl (pairAt (n := 10) (q := 9) rfl (pairAt (n := 9) (q := 8) rfl (pairAt (n := 8) (q := 7) rfl (pairAt (n := 7) (q := 6) rfl (pairAt (n := 6) (q := 5) rfl (pairAt (n := 5) (q := 4) rfl (pairAt (n := 4) (q := 3) rfl (pairAt (n := 3) (q := 2) rfl (pairAt (n := 2) (q := 1) rfl (pairAt (n := 1) (q := 0) rfl (pairHere (fun _ h => h))))))))))))))))))))) cs h
theorem own_at22 {w : World} {fz : Nat → Prop} {φ : Nat → Value} {g : Gst} {cs : List Value} (h : RepC w fz zF φ tyGo (gUnit g) cs) : cs[22]? = some (φ 33) := (show ∀ c, RepC w fz zF φ tyGof (gUnit g) c → c[22]? = some (φ 33) from (pairAt (n := 22) (q := 21) rfl (pairAt (n := 21) (q := 20) rfl (pairAt (n := 20) (q := 19) rfl (pairAt (n := 19) (q := 18) rfl (pairAt (n := 18) (q := 14) rfl (pairAt (n := 14) (q := 13) rfl (pairAt (n := 13) (q := 12) rfl (pairAt (n := 12) (q := 11) rfl (pairAt (n := 11) (q := 10) rfl (pairAt (n := 10) (q := 9) rfl (pairAt (n := 9) (q := 8) rfl (pairAt (n := 8) (q := 7) rfl (pairAt (n := 7) (q := 6) rfl (pairAt (n := 6) (q := 5) rfl (pairAt (n := 5) (q := 4) rfl (pairAt (n := 4) (q := 3) rfl (pairAt (n := 3) (q := 2) rfl (pairAt (n := 2) (q := 1) rfl (pairAt (n := 1) (q := 0) rfl (pairHere (fun _ h => h)))))))))))))))))))))) cs h
/-- What the copy of a guest holds. -/
structure GRow (w : World) (Z : Nat → Prop) (g : Gst) (ds : List Value) : Prop where
  rep : RepC w Z zF zφ tyG g ds
  snap : ∃ v, ds[21]? = some v ∧ RowV Z w v (gSnap g).length
  plan : ∃ v, ds[22]? = some v ∧ RowV Z w v (gPlan g).length
theorem tg36 (w : World) (g : Gst) (cs : List Value) (hr : RepC w (· < w.heap.size) zF zφ tyG g cs) (hg : laws_toGuest N0 g = some ((g.1, g.2.1, g.2.2.1, g.2.2.2.1, g.2.2.2.2.1, g.2.2.2.2.2.1, g.2.2.2.2.2.2.1, g.2.2.2.2.2.2.2.1, g.2.2.2.2.2.2.2.2.1, g.2.2.2.2.2.2.2.2.2.1, g.2.2.2.2.2.2.2.2.2.2.1, g.2.2.2.2.2.2.2.2.2.2.2.1, g.2.2.2.2.2.2.2.2.2.2.2.2.1, g.2.2.2.2.2.2.2.2.2.2.2.2.2.1, g.2.2.2.2.2.2.2.2.2.2.2.2.2.2.1, g.2.2.2.2.2.2.2.2.2.2.2.2.2.2.2.1, g.2.2.2.2.2.2.2.2.2.2.2.2.2.2.2.2.1, g.2.2.2.2.2.2.2.2.2.2.2.2.2.2.2.2.2.1, (), (), g.2.2.2.2.2.2.2.2.2.2.2.2.2.2.2.2.2.2.2.2), (gSnap g, gPlan g))) :
    Calls Tryz.prog 36 #[.agg cs.toArray] w fun e w' => Below w.heap.size w w' ∧ ∃ ds : List Value, e = .returned (.agg ds.toArray) ∧ GRow w' (Zn w.heap.size w'.heap.size) g ds := by
  have hS : Go.Pv.Start w (· < w.heap.size) zF zF zφ (E_laws_toGuest N0).par g (cellsOf (E_laws_toGuest N0).sto ()) [.agg cs.toArray] :=
    ⟨⟨_, rfl, cs, rfl, rep_lent hr⟩, by simp [E_laws_toGuest, cellsOf], by simp [E_laws_toGuest, cellsOf], by simp [E_laws_toGuest, cellsOf], fun _ h => h, fun _ h => h.elim, fun _ => rfl⟩
  refine ((ok_laws_toGuest N0).run g () _ hg _ w _ _ _ _ hS).mono fun r w' hr => ?_
  cases r with
  | returned v =>
    obtain ⟨fz', φ', F⟩ := hr
    have hrep := F.rep
    obtain ⟨ds, rfl, hrep⟩ : ∃ ds : List Value, v = .agg ds.toArray ∧ RepC w' fz' zF φ' tyGo (gUnit g) ds := hrep
    have m1 : (32, Cell.arr (.int .u64) (gSnap g)) ∈ cellsOf (E_laws_toGuest N0).osto (gSnap g, gPlan g) := List.mem_cons_self
    have m2 : (33, Cell.arr (.int .u64) (gPlan g)) ∈ cellsOf (E_laws_toGuest N0).osto (gSnap g, gPlan g) := List.mem_cons_of_mem _ List.mem_cons_self
    obtain ⟨h1, k1⟩ := own_row (F.cell _ m1) (fun b hb => (F.own _ m1 b hb).2.2.resolve_left id)
    obtain ⟨h2, k2⟩ := own_row (F.cell _ m2) (fun b hb => (F.own _ m2 b hb).2.2.resolve_left id)
    exact ⟨⟨F.os, F.tape, F.output, F.size, fun k hk => F.frame k hk (fun h => h)⟩, _, rfl, ⟨own_lent h1 h2 hrep, ⟨_, own_at21 hrep, k1⟩, ⟨_, own_at22 hrep, k2⟩⟩⟩
  | panicked ch => exact hr.elim
  | outgrown => exact hr.elim
theorem frozen_of_block {w w' : World} {b o : Nat} (h : w'.heap[b]? = w.heap[b]?) : w'.frozen? ⟨b, o, none⟩ = w.frozen? ⟨b, o, none⟩ := by
  unfold World.frozen?
  simp only [h]
theorem RowV.mono {Z Y : Nat → Prop} {w w' : World} {v : Value} {n : Nat} (h : RowV Z w v n) (hz : ∀ b, Z b → Y b) (hb : ∀ b, Z b → w'.heap[b]? = w.heap[b]?) : RowV Y w' v n := by
  obtain ⟨A, c, rfl, h⟩ := h
  refine ⟨A, c, rfl, h.imp id fun ⟨B, off, h1, h2, h3⟩ => ⟨B, off, h1, hz _ h2, fun j hj => ⟨?_, ?_⟩⟩⟩
  · rw [World.cell?_of_block (hb B h2)]
    exact (h3 j hj).1
  · rw [frozen_of_block (hb B h2)]
    exact (h3 j hj).2
theorem GRow.mono {Z Y : Nat → Prop} {w w' : World} {g : Gst} {ds : List Value} (h : GRow w Z g ds) (hz : ∀ b, Z b → Y b) (hb : ∀ b, Z b → w'.heap[b]? = w.heap[b]?) : GRow w' Y g ds := by
  obtain ⟨h1, ⟨v, h2, h3⟩, u, h4, h5⟩ := h
  exact ⟨RepC.mono (fun b h => hb b (h.resolve_right id)) hz (fun _ h => h.elim) (fun _ _ => rfl) h1, ⟨v, h2, h3.mono hz hb⟩, u, h4, h5.mono hz hb⟩
/-- The row of guests, filled to place j. -/
def GsAt (w wr : World) (l : List Gst) (j : Nat) : Prop := Below w.heap.size w wr ∧ ∃ cur, wr.heap[w.heap.size]? = some (.cells cur 68 (0, 0)) ∧ cur.size = 26 * l.length ∧
  ∀ i g, i < j → l[i]? = some g → ∃ ds, GRow wr (Zn (w.heap.size + 1) wr.heap.size) g ds ∧ ∀ q v, ds[q]? = some v → cur[26 * i + q]? = some v
theorem tok60 : ∃ i, TOk Tryz.prog 60 i ∧ i.sz = 26 ∧ i.k.agg = true := by
  have e : (lk 60 tt).map (fun i => (i.sz, i.k.agg)) = some (26, true) := by kernel_rfl
  obtain ⟨i, hi, he⟩ := Option.map_eq_some_iff.1 e
  injection he with h1 h2
  exact ⟨i, tt_ok _ _ hi, h1, h2⟩
theorem tok68 : ∃ i, TOk Tryz.prog 68 i ∧ i.sz = 26 ∧ i.k.agg = true ∧ i.byt ≤ 1000 := by
  have e : (lk 68 tt).map (fun i => (i.sz, i.k.agg, Nat.ble i.byt 1000)) = some (26, true, true) := by kernel_rfl
  obtain ⟨i, hi, he⟩ := Option.map_eq_some_iff.1 e
  injection he with h1 h2
  injection h2 with h2 h3
  exact ⟨i, tt_ok _ _ hi, h1, h2, Nat.le_of_ble_eq_true h3⟩
theorem make68 (w : World) (n : Nat) (hn : n ≤ 1048576) : ∃ cur : Array Value, cur.size = 26 * n ∧ (Instr.makeSlice 33 (.int .i64 n) (.int .i64 n)).run Tryz.prog w = .ok (.slice (some ⟨w.heap.size, 0, none⟩) n n) (w.alloc (.cells cur 68)) := by
  obtain ⟨i, ht, hs, _, hby⟩ := tok68
  obtain ⟨j, hj, hjs, hjb, zv, hz, _⟩ := ht.info
  have hbn : (j.bytes : Int) * n ≤ 281474976710656 := by
    have h1 : j.bytes * n ≤ 1000 * 1048576 := Nat.mul_le_mul (by omega) hn
    have h2 : ((j.bytes * n : Nat) : Int) = (j.bytes : Int) * n := by simp
    omega
  refine ⟨_, ?_, run_make w 33 68 j zv Tryz.underlying33 hj hz .i64 .i64 n n (by omega) (by omega) hbn (by omega)⟩
  rw [size_madeCells, hjs, hs]
  simp [Nat.mul_comm]
theorem GsAt.put {w wr w2 : World} {l : List Gst} {j : Nat} {g : Gst} {ds : List Value} (h : GsAt w wr l j) (hj : l[j]? = some g) (hb : Below wr.heap.size wr w2) (hG : GRow w2 (Zn wr.heap.size w2.heap.size) g ds) :
    ∃ w3, (storeCells ⟨w.heap.size, j * 26, none⟩ ds).run Tryz.prog w2 = .ok () w3 ∧ ds.length = 26 ∧ GsAt w w3 l (j + 1) := by
  obtain ⟨hbw, cur, hc, hs, hrow⟩ := h
  obtain ⟨i, ht, hsz, _, _⟩ := tok68
  have hjl : j < l.length := (List.getElem?_eq_some_iff.1 hj).1
  have hlt : w.heap.size < wr.heap.size := (Array.getElem?_eq_some_iff.1 hc).1
  have hc2 : w2.heap[w.heap.size]? = some (.cells cur 68 (0, 0)) := by rw [hb.block _ hlt]; exact hc
  have hdl : ds.length = 26 := hG.rep.len
  have hrun := run_storeCells_at Tryz.prog w.heap.size (j * 26) 68 ds 0 cur w2 hc2 (by rw [hdl, hs]; omega) (hG.rep.one (fun k hk => by cases hk))
  simp only [Nat.add_zero] at hrun
  refine ⟨_, hrun, hdl, ?_⟩
  have hother : ∀ k, k ≠ w.heap.size → (w2.setRow w.heap.size (cur.toList.take (j * 26) ++ ds ++ cur.toList.drop (j * 26 + ds.length)).toArray).heap[k]? = w2.heap[k]? := fun k hk => setRow_other _ _ _ _ hk
  have hw2s : wr.heap.size ≤ w2.heap.size := hb.size
  refine ⟨⟨hb.os.trans hbw.os, hb.tape.trans hbw.tape, hb.output.trans hbw.output, by rw [setRow_size]; omega, fun k hk => by rw [hother k (by omega), hb.block k (by omega)]; exact hbw.block k hk⟩, _, setRow_heap _ _ _ _ _ _ hc2, ?_, ?_⟩
  · simp only [List.size_toArray, List.length_append, List.length_take, List.length_drop, Array.length_toList, hs, hdl]
    omega
  · intro q g2 hq hg2
    rw [setRow_size]
    by_cases hqj : q < j
    · obtain ⟨es, he, hcell⟩ := hrow q g2 hqj hg2
      refine ⟨es, he.mono (fun b hb2 => ⟨hb2.1, by have := hb2.2; omega⟩) (fun b hb2 => ?_), fun x v hx => ?_⟩
      · rw [hother b (by have := hb2.1; omega)]
        exact hb.block b hb2.2
      · have hx26 : x < 26 := by
          have := (List.getElem?_eq_some_iff.1 hx).1
          rw [he.rep.len] at this
          exact this
        rw [List.getElem?_toArray, splice_far (by simp only [List.size_toArray, hdl, Array.length_toList, hs]; omega) (.inl (by omega)), Array.getElem?_toList]
        exact hcell x v hx
    · have e : q = j := by omega
      subst e
      rw [hj] at hg2
      injection hg2 with hg2
      subst hg2
      refine ⟨ds, hG.mono (fun b hb2 => ⟨by have := hb2.1; omega, hb2.2⟩) (fun b hb2 => hother b (by have := hb2.1; omega)), fun x v hx => ?_⟩
      have hxl := (List.getElem?_eq_some_iff.1 hx).1
      have htk : (cur.toList.take (q * 26)).length = q * 26 := by rw [List.length_take, Array.length_toList, hs]; omega
      rw [List.getElem?_toArray, List.append_assoc, List.getElem?_append_right (by omega), htk, List.getElem?_append_left (by omega)]
      rw [show 26 * q + x - q * 26 = x by omega]
      exact hx
theorem load60 {w wr : World} {l : List Gst} {A : Option Addr} {c j : Nat} {g : Gst} (hr : RepC w (· < w.heap.size) zF zφ (.sl .bor tyG) l [.slice A l.length c]) (hj : l[j]? = some g) (hb : Below w.heap.size w wr) :
    ∃ B off cs, A = some ⟨B, off, none⟩ ∧ (Instr.loadAt 60 (.pointer (some ⟨B, off + j * 26, none⟩))).run Tryz.prog wr = .ok (.agg cs.toArray) wr ∧ RepC wr (· < wr.heap.size) zF zφ tyG g cs := by
  simp only [RepC] at hr
  obtain ⟨A', c', e, _, h⟩ := hr
  obtain ⟨rfl, rfl⟩ : A = A' ∧ c = c' := by simpa using e
  have hjl : j < l.length := (List.getElem?_eq_some_iff.1 hj).1
  rcases h with h | ⟨B, off, rfl, hB, h⟩
  · omega
  obtain ⟨ys, h1, h2⟩ := h j g hj
  have hB := hB.resolve_right id
  have h1' : RepC wr (· < wr.heap.size) zF zφ tyG g ys := RepC.mono (φ := noTok) (fun b hb2 => hb.block b (hb2.resolve_right id)) (fun b hb2 => Nat.lt_of_lt_of_le hb2 hb.size) (fun _ h => h.elim) (fun k hk => by cases hk) (by simpa only [RepC] using h1)
  obtain ⟨i, ht, hsz, hag⟩ := tok60
  obtain ⟨v, h3, h4⟩ := run_load_rep (P := Tryz.prog) ht (u := ⟨tyG, g⟩) h1' rfl (by rw [hsz]; rfl) (by rw [hag]; rfl) (B := B) (off := off + j * 26) (h2.same (hb.block B hB))
  obtain ⟨cs, rfl, h5⟩ : ∃ cs : List Value, v = .agg cs.toArray ∧ RepC wr (· < wr.heap.size) zF zφ tyG g cs := h4
  exact ⟨B, off, cs, rfl, h3, h5⟩
theorem tgs18 (w : World) (l : List Gst) (A : Option Addr) (c : Nat) (hr : RepC w (· < w.heap.size) zF zφ (.sl .bor tyG) l [.slice A l.length c]) (hn : l.length ≤ 1048576) (hg : ∀ g ∈ l, laws_toGuest N0 g = some ((g.1, g.2.1, g.2.2.1, g.2.2.2.1, g.2.2.2.2.1, g.2.2.2.2.2.1, g.2.2.2.2.2.2.1, g.2.2.2.2.2.2.2.1, g.2.2.2.2.2.2.2.2.1, g.2.2.2.2.2.2.2.2.2.1, g.2.2.2.2.2.2.2.2.2.2.1, g.2.2.2.2.2.2.2.2.2.2.2.1, g.2.2.2.2.2.2.2.2.2.2.2.2.1, g.2.2.2.2.2.2.2.2.2.2.2.2.2.1, g.2.2.2.2.2.2.2.2.2.2.2.2.2.2.1, g.2.2.2.2.2.2.2.2.2.2.2.2.2.2.2.1, g.2.2.2.2.2.2.2.2.2.2.2.2.2.2.2.2.1, g.2.2.2.2.2.2.2.2.2.2.2.2.2.2.2.2.2.1, (), (), g.2.2.2.2.2.2.2.2.2.2.2.2.2.2.2.2.2.2.2.2), (gSnap g, gPlan g))) :
    Calls Tryz.prog 18 #[.slice A l.length c] w fun e w' => e = .returned (.slice (some ⟨w.heap.size, 0, none⟩) l.length l.length) ∧ GsAt w w' l l.length := by
  have HR := Lib.hid hr
  have HG := Lib.hid hg
  clear hr hg
  obtain ⟨cur0, hc0, hmk⟩ := make68 w l.length hn
  go_enter Tryz.func18, Tryz.ntmps18
  go_wp2
  go_loopw [4] (fun i wr => ∃ j : Nat, i = .int .i64 j ∧ j ≤ l.length ∧ Hid (GsAt w wr l j)) (fun i _ => l.length - (intOf i).toNat)
  case atStart => exact ⟨0, rfl, by omega, Lib.hid ⟨(Below.refl _ w).alloc (Nat.le_refl _) _, cur0, heap_alloc_new w _, hc0, fun i g hi => by omega⟩⟩
  case round =>
    obtain ⟨j, rfl, hj, HS⟩ := hrel
    by_cases hjn : j < l.length
    · obtain ⟨g, hgj⟩ : ∃ g, l[j]? = some g := ⟨_, List.getElem?_eq_getElem hjn⟩
      obtain ⟨B, off, cs, rfl, hld, hrep⟩ := load60 HR.out hgj HS.out.1
      have HJ := Lib.hid hgj
      have HP := Lib.hid hrep
      clear hgj hrep
      have HLD := Lib.hid hld
      clear hld
      go_upto_region 5 with fail
      iterate 17 go_step
      refine wp_value (v := .agg cs.toArray) (w' := wr) (by simp only [execOp]; rw [Sem.run_bind]; refine (congrArg (fun r => Result.andThen r _) (show _ = _ from HLD.out)).trans ?_; rfl) ?_
      go_wp2_with (go_at_call 36; (refine (tg36 _ g cs HP.out (HG.out g (List.mem_of_getElem? HJ.out))).mono ?_; rintro e w2 ⟨hb, ds, rfl, hG⟩; refine Hid.out ?_))
      as_aux_lemma =>
        obtain ⟨w3, hst, hdl, h3⟩ := HS.out.put HJ.out hb hG
        have H3 := Lib.hid h3
        clear h3
        refine Lib.hid ?_
        go_wp2
        go_roundw
        case rel => exact ⟨j + 1, by go_num, by omega, H3⟩
        case measure => simp [intOf]; omega
    · have e : j = l.length := by omega
      subst e
      go_wp2
      go_ret
      exact ⟨rfl, HS.out⟩
end Go.Proofs.YtdkinmgpclbedaaGreat.Pv
