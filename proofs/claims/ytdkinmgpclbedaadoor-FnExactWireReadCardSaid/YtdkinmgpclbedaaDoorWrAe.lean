/- impl.WireRead, walked by hand. -/
import Derived.Test.YtdkinmgpclbedaaDoorWrAd
namespace Go.Proofs.YtdkinmgpclbedaaDoor.Pv
open Go Go.Pv Go.Proofs Go.RowKit Go.Shelf
set_option linter.unusedVariables false
set_option linter.unusedSimpArgs false
set_option maxRecDepth 100000
theorem zeroCells_one (z : Value) (n : Nat) : Builtin.zeroCells #[z] n = (List.replicate n z).toArray := by
  apply Array.ext
  · simp [Builtin.zeroCells]
  · intro i h1 h2
    simp [Builtin.zeroCells, Nat.mod_one]
theorem run_append_zeros_own {P : Program} (w : World) (base : Nat) (t tn ty e : TypeId) (i : TypeInfo) (ht : P.underlying t = some (.slice e)) (htn : P.underlying tn = some (.int .i64)) (hi : P.info? e = some i)
    (hz : i.zero = some (.int .u64 0)) (hsize : i.size = 1) (hby : i.bytes = 8) (v : Value) (n : Nat) (xs : List Value) (hown : w.ownsRow base e 1 v n xs) (m : Nat) (hm0 : 0 < m) (hnm : n + m ≤ 1000000) (hbase : base ≤ w.heap.size) :
    ∃ v' w', (Builtin.append_ #[t, tn] ty #[v, .int .i64 (m : Int)]).run P w = .ok v' w' ∧ w'.ownsRow base e 1 v' (n + m) (xs ++ List.replicate m (.int .u64 0)) ∧ w.grownBy w' v.ownBlock := by
  have hw : IntKind.i64.wrap (m : Int) = (m : Int) := by rw [IntKind.wrap_i64]; omega
  have hmz : m ≠ 0 := by omega
  have hneg : ¬ ((m : Int) < 0) := by omega
  have h48 : ¬ (281474976710656 < (m : Int) * 8) := by omega
  have hzc : (Value.int IntKind.u64 0).cells = #[.int .u64 0] := rfl
  have hlen : (xs ++ List.replicate m (Value.int .u64 0)).length = (n + m) * 1 := by rw [List.length_append, hown.1, List.length_replicate]; omega
  have grown : ∀ (old : Nat), old < n + m → ∀ (row : Option Nat),
      (w.drew.alloc (.cells (xs.toArray ++ (List.replicate m (Value.int .u64 0)).toArray ++ (List.replicate (grownCap w (n + m) old e - (n + m)) (Value.int .u64 0)).toArray) e)).ownsRow base e 1
        (.slice (some ⟨w.heap.size, 0, none⟩) (n + m) (grownCap w (n + m) old e)) (n + m) (xs ++ List.replicate m (.int .u64 0)) ∧
      w.grownBy (w.drew.alloc (.cells (xs.toArray ++ (List.replicate m (Value.int .u64 0)).toArray ++ (List.replicate (grownCap w (n + m) old e - (n + m)) (Value.int .u64 0)).toArray) e)) row := by
    intro old ho row
    have hge := grownCap_ge w (n + m) old e
    have hcm : grownCap w (n + m) old e ≤ maxLen := grownCap_le_maxLen w (n + m) old e (by simp only [maxLen]; omega)
    have hl := hown.1
    refine ⟨⟨hlen, .inr ⟨w.heap.size, _, _, rfl, hbase, heap_alloc_new w.drew _, hge, hcm, ?_, ?_⟩⟩, ⟨rfl, rfl, rfl, by simp, fun k hk hr => (World.grownBy_alloc w.drew _ row).block k hk hr⟩⟩
    · simp only [Array.size_append, List.size_toArray, List.length_replicate]
      omega
    · simp only [Array.toList_append, List.append_assoc]
      rw [← List.append_assoc, ← hlen]
      exact List.take_left
  rcases hown.2 with ⟨rfl, rfl⟩ | ⟨g, cap, cur, rfl, hbg, hg, hnc, hcm, hcs, htake⟩
  · have hx : xs = [] := List.eq_nil_of_length_eq_zero (by simpa using hown.1)
    subst hx
    have hgr := grown 0 (by omega) (Value.ownBlock (.slice none 0 0))
    simp only [Nat.zero_add, List.nil_append, Array.empty_append] at hgr ⊢
    have h63' : ¬ (9223372036854775807 < (m : Int)) := by omega
    have h48' : ¬ (281474976710656 < Builtin.nextslicecap m 0 * 8) := by rw [nextslicecap_zero hm0]; omega
    refine ⟨_, _, ?_, hgr.1, hgr.2⟩
    simp [Builtin.append_, asInt, asIntOf, Int.toNat_natCast, run_underlying ht, run_underlying htn, sizeOf, typeInfo, zeroValue, hi, hz, hsize, hby, Builtin.lenOf, hmz, hw, h48, h63', h48', Question.forced, run_firstCells_none, newRow, grownCap, zeroCells_one, hzc]
    all_goals exact fun h => absurd h hneg
  · by_cases hroom : n + m ≤ cap
    · have hfit : n * 1 + (List.replicate m (Value.int .u64 0)).length ≤ cur.size := by rw [List.length_replicate]; omega
      have hst := run_storeCells_at P g (n * 1) e (List.replicate m (Value.int .u64 0)) 0 cur w hg (by simpa using hfit) (by intro u hu; rw [(List.mem_replicate.1 hu).2]; rfl)
      simp only [Nat.add_zero, Nat.mul_one] at hst
      obtain ⟨R, hR⟩ : ∃ R, R = (cur.toList.take n ++ List.replicate m (Value.int .u64 0) ++ cur.toList.drop (n + (List.replicate m (Value.int .u64 0)).length)).toArray := ⟨_, rfl⟩
      rw [← hR] at hst
      refine ⟨.slice (some ⟨g, 0, none⟩) (n + m) cap, w.setRow g R, ?_, ⟨hlen, .inr ⟨g, cap, R, rfl, hbg, setRow_heap w g cur R e _ hg, hroom, hcm, ?_, ?_⟩⟩, ⟨rfl, rfl, rfl, by simp, fun k _ hk => setRow_other w g k _ (fun e => hk (by simp [Value.ownBlock, e]))⟩⟩
      · simp [Builtin.append_, asInt, asIntOf, Int.toNat_natCast, run_underlying ht, run_underlying htn, sizeOf, typeInfo, zeroValue, hi, hz, hsize, hby, Builtin.lenOf, hmz, hw, h48, hroom, Addr.add_lit, zeroCells_one, hzc]
        rw [if_neg hneg]
        have hst2 : (storeCells ⟨g, n, none⟩ (List.replicate m (Value.int .u64 0))).run P w = .ok () (w.setRow g R) := hst
        rw [hst2]
        rfl
      · rw [hR]
        simp only [List.size_toArray, List.length_append, List.length_take, List.length_drop, Array.length_toList, List.length_replicate]
        omega
      · have h1 := hown.1
        rw [Nat.mul_one] at htake
        rw [hR]
        show List.take ((n + m) * 1) (cur.toList.take n ++ List.replicate m (Value.int .u64 0) ++ _) = _
        rw [htake, ← hlen]
        exact List.take_left
    · have holds : ∀ j u, xs[j]? = some u → w.cell? ((⟨g, 0, none⟩ : Addr).add j) = some u := hown.cells (g := g) rfl
      have hgr := grown cap (by omega) (Value.ownBlock (.slice (some ⟨g, 0, none⟩) n cap))
      have hfo := run_firstCells_some (P := P) w.drew 1 n ⟨g, 0, none⟩ n cap xs hown.1 (by simpa using holds)
      have h63' : ¬ (9223372036854775807 < ((n : Int) + (m : Int))) := by omega
      have h48' : ¬ (281474976710656 < Builtin.nextslicecap (n + m) cap * 8) := by have := growslice_fits (need := n + m) (old := cap) (bytes := 8) (by omega) (by omega); omega
      refine ⟨_, _, ?_, hgr.1, hgr.2⟩
      simp [Builtin.append_, asInt, asIntOf, Int.toNat_natCast, run_underlying ht, run_underlying htn, sizeOf, typeInfo, zeroValue, hi, hz, hsize, hby, Builtin.lenOf, hmz, hw, h48, hroom, h63', h48', Question.forced, hfo, newRow, grownCap, zeroCells_one, hzc]
      all_goals exact fun h => absurd h hneg
theorem wpList_append_zeros_own {P : Program} {ops : Array Oper} {rest : List Oper} {o : Oper} {a : Act} {Q : Exit → Act → World → Prop} {w : World} (hgd : o.guard = none) (s x : Operand) (t tn : TypeId)
    (ho : o.op = .call { callee := .builtin .append, args := #[s, x], argTypes := #[t, tn] })
    (base : Nat) (e : TypeId) (i : TypeInfo) (ht : P.underlying t = some (.slice e)) (htn : P.underlying tn = some (.int .i64)) (hi : P.info? e = some i)
    (hz : i.zero = some (.int .u64 0)) (hsize : i.size = 1) (hby : i.bytes = 8)
    (v : Value) (n : Nat) (xs : List Value) (hs : a.eval s = v) (hown : w.ownsRow base e 1 v n xs)
    (m : Nat) (hx : a.eval x = .int .i64 (m : Int)) (hm0 : 0 < m) (hnm : n + m ≤ 1000000) (hbase : base ≤ w.heap.size)
    (h : ∀ v' w', w'.ownsRow base e 1 v' (n + m) (xs ++ List.replicate m (.int .u64 0)) → w.grownBy w' v.ownBlock → wpList P ops Q rest (a.put o.dst v') w') : wpList P ops Q (o :: rest) a w := by
  refine wpList_plain hgd fun K hK => ?_
  obtain ⟨v', w', hr, h2, h3⟩ := run_append_zeros_own (P := P) w base t tn o.type e i ht htn hi hz hsize hby v n xs hown m hm0 hnm hbase
  unfold Oper.wp execOp
  simp only [ho, resolve, invoke, builtin, Sem.run_bind, Sem.run_pure, Result.andThen_ok, List.map_toArray, List.map_cons, List.map_nil, hs, hx, hr]
  exact hK _ _ (h v' w' h2 h3)
theorem infoWord : (Tryd.prog.info? 40).map (fun i => (i.zero, i.size, i.bytes)) = some (some (.int .u64 0), 1, 8) := by kernel_rfl
theorem grown_below {w w' : World} {row : Option Nat} {B : Nat} (hg : w.grownBy w' row) (hB : B ≤ w.heap.size) (hr : ∀ k, row = some k → B ≤ k) : Below B w w' :=
  ⟨hg.os, hg.tape, hg.output, hg.size, fun k hk => hg.block k (Nat.lt_of_lt_of_le hk hB) (fun e => by have := hr k e.symm; omega)⟩
theorem below_grown {w w' : World} (h : Below w.heap.size w w') : w.grownBy w' none := ⟨h.os, h.tape, h.output, h.size, fun k hk _ => h.block k hk⟩
/-- Words that a slice owns. -/
def Own (B : Nat) (w : World) (v : Value) (o : List Int) : Prop := w.ownsRow B 40 1 v o.length (o.map (Value.int .u64))
theorem Own.old {B : Nat} {w w' : World} {v : Value} {o : List Int} (h : Own B w v o) (hb : Below w.heap.size w w') : Own B w' v o :=
  World.ownsRow.kept h (below_grown hb) (by cases hv : v.ownBlock <;> simp)
theorem Own.nil (B : Nat) (w : World) : Own B w (.slice none 0 0) [] := World.ownsRow_nil w B 40 1
theorem Own.form {B : Nat} {w : World} {v : Value} {o : List Int} (h : Own B w v o) : ∃ A c, v = .slice A o.length c := by
  rcases h.2 with ⟨rfl, h0⟩ | ⟨g, cap, cur, rfl, _⟩
  · exact ⟨none, 0, by rw [h0]⟩
  · exact ⟨_, _, rfl⟩
theorem Own.u64 {B : Nat} {w : World} {v : Value} {o : List Int} (h : Own B w v o) : U64At w v o := by
  have hc := @World.ownsRow.cells w B 40 1 v o.length (o.map (Value.int .u64)) h
  rcases h.2 with ⟨rfl, h0⟩ | ⟨g, cap, cur, rfl, hb, hg, hnc, _⟩
  · exact ⟨none, 0, by rw [h0], by omega, .inl h0⟩
  · refine ⟨_, _, rfl, hnc, .inr ⟨g, 0, rfl, (Array.getElem?_eq_some_iff.1 hg).1, fun i hi => ?_⟩⟩
    have := hc (g := g) rfl i (.int .u64 (o.getD i 0)) (by rw [List.getElem?_map, List.getElem?_eq_getElem hi]; simp [List.getD, hi])
    rw [← this]
    congr 1
    unfold Addr.add
    simp
theorem Own.app {B : Nat} {w w' : World} {v' : Value} {o : List Int} {n : Int} (h : w'.ownsRow B 40 1 v' (o.length + 1) (o.map (Value.int .u64) ++ [.int .u64 n])) : Own B w' v' (o ++ [n]) := by
  unfold Own
  rw [List.length_append, List.map_append]
  exact h
theorem Own.zeros {B : Nat} {w w' : World} {v' : Value} {o : List Int} {m : Nat} (h : w'.ownsRow B 40 1 v' (o.length + m) (o.map (Value.int .u64) ++ List.replicate m (.int .u64 0))) : Own B w' v' (o ++ List.replicate m 0) := by
  unfold Own
  rw [List.length_append, List.map_append, List.map_replicate, List.length_replicate]
  exact h
theorem cell_new1 (w : World) (x : Value) (t : TypeId) : ∀ j u, [x][j]? = some u → (w.alloc (.cells #[x] t)).cell? ((⟨w.heap.size, 0, none⟩ : Addr).add j) = some u := by
  intro j u hj
  match j, hj with
  | 0, hj => simp at hj; subst hj; simp [Addr.add]
/-- A slice of pieces, laid anew. -/
structure Cut (w w2 : World) (P : List ByteArray) : Prop where
  size : w2.heap.size = w.heap.size + 1
  bel : Below w.heap.size w w2
  cell : ∀ j, j < P.length → w2.cell? ⟨w.heap.size, j, none⟩ = some (.string (P.getD j ByteArray.empty))
theorem split_cut (t : ByteArray) (hs : t.size ≤ 10000) (w : World) (h : MaxL w) : ∃ (n : Nat) (P : List ByteArray), n ≤ 10000 ∧ P.length = n + 1 ∧ (∀ p ∈ P, p.size ≤ 10000) ∧ Cn t.data.toList (P.map (·.data.toList)) [] ∧
    Calls Tryd.prog 69 #[.string t, .string ⟨#[32]⟩] w fun e w2 => e = .returned (.slice (some ⟨w.heap.size, 0, none⟩) (n + 1) (n + 1)) ∧ Cut w w2 P := by
  have hn := Lib.countB_le ⟨#[32]⟩ (by decide) t.size t (Nat.le_refl _)
  have hl := Lib.splitB_all ⟨#[32]⟩ (by decide) 0 _ t rfl
  refine ⟨Lib.countB t ⟨#[32]⟩, Lib.splitB ⟨#[32]⟩ 0 (Lib.countB t ⟨#[32]⟩) t, by omega, hl, ?_, Cn.split, ?_⟩
  · intro p hp
    have h1 : p.data.toList ∈ Lib.split t.data.toList [32] := by
      have e : (Lib.splitB ⟨#[32]⟩ 0 (Lib.countB t ⟨#[32]⟩) t).map (·.data.toList) = Lib.split t.data.toList [32] := by rw [Lib.splitB_data]; rfl
      rw [← e]
      exact List.mem_map_of_mem hp
    rw [split_cutA _ _ (Nat.le_refl _)] at h1
    have h2 := cutA_piece _ _ _ h1
    rw [← Lib.size_eq, ← Lib.size_eq] at h2
    simp only [List.length_nil] at h2
    omega
  · refine (split69 t (by omega) w h).mono ?_
    rintro e w2 ⟨rfl, rfl⟩
    refine ⟨rfl, by simp, (Below.refl _ w).alloc (Nat.le_refl _) _, fun j hj => ?_⟩
    rw [cell_of_row _ _ j _ 9 (0, 0) (heap_alloc_new w _)]
    rw [List.getElem?_toArray, List.getElem?_map, List.getElem?_eq_getElem hj]
    simp [List.getD, hj]
/-- How far the reader is: what is read lies in the slice that is grown. -/
def Rst (ts : List UInt8) (w2 wr : World) (Q : List (List UInt8)) (j L : Nat) (v : Value) : Prop :=
  (∃ o : List Int, o.length = L ∧ Words o ∧ Cn ts (Q.drop j) o ∧ Own w2.heap.size wr v o) ∧ Below w2.heap.size w2 wr
/-- What impl.WireRead answers. -/
def Wr (ts : List UInt8) (w w' : World) (e : Ending) : Prop := (∃ (b : Bool) (o : List Int) (v : Value), e = .returned (.tuple #[v, .bool b]) ∧ Reads ts b o ∧ Own w.heap.size w' v o) ∧ Below w.heap.size w w'
theorem Wr.no {ts : List UInt8} {w w' : World} (h : ∀ m, ¬ Canon ts m) (hb : Below w.heap.size w w') : Wr ts w w' (.returned (.tuple #[.slice none 0 0, .bool false])) :=
  ⟨⟨false, [], _, rfl, .inr ⟨rfl, rfl, h⟩, Own.nil _ _⟩, hb⟩
theorem Rst.no_zero {ts : List UInt8} {w2 wr : World} {Q : List (List UInt8)} {j L : Nat} {v : Value} {p : List UInt8} (h : Rst ts w2 wr Q j L v) (hq : ∃ q qs, Q.drop j = p :: q :: qs ∧ Q.drop (j + 1) = q :: qs) (hp : Lib.hasPrefix p [122] = true)
    (ha : (∀ v, Lib.atoiAll (Lib.trimPrefix p [122]) ≠ .ok v) ∨ (∃ v, Lib.atoiAll (Lib.trimPrefix p [122]) = .ok v ∧ ¬ (1 ≤ v ∧ v ≤ 1000)) ∨ 1000 < L) : ∀ m, ¬ Canon ts m := by
  obtain ⟨⟨o, rfl, hw, hcn, hown⟩, _⟩ := h
  obtain ⟨q, qs, e1, e2⟩ := hq
  rw [e1] at hcn
  exact Cn.zero_bad hcn hp ha
theorem Rst.no_word {ts : List UInt8} {w2 wr : World} {Q : List (List UInt8)} {j L : Nat} {v : Value} {p : List UInt8} (h : Rst ts w2 wr Q j L v) (hq : ∃ q qs, Q.drop j = p :: q :: qs ∧ Q.drop (j + 1) = q :: qs) (hp : Lib.hasPrefix p [122] = false)
    (ha : ∀ x, x < 18446744073709551616 → p ≠ hx x) : ∀ m, ¬ Canon ts m := by
  obtain ⟨⟨o, rfl, hw, hcn, hown⟩, _⟩ := h
  obtain ⟨q, qs, e1, e2⟩ := hq
  rw [e1] at hcn
  exact Cn.word_bad hcn hp ha
theorem Rst.zeros {ts : List UInt8} {w2 wr w3 : World} {Q : List (List UInt8)} {j L m : Nat} {v : Value} {p : List UInt8} (h : Rst ts w2 wr Q j L v) (hb : Below wr.heap.size wr w3) (hq : ∃ q qs, Q.drop j = p :: q :: qs ∧ Q.drop (j + 1) = q :: qs) (hp : Lib.hasPrefix p [122] = true)
    (ha : Lib.atoiAll (Lib.trimPrefix p [122]) = .ok (m : Int)) : ∃ xs, w3.ownsRow w2.heap.size 40 1 v L xs ∧ w2.heap.size ≤ w3.heap.size ∧
      ∀ v' w', w'.ownsRow w2.heap.size 40 1 v' (L + m) (xs ++ List.replicate m (.int .u64 0)) → w3.grownBy w' v.ownBlock → Rst ts w2 w' Q (j + 1) (L + m) v' ∧ ∃ A c, v' = .slice A (L + m) c := by
  obtain ⟨⟨o, rfl, hw, hcn, hown⟩, hbel⟩ := h
  obtain ⟨q, qs, e1, e2⟩ := hq
  rw [e1] at hcn
  have ho3 := Own.old hown hb
  have hs := Nat.le_trans hbel.size hb.size
  refine ⟨_, ho3, hs, fun v' w' h1 h2 => ?_⟩
  have h3 := Own.zeros (w := w3) h1
  refine ⟨⟨⟨o ++ List.replicate m 0, by simp, words_zeros hw m, ?_, h3⟩, (hbel.trans (hb.mono hbel.size)).trans (grown_below h2 hs (fun k hk => (World.ownsRow.lt ho3 k hk).1))⟩, ?_⟩
  · rw [e2]
    have := Cn.zero_ok hcn hp ha
    rw [Int.toNat_natCast] at this
    exact this
  · obtain ⟨A, c, e⟩ := Own.form h3
    rw [List.length_append, List.length_replicate] at e
    exact ⟨A, c, e⟩
theorem Rst.word {ts : List UInt8} {w2 wr w3 : World} {Q : List (List UInt8)} {j L x : Nat} {v : Value} {p : List UInt8} (h : Rst ts w2 wr Q j L v) (hb : Below wr.heap.size wr w3) (hq : ∃ q qs, Q.drop j = p :: q :: qs ∧ Q.drop (j + 1) = q :: qs) (hp : Lib.hasPrefix p [122] = false)
    (hx64 : x < 18446744073709551616) (ha : ∀ y, y < 18446744073709551616 → p = hx y → x = y) : ∃ xs, w3.ownsRow w2.heap.size 40 1 v L xs ∧ w2.heap.size ≤ w3.heap.size ∧
      ∀ (ob : Obj) v' w', w'.ownsRow w2.heap.size 40 1 v' (L + 1) (xs ++ [.int .u64 x]) → (w3.alloc ob).grownBy w' v.ownBlock → Rst ts w2 w' Q (j + 1) (L + 1) v' ∧ ∃ A c, v' = .slice A (L + 1) c := by
  obtain ⟨⟨o, rfl, hw, hcn, hown⟩, hbel⟩ := h
  obtain ⟨q, qs, e1, e2⟩ := hq
  rw [e1] at hcn
  have ho3 := Own.old hown hb
  have hs := Nat.le_trans hbel.size hb.size
  refine ⟨_, ho3, hs, fun ob v' w' h1 h2 => ?_⟩
  have h3 := Own.app (w := w3) h1
  refine ⟨⟨⟨o ++ [(x : Int)], by simp, words_app hw ⟨by omega, by omega⟩, ?_, h3⟩, ((hbel.trans (hb.mono hbel.size)).trans ((Below.refl _ _).alloc hs ob)).trans (grown_below h2 (by simp; omega) (fun k hk => (World.ownsRow.lt ho3 k hk).1))⟩, ?_⟩
  · rw [e2]
    exact Cn.word_ok hcn hp ha
  · obtain ⟨A, c, e⟩ := Own.form h3
    rw [List.length_append] at e
    exact ⟨A, c, e⟩
theorem trim_len (l : List UInt8) : (Lib.trimPrefix l [122]).length ≤ l.length := by
  unfold Lib.trimPrefix
  split
  · rw [List.length_drop]; omega
  · omega
set_option maxHeartbeats 32000000 in
theorem wr30 (t : ByteArray) (w : World) (hS : MaxL w) (hE : Errs w) (hT : Tabs w) :
    Calls Tryd.prog 30 #[.string t] w fun e w' => Wr t.data.toList w w' e := by
  by_cases hlen : t.size ≤ 10000
  rotate_left
  · have HN : Hid (∀ m, ¬ Canon t.data.toList m) := Lib.hid (fun m hm => by have := hm.1; rw [← Lib.size_eq] at this; omega)
    go_enter Tryd.func30, Tryd.ntmps30
    go_wp2
    go_ret2
    exact Wr.no HN.out (Below.refl _ _)
  obtain ⟨n, P, hn, hP, hsz, hcn, hc⟩ := split_cut t hlen w hS
  have hts : t.data.toList.length ≤ 10000 := by rw [← Lib.size_eq]; exact hlen
  have HC := Lib.hid hc; have HE := Lib.hid hE; have HT := Lib.hid hT; have HP := Lib.hid hP; have HSZ := Lib.hid hsz; have HCN := Lib.hid hcn; have HTS := Lib.hid hts
  obtain ⟨ts, hts2⟩ : ∃ ts, ts = t.data.toList := ⟨_, rfl⟩
  have HT2 := Lib.hid hts2
  rw [← hts2] at HCN HTS ⊢
  clear hc hE hT hP hsz hcn hS hts hts2
  go_enter Tryd.func30, Tryd.ntmps30
  go_wp2_with (go_at_call 69; refine HC.out.mono ?_; rintro e w2 ⟨rfl, hcut⟩; refine Hid.out ?_)
  refine Lib.hid ?_
  have HW := Lib.hid hcut
  clear hcut
  go_wp2
  go_loopw [5, 27] (fun vo vi wr => ∃ (j L c : Nat) (A : Option Addr), vo = .slice A L c ∧ vi = .int .i64 j ∧ j ≤ n ∧ L ≤ 2000 + j ∧ Hid (Rst ts w2 wr (P.map (·.data.toList)) j L (.slice A L c))) (fun _ vi _ => n - (intOf vi).toNat)
  case atStart => exact ⟨0, 0, 0, none, rfl, rfl, by omega, by omega, Lib.hid ⟨⟨[], rfl, (fun x hx => by cases hx), HCN.out, Own.nil _ _⟩, Below.refl _ _⟩⟩
  case round =>
    obtain ⟨j, L, c, A, rfl, rfl, hj, hL, HR⟩ := hrel
    have HB : Hid (Below w2.heap.size w2 wr) := HR.out.2
    by_cases hjn : j < n
    · have ec : wr.cell? ⟨w.heap.size, j, none⟩ = some (.string (P.getD j ByteArray.empty)) := by
        rw [← HW.out.cell j (by rw [HP.out]; omega)]
        exact World.cell?_of_block (HB.out.block _ (by rw [HW.out.size]; exact Nat.lt_succ_self _))
      have hps : (P.getD j ByteArray.empty).size ≤ 10000 := HSZ.out _ (by rw [getD_lt (by rw [HP.out]; omega)]; exact List.getElem_mem _)
      have HQ : Hid (∃ q qs, (P.map (·.data.toList)).drop j = (P.getD j ByteArray.empty).data.toList :: q :: qs ∧ (P.map (·.data.toList)).drop (j + 1) = q :: qs) := by
        have h1 : j < (P.map (·.data.toList)).length := by rw [List.length_map, HP.out]; omega
        have h2 : j + 1 < (P.map (·.data.toList)).length := by rw [List.length_map, HP.out]; omega
        refine Lib.hid ⟨_, _, ?_, drop_at [] h2⟩
        rw [drop_at [] h1, drop_at [] h2]
        congr 1
        rw [getD_lt h1, List.getElem_map, getD_lt (by simpa using h1)]
      generalize P.getD j ByteArray.empty = p at *
      by_cases hpre : Lib.hasPrefix p.data.toList [122] = true
      · obtain ⟨q, hq⟩ : ∃ q : ByteArray, q = ⟨(Lib.trimPrefix p.data.toList [122]).toArray⟩ := ⟨_, rfl⟩
        have hqs : q.size ≤ 1000000 := by
          have := trim_len p.data.toList
          rw [← Lib.size_eq] at this
          rw [hq]
          show (Lib.trimPrefix p.data.toList [122]).toArray.size ≤ 1000000
          rw [List.size_toArray]
          omega
        have hql : q.data.toList = Lib.trimPrefix p.data.toList [122] := by rw [hq]
        have C70 : Hid (Calls Tryd.prog 70 #[.string p, .string ⟨#[122]⟩] wr fun e w' => e = .returned (.tuple #[.string q, .bool true]) ∧ w' = wr) := by
          have := cut70 p wr
          rw [hpre, ← hq] at this
          exact this
        have C71 : Hid (Calls Tryd.prog 71 #[.string q] wr fun e w' => (∃ (n : Int) (ev : Value), e = .returned (.tuple #[.int .i64 n, ev]) ∧ AtE q.data.toList n ev) ∧ Below wr.heap.size wr w') :=
          Lib.hid (at71 q hqs wr ((HE.out.old HW.out.bel).old HB.out))
        have HPRE := Lib.hid hpre
        have HQL := Lib.hid hql
        clear hq hqs hql hpre hps
        go_wp2_with (go_at_call 70; refine C70.out.mono ?_; rintro e w' ⟨rfl, rfl⟩)
        go_wp2_with (go_at_call 71; refine C71.out.mono ?_; rintro e w3 ⟨⟨v, ev, rfl, ha⟩, hb⟩; refine Hid.out ?_)
        refine Lib.hid ?_
        have HB3 := Lib.hid hb
        have HBW : Hid (Below w.heap.size w w3) := Lib.hid (HW.out.bel.trans ((HB.out.trans (hb.mono HB.out.size)).mono HW.out.bel.size))
        clear hb
        rcases ha with ⟨rfl, ha⟩ | ⟨⟨tp, pp, rfl⟩, ha⟩
        · have HA := Lib.hid ha
          clear ha
          by_cases hv : 1 ≤ v ∧ v ≤ 1000
          · by_cases hL1 : L ≤ 1000
            · obtain ⟨m, rfl⟩ : ∃ m : Nat, v = m := ⟨v.toNat, by omega⟩
              obtain ⟨xs, ho, hs, hnext⟩ := Rst.zeros HR.out HB3.out HQ.out HPRE.out (by rw [← HQL.out]; exact HA.out)
              have HO := Lib.hid ho; have HS := Lib.hid hs; have HX := Lib.hid hnext
              clear ho hs hnext
              have hm0 : 0 < m := by omega
              have hLm : L + m ≤ 1000000 := by omega
              have hdec := decide_eq_true hv
              obtain ⟨i0, hi, hz0, hz1, hz2⟩ := info_parts infoWord
              go_wp2_with (go_at_call 56; refine (within56 _ _).mono ?_; rw [hdec]; rintro e w' ⟨rfl, rfl⟩; refine Hid.out ?_)
              refine Lib.hid ?_
              go_wp2_with (at_builtin; refine wpList_append_zeros_own rfl _ _ 43 3 rfl w2.heap.size 40 i0 Tryd.underlying43 Tryd.underlying3 hi hz0 hz1 hz2 _ L xs rfl HO.out m rfl hm0 hLm HS.out ?_)
              intro v' w' h1 h2
              obtain ⟨h3, A', c', rfl⟩ := HX.out v' w' h1 h2
              have HR' := Lib.hid h3
              clear h1 h2 h3
              go_wp2
              go_roundw
              case rel => exact ⟨j + 1, L + m, c', A', rfl, by go_num, by omega, by omega, HR'⟩
              case measure => simp [intOf]; omega
            · have HN : Hid (∀ m, ¬ Canon ts m) := Lib.hid (Rst.no_zero HR.out HQ.out HPRE.out (.inr (.inr (by omega))))
              have hdec := decide_eq_true hv
              go_wp2_with (go_at_call 56; refine (within56 _ _).mono ?_; rw [hdec]; rintro e w' ⟨rfl, rfl⟩)
              go_ret2
              exact Wr.no HN.out HBW.out
          · have HN : Hid (∀ m, ¬ Canon ts m) := Lib.hid (Rst.no_zero HR.out HQ.out HPRE.out (.inr (.inl ⟨v, by rw [← HQL.out]; exact HA.out, hv⟩)))
            have hdec := decide_eq_false hv
            clear hv
            go_wp2_with (go_at_call 56; refine (within56 _ _).mono ?_; rw [hdec]; rintro e w' ⟨rfl, rfl⟩)
            go_ret2
            exact Wr.no HN.out HBW.out
        · have HN : Hid (∀ m, ¬ Canon ts m) := Lib.hid (Rst.no_zero HR.out HQ.out HPRE.out (.inl (by rw [← HQL.out]; exact ha)))
          clear ha
          go_wp2
          go_ret2
          exact Wr.no HN.out HBW.out
      · have C70 : Hid (Calls Tryd.prog 70 #[.string p, .string ⟨#[122]⟩] wr fun e w' => (∃ q, e = .returned (.tuple #[.string q, .bool false])) ∧ w' = wr) := by
          rw [Bool.not_eq_true] at hpre
          have := cut70 p wr
          rw [hpre] at this
          exact this.mono fun e w' h => ⟨⟨_, h.1⟩, h.2⟩
        have C72 : Hid (Calls Tryd.prog 72 #[.string p, .int .i64 16, .int .i64 64] wr fun e w' => (∃ (n : Nat) (ev : Value), e = .returned (.tuple #[.int .u64 n, ev]) ∧ PuE p.data.toList n ev) ∧ Below wr.heap.size wr w') :=
          Lib.hid (pu72 p (by omega) wr ((HE.out.old HW.out.bel).old HB.out))
        have HPRE : Hid (Lib.hasPrefix p.data.toList [122] = false) := Lib.hid (by rw [Bool.not_eq_true] at hpre; exact hpre)
        clear hpre hps
        go_wp2_with (go_at_call 70; refine C70.out.mono ?_; rintro e w' ⟨⟨q, rfl⟩, rfl⟩)
        go_wp2_with (go_at_call 72; refine C72.out.mono ?_; rintro e w3 ⟨⟨x, ev, rfl, ha⟩, hb⟩; refine Hid.out ?_)
        refine Lib.hid ?_
        have HB3 := Lib.hid hb
        have HBW : Hid (Below w.heap.size w w3) := Lib.hid (HW.out.bel.trans ((HB.out.trans (hb.mono HB.out.size)).mono HW.out.bel.size))
        clear hb
        obtain ⟨hx64, ha⟩ := ha
        rcases ha with ⟨rfl, ha⟩ | ⟨⟨tp, pp, rfl⟩, ha⟩
        · obtain ⟨xs, ho, hs, hnext⟩ := Rst.word HR.out HB3.out HQ.out HPRE.out hx64 ha
          have HO := Lib.hid ho; have HS := Lib.hid hs; have HX := Lib.hid hnext
          clear ho hs hnext ha
          obtain ⟨i0, hi, hz0, hz1, hz2⟩ := info_parts infoWord
          go_wp2_with (at_builtin; refine wpList_append_own _ rfl _ _ 43 rfl w2.heap.size 40 i0 (.int .u64 0) 1 8 Tryd.underlying43 hi hz0 hz1 hz2 rfl (by decide) _ L xs rfl (World.ownsRow.alloc HO.out _) ⟨w3.heap.size, 0, none⟩ 1 1 [.int .u64 x] rfl rfl (cell_new1 _ _ _) (fun u hu => by simp at hu; subst hu; rfl) (by unfold maxLen; omega) (by omega) (by have := HS.out; simp; omega) ?_)
          intro v' w' h1 h2 _
          obtain ⟨h3, A', c', rfl⟩ := HX.out _ v' w' h1 h2
          have HR' := Lib.hid h3
          clear h1 h2 h3
          go_wp2
          go_roundw
          case rel => exact ⟨j + 1, L + 1, c', A', rfl, by go_num, by omega, by omega, HR'⟩
          case measure => simp [intOf]; omega
        · have HN : Hid (∀ m, ¬ Canon ts m) := Lib.hid (Rst.no_word HR.out HQ.out HPRE.out ha)
          clear ha
          go_wp2
          go_ret2
          exact Wr.no HN.out HBW.out
    · obtain rfl : j = n := by omega
      obtain ⟨⟨o, hoL, hw, hcn, hown⟩, hbel⟩ := HR.out
      have hall : ∀ m, Canon ts m → m = o := fun m hm => by
        have h1 : j < (P.map (·.data.toList)).length := by rw [List.length_map, HP.out]; omega
        have h2 : (P.map (·.data.toList)).length ≤ j + 1 := by rw [List.length_map, HP.out]; omega
        rw [drop_at [] h1, List.drop_eq_nil_of_le h2] at hcn
        exact Cn.last hcn hm
      have hrd := Reads.of HTS.out hw hall
      have HBW := Lib.hid (HW.out.bel.trans (hbel.mono HW.out.bel.size))
      have HOW := Lib.hid hown
      have hsz2 := HW.out.bel.size
      have hown0 : Own w.heap.size wr (.slice A L c) o := by
        refine ⟨hown.1, hown.2.imp id ?_⟩
        rintro ⟨g, cap, cur, h1, h2, h3⟩
        exact ⟨g, cap, cur, h1, Nat.le_trans hsz2 h2, h3⟩
      have HOW0 := Lib.hid hown0
      by_cases hwh : Whole o
      · have hu := impl_PlatCheck_eq N0 hw
        rw [if_pos hwh] at hu
        obtain ⟨cc, hcc⟩ : ∃ cc, cc = cfg (o.getD 0 0) := ⟨_, rfl⟩
        rw [← hcc] at hu
        have HPC := Lib.hid (pc64 hu (Own.u64 hown))
        have hlen2 := whole_len hwh
        have H65 : Hid (∀ w4, Below wr.heap.size wr w4 → Calls Tryd.prog 65 #[.slice A L c] w4 fun e w' => e = .returned (.string ⟨(wireL 0 o).toArray⟩) ∧ Below w4.heap.size w4 w') := by
          refine Lib.hid fun w4 h4 => ?_
          obtain ⟨A', c', e, h5, h6⟩ := Own.u64 (Own.old hown h4)
          rw [e]
          rcases h6 with h6 | ⟨B, off, rfl, hB, hc⟩
          · exact absurd (List.length_eq_zero_iff.1 h6) hlen2.2
          · exact wt65 o hw hlen2.1 wireL_split (fun l i h => drop_cons0 h) hx_len (fun n h => zsL_len h) w4 B off c' hB hc (((HT.out.old HW.out.bel).old HB.out).old h4)
        have ewt : wireT o = wireL 0 o := by unfold wireT; rw [if_pos hwh]
        by_cases hq : wireL 0 o = ts
        · have HRD := Lib.hid (hrd.1 ⟨hwh, by rw [ewt]; exact hq⟩)
          have et : (⟨(wireL 0 o).toArray⟩ : ByteArray) = t := by rw [hq, HT2.out]
          rw [et] at H65
          clear hu hcc hlen2 ewt hq et hrd hall hown hown0 hcn hw hwh hoL hbel hsz2
          go_wp2_with (go_at_call 64; refine HPC.out.mono ?_; rintro e w3 ⟨rfl, hb⟩; refine Hid.out ?_)
          refine Lib.hid ?_
          have HB3 := Lib.hid hb
          clear hb
          go_wp2_with (go_at_call 65; refine (H65.out _ (HB3.out.alloc HB3.out.size _)).mono ?_; rintro e w4 ⟨rfl, hb⟩)
          go_ret2
          have h4 := (HB3.out.alloc HB3.out.size (Obj.cells #[.int .i64 cc.1, .int .i64 cc.2.1, .int .i64 cc.2.2] 82)).trans (hb.mono (by have := HB3.out.size; simp; omega))
          exact ⟨⟨true, o, _, rfl, HRD.out, Own.old HOW0.out h4⟩, HBW.out.trans (h4.mono HBW.out.size)⟩
        · have HRD := Lib.hid (hrd.2 (fun g => hq (by rw [← ewt]; exact g.2)))
          obtain ⟨u, hu2⟩ : ∃ u : ByteArray, u = ⟨(wireL 0 o).toArray⟩ := ⟨_, rfl⟩
          have hne : (u.toList == t.toList) = false := by
            rw [beq_eq_false_iff_ne, ByteArray.toList_eq, ByteArray.toList_eq, hu2, ← HT2.out]
            exact hq
          rw [← hu2] at H65
          clear hu hcc hlen2 ewt hq hrd hall hown hown0 hcn hw hwh hoL hbel hsz2 hu2
          go_wp2_with (go_at_call 64; refine HPC.out.mono ?_; rintro e w3 ⟨rfl, hb⟩; refine Hid.out ?_)
          refine Lib.hid ?_
          have HB3 := Lib.hid hb
          clear hb
          go_wp2_with (go_at_call 65; refine (H65.out _ (HB3.out.alloc HB3.out.size _)).mono ?_; rintro e w4 ⟨rfl, hb⟩)
          go_ret2
          have h4 := (HB3.out.alloc HB3.out.size (Obj.cells #[.int .i64 cc.1, .int .i64 cc.2.1, .int .i64 cc.2.2] 82)).trans (hb.mono (by have := HB3.out.size; simp; omega))
          exact ⟨⟨false, [], _, rfl, HRD.out, Own.nil _ _⟩, HBW.out.trans (h4.mono HBW.out.size)⟩
      · have hu := impl_PlatCheck_eq N0 hw
        rw [if_neg hwh] at hu
        have HPC := Lib.hid (pc64 hu (Own.u64 hown))
        have HRD := Lib.hid (hrd.2 (fun g => hwh g.1))
        clear hu hrd hall hown hown0 hcn hw hwh hoL hbel hsz2
        go_wp2_with (go_at_call 64; refine HPC.out.mono ?_; rintro e w3 ⟨rfl, hb⟩; refine Hid.out ?_)
        refine Lib.hid ?_
        have HB3 := Lib.hid hb
        clear hb
        go_wp2
        go_ret2
        have h4 := HB3.out.alloc HB3.out.size (Obj.cells #[.int .i64 0, .int .i64 0, .int .i64 0] 82)
        exact ⟨⟨false, [], _, rfl, HRD.out, Own.nil _ _⟩, HBW.out.trans (h4.mono HBW.out.size)⟩
end Go.Proofs.YtdkinmgpclbedaaDoor.Pv
