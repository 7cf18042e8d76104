/- impl.wireText, walked by hand, and what reads words. -/
import Derived.Test.YtdkinmgpclbedaaDoorWrA
import Derived.Shelf.Strings.BuilderK
import Derived.Shelf.Strconv.Itoa3
namespace Go.Proofs.YtdkinmgpclbedaaDoor.Pv
open Go Go.Pv Go.Proofs Go.RowKit Go.Shelf
set_option linter.unusedVariables false
set_option linter.unusedSimpArgs false
set_option maxRecDepth 100000
shelf_lay Lays.n169 Nm 169 at Tryd as wb_lays169
shelf_lay LaysM.n171 Nm 171 at Tryd as wb_laysM171
theorem wb_extra169 : Builder.Extra Tryd.prog wb_lays169_ren where
  sizeBuilder := by kernel_rfl
  liesBuilder := by kernel_rfl
  t5 := Tryd.underlying5
  a5 := Tryd.isAgg5
  z5 := Tryd.sizeOf5
  v5 := Tryd.zeroValue5
  infoByte := by kernel_rfl
  cellsByte := by kernel_rfl
  sizeByte := by kernel_rfl
  neB5 := by decide
theorem wb_infoByte : (Tryd.prog.info? 5).map (fun i => (i.zero, i.size, i.bytes)) = some (some (.int .u8 0), 1, 1) := by kernel_rfl
theorem wb_sizeBuilder : (Tryd.prog.info? 59).map (·.size) = some 2 := by kernel_rfl
theorem wb_liesBuilder : liesAt Tryd.prog Tryd.prog.depth 59 (2 / Tryd.prog.cellsOf 59) 0 59 1 = true := by kernel_rfl
theorem wb_copyCheck_used (b : Nat) (w : World) (h0 : w.cell? ⟨b, 0, none⟩ = some (.pointer (some ⟨b, 0, none⟩))) :
    Calls Tryd.prog 78 #[.pointer (some ⟨b, 0, none⟩)] w fun e w' => e = .returned (.tuple #[]) ∧ w' = w := by
  obtain ⟨j, hj, _⟩ := Option.map_eq_some_iff.1 wb_sizeBuilder
  go_enter Tryd.func78, Tryd.ntmps78
  go_wp2
  rw [Lib.run_neq_ptr_same w _ Tryd.underlying57 hj]
  go_wp2
  go_end0
  exact ⟨rfl, rfl⟩
theorem wb_copyCheck_fresh (b : Nat) (w : World) (h0 : w.cell? ⟨b, 0, none⟩ = some (.pointer none)) (hsh : w.shape? b = some (59, 2)) (hfz : w.frozen? ⟨b, 0, none⟩ = false) :
    Calls Tryd.prog 78 #[.pointer (some ⟨b, 0, none⟩)] w fun e w' => e = .returned (.tuple #[]) ∧ w' = w.setCell ⟨b, 0, none⟩ (.pointer (some ⟨b, 0, none⟩)) := by
  obtain ⟨j, hj, hjs⟩ := Option.map_eq_some_iff.1 wb_sizeBuilder
  go_enter Tryd.func78, Tryd.ntmps78
  go_wp2
  rw [Lib.run_to_unsafe w ⟨b, 0, none⟩ Tryd.underlying57 Tryd.underlying113 hj (by rw [hjs]; decide) hsh (Nat.zero_lt_succ 1)]
  simp only [Result.andThen]
  rw [Oper.upon_value]
  go_wp2
  rw [run_callFunc_extern Tryd.func104 (by kernel_rfl) (by kernel_rfl) (by kernel_rfl) (e := Extern.AbiNoEscape.same) (by kernel_rfl)]
  rw [Lib.run_noEscape]
  simp only [Result.andThen]
  rw [Oper.upon_value]
  go_wp2
  rw [Lib.run_from_unsafe w ⟨b, 0, none⟩ Tryd.underlying113 Tryd.underlying57 hj hsh wb_liesBuilder]
  simp only [Result.andThen]
  rw [Oper.upon_value]
  go_wp2
  go_end0
  exact ⟨rfl, rfl⟩
theorem wb_copyCheck (B b : Nat) (bs : List Value) (w : World) (h : Lib.IsBuilderF 59 5 B b bs w) :
    Calls Tryd.prog 78 #[.pointer (some ⟨b, 0, none⟩)] w fun e w' => e = .returned (.tuple #[]) ∧ (Lib.BuilderAtF 59 5 B b (.pointer (some ⟨b, 0, none⟩)) bs w' ∧ Below B w w') := by
  rcases h with h | h
  · refine (wb_copyCheck_fresh b w h.cell0 h.shape h.frozen0).mono ?_
    rintro e w' ⟨rfl, rfl⟩
    exact ⟨rfl, h.used _, (Below.refl B w).setCell (p := ⟨b, 0, none⟩) h.1 _⟩
  · refine (wb_copyCheck_used b w h.cell0).mono ?_
    rintro e w' ⟨rfl, rfl⟩
    exact ⟨rfl, h, Below.refl B _⟩
set_option maxHeartbeats 2000000 in
theorem wb_writeByte (B b : Nat) (bs : List Value) (c : Int) (w : World) (h : Lib.IsBuilderF 59 5 B b bs w) (hlen : bs.length + 1 ≤ 140737488355328) (hBw : B ≤ w.heap.size) :
    Calls Tryd.prog 39 #[.pointer (some ⟨b, 0, none⟩), .int .u8 c] w fun e w' => e = .returned .nilIface ∧ (Lib.BuilderAtF 59 5 B b (.pointer (some ⟨b, 0, none⟩)) (bs ++ [.int .u8 c]) w' ∧ Below B w w') := by
  obtain ⟨i0, hi, hz0, hz1, hz2⟩ := info_parts wb_infoByte
  go_enter Tryd.func39, Tryd.ntmps39
  go_wp2_with (go_at_call 78; refine (wb_copyCheck B b bs _ h).mono ?_)
  rintro e w1 ⟨rfl, h1, hb1⟩
  obtain ⟨hB, v, hbk, hown, hne⟩ := h1
  have c0 : w1.cell? ⟨b, 0, none⟩ = some (.pointer (some ⟨b, 0, none⟩)) := by rw [Lib.cell_of_heap hbk]; rfl
  have c1 : w1.cell? ⟨b, 1, none⟩ = some v := by rw [Lib.cell_of_heap hbk]; rfl
  go_wp2_with (at_builtin; refine wpList_append_ownF _ rfl _ _ 32 rfl B 5 i0 (.int .u8 0) 1 1 Tryd.underlying32 hi hz0 hz1 hz2 rfl (by decide) _ _ _ rfl (hown.alloc _) ⟨w1.heap.size, 0, none⟩ 1 1 [.int .u8 c] rfl rfl ?c1 ?c2 ?c3 ?c4 ?c5 ?_)
  case c1 =>
    intro j u hj
    match j, hj with
    | 0, hj => simp at hj; subst hj; simp [Addr.add]
  case c2 => intro u hu; simp at hu; subst hu; rfl
  case c3 => unfold maxLen; omega
  case c4 => omega
  case c5 => have := hb1.size; simp; omega
  intro v' w2 hown' hgrow _
  have hlt : b < w1.heap.size := by
    rcases Nat.lt_or_ge b w1.heap.size with h' | h'
    · exact h'
    · simp [Array.getElem?_eq_none h'] at hbk
  have hb2 : w2.heap[b]? = some (.cells #[.pointer (some ⟨b, 0, none⟩), v] 59 (0, 0)) := by
    rw [hgrow.block b (by simp; omega) (fun e => hne e.symm), Lib.alloc_old w1 _ b hlt]
    exact hbk
  have d0 : w2.cell? ⟨b, 0, none⟩ = some (.pointer (some ⟨b, 0, none⟩)) := by rw [Lib.cell_of_heap hb2]; rfl
  have d1 : w2.cell? ⟨b, 1, none⟩ = some v := by rw [Lib.cell_of_heap hb2]; rfl
  have f1 : w2.frozen? ⟨b, 1, none⟩ = false := Lib.frozen_of_heap hb2 1
  obtain ⟨g, cap, rfl⟩ : ∃ g cap, v' = .slice (some ⟨g, 0, none⟩) (bs.length + 1) cap := by
    rcases hown'.2 with ⟨_, h0⟩ | ⟨g, cap, cur, fz, hv, _⟩
    · omega
    · exact ⟨g, cap, hv⟩
  go_wp2
  go_ret
  refine ⟨rfl, ?_, ?_⟩
  · exact Lib.BuilderAtF.put (T := 59) (e := 5) hB hb2 (bs' := bs ++ [.int .u8 c]) (by simpa using hown') (by decide)
  · exact ((hb1.alloc (by have := hb1.size; omega) _).grown hgrow (by have := hb1.size; simp; omega) (fun k hk => (hown.lt k hk).1)).setCell (p := ⟨b, 1, none⟩) hB _
set_option maxHeartbeats 2000000 in
theorem wb_writeString (B b : Nat) (bs : List Value) (s : ByteArray) (w : World) (h : Lib.IsBuilderF 59 5 B b bs w) (hlen : bs.length + s.size ≤ 140737488355328) (hBw : B ≤ w.heap.size) :
    Calls Tryd.prog 41 #[.pointer (some ⟨b, 0, none⟩), .string s] w fun e w' => e = .returned (.tuple #[.int .i64 s.size, .nilIface]) ∧ (Lib.BuilderAtF 59 5 B b (.pointer (some ⟨b, 0, none⟩)) (bs ++ Lib.strCells s) w' ∧ Below B w w') := by
  obtain ⟨i0, hi, hz0, hz1, hz2⟩ := info_parts wb_infoByte
  go_enter Tryd.func41, Tryd.ntmps41
  go_wp2_with (go_at_call 78; refine (wb_copyCheck B b bs _ h).mono ?_)
  rintro e w1 ⟨rfl, h1, hb1⟩
  obtain ⟨hB, v, hbk, hown, hne⟩ := h1
  have c0 : w1.cell? ⟨b, 0, none⟩ = some (.pointer (some ⟨b, 0, none⟩)) := by rw [Lib.cell_of_heap hbk]; rfl
  have c1 : w1.cell? ⟨b, 1, none⟩ = some v := by rw [Lib.cell_of_heap hbk]; rfl
  go_wp2_with (at_builtin; refine Lib.wpList_append_own_stringF _ rfl _ _ 32 9 rfl B 5 i0 Tryd.underlying32 Tryd.underlying9 hi hz0 hz1 hz2 _ _ _ rfl hown s rfl ?c3 ?c4 ?c5 ?_)
  case c3 => unfold maxLen; omega
  case c4 => omega
  case c5 => have := hb1.size; omega
  intro v' w2 hown' hgrow _
  have hlt : b < w1.heap.size := by
    rcases Nat.lt_or_ge b w1.heap.size with h' | h'
    · exact h'
    · simp [Array.getElem?_eq_none h'] at hbk
  have hb2 : w2.heap[b]? = some (.cells #[.pointer (some ⟨b, 0, none⟩), v] 59 (0, 0)) := by
    rw [hgrow.block b hlt (fun e => hne e.symm)]
    exact hbk
  have d0 : w2.cell? ⟨b, 0, none⟩ = some (.pointer (some ⟨b, 0, none⟩)) := by rw [Lib.cell_of_heap hb2]; rfl
  have d1 : w2.cell? ⟨b, 1, none⟩ = some v := by rw [Lib.cell_of_heap hb2]; rfl
  have f1 : w2.frozen? ⟨b, 1, none⟩ = false := Lib.frozen_of_heap hb2 1
  obtain ⟨ao, n', cap, rfl⟩ : ∃ ao n' cap, v' = .slice ao n' cap := by
    rcases hown'.2 with ⟨hv, _⟩ | ⟨g, cap, cur, fz, hv, _⟩
    · exact ⟨_, _, _, hv⟩
    · exact ⟨_, _, _, hv⟩
  go_wp2
  go_ret2
  refine ⟨rfl, ?_, ?_⟩
  · exact Lib.BuilderAtF.put (T := 59) (e := 5) hB hb2 (bs' := bs ++ Lib.strCells s) (by simpa [Lib.strCells_length] using hown') (by decide)
  · exact (hb1.grown hgrow (by have := hb1.size; omega) (fun k hk => (hown.lt k hk).1)).setCell (p := ⟨b, 1, none⟩) hB _
theorem wb_bWriteByte (B b : Nat) (l : List UInt8) (c : UInt8) (w : World) (h : Lib.IsBuilderF 59 5 B b (Lib.byteCells l) w) (hlen : l.length + 1 ≤ 140737488355328) (hBw : B ≤ w.heap.size) :
    Calls Tryd.prog 39 #[.pointer (some ⟨b, 0, none⟩), .int .u8 c.toNat] w fun e w' => e = .returned .nilIface ∧ Lib.IsBuilderF 59 5 B b (Lib.byteCells (l ++ [c])) w' ∧ Below B w w' :=
  (wb_writeByte B b _ c.toNat w h (by rw [Lib.byteCells_length]; exact hlen) hBw).mono fun e w' ⟨h1, h2, h3⟩ => ⟨h1, .inr (by rw [Lib.byteCells_append]; exact h2), h3⟩
theorem wb_bWriteString (B b : Nat) (l : List UInt8) (s : ByteArray) (w : World) (h : Lib.IsBuilderF 59 5 B b (Lib.byteCells l) w) (hlen : l.length + s.size ≤ 140737488355328) (hBw : B ≤ w.heap.size) :
    Calls Tryd.prog 41 #[.pointer (some ⟨b, 0, none⟩), .string s] w fun e w' => (∃ v, e = .returned v) ∧ Lib.IsBuilderF 59 5 B b (Lib.byteCells (l ++ s.data.toList)) w' ∧ Below B w w' :=
  (wb_writeString B b _ s w h (by rw [Lib.byteCells_length]; exact hlen) hBw).mono fun e w' ⟨h1, h2, h3⟩ => ⟨⟨_, h1⟩, .inr (by rw [Lib.byteCells_append]; exact h2), h3⟩
theorem wb_bString (B b : Nat) (l : List UInt8) (w : World) (h : Lib.IsBuilderF 59 5 B b (Lib.byteCells l) w) (hBw : B ≤ w.heap.size) :
    Calls Tryd.prog 43 #[.pointer (some ⟨b, 0, none⟩)] w fun e w' => e = .returned (.string ⟨l.toArray⟩) ∧ Below B w w' :=
  (Any.Builder_String_any_k wb_lays169 wb_extra169 B b l w h hBw).mono fun e w' ⟨h1, h2, h3, _⟩ => ⟨h1, h3⟩
/-- A builder stays one while every old block stands. -/
theorem wb_builder_old {T e : TypeId} {B b : Nat} {bs : List Value} {w w' : World} (h : Lib.IsBuilderF T e B b bs w) (hb : Below w.heap.size w w') : Lib.IsBuilderF T e B b bs w' := by
  have main : ∀ p, Lib.BuilderAtF T e B b p bs w → Lib.BuilderAtF T e B b p bs w' := by
    rintro p ⟨hB, v, h1, h2, h3⟩
    have hlt : ∀ k o, w.heap[k]? = some o → w'.heap[k]? = some o := fun k o hk => by rw [hb.block k (Array.getElem?_eq_some_iff.1 hk).1]; exact hk
    exact ⟨hB, v, hlt _ _ h1, h2.kept (row := none) ⟨hb.os, hb.tape, hb.output, hb.size, fun k hk _ => hb.block k hk⟩ (by
      rcases h2.2 with ⟨rfl, _⟩ | ⟨g, cap, cur, fz, rfl, _⟩
      · exact .inl rfl
      · exact .inr (by simp [Value.ownBlock])), h3⟩
  exact h.imp (main _) (main _)
theorem itoaN (n : Nat) (hn : n ≤ 1000000) (w : World) (hP : Lib.TabIs Tryd.prog w "internal/strconv.uint64pow10" .u64 Lib.pow10Tab) :
    Calls Tryd.prog 42 #[.int .i64 n] w fun e w' => e = .returned (.string ⟨(Lib.decDigits n).toArray⟩) ∧ Below w.heap.size w w' := by
  refine (Any.strconv_Itoa wb_laysM171 (n : Int) (by omega) (by omega) w hP).mono ?_
  rintro e w' ⟨rfl, k, os, rfl⟩
  exact ⟨by rw [Lib.itoa_nonneg], rfl, rfl, rfl, by show w.heap.size ≤ (w.heap ++ os).size; rw [Array.size_append]; omega, fun j hj => by show (w.heap ++ os)[j]? = w.heap[j]?; rw [Array.getElem?_append_left hj]⟩
theorem TabIs.old {name : String} {k : IntKind} {zs : List Int} {w w' : World} (h : Lib.TabIs Tryd.prog w name k zs) (hb : Below w.heap.size w w') : Lib.TabIs Tryd.prog w' name k zs := by
  unfold Lib.TabIs World.var? at *
  cases hg : Tryd.prog.globalNamed name with
  | none => simp [hg] at h
  | some g =>
    simp only [hg, Option.bind_some] at h ⊢
    have hlt : g < w.heap.size := by
      rcases Nat.lt_or_ge g w.heap.size with h' | h'
      · exact h'
      · rw [Array.getElem?_eq_none h'] at h; simp at h
    rw [hb.block g hlt]
    exact h
/-- The tables that the library's text reads. -/
structure Tabs (w : World) : Prop where
  t5 : TabAt 5 Lib.deBruijn64tab w
  h5 : 5 < w.heap.size
  p10 : Lib.TabIs Tryd.prog w "internal/strconv.uint64pow10" .u64 Lib.pow10Tab
theorem Tabs.old {w w' : World} (h : Tabs w) (hb : Below w.heap.size w w') : Tabs w' := ⟨TabAt.old h.t5 h.h5 hb, Nat.lt_of_lt_of_le h.h5 hb.size, TabIs.old h.p10 hb⟩
/-- The builder, as a round finds it: block n; what lies below it is as it was. -/
def Bst (w1 wr : World) (s : List UInt8) : Prop := Lib.IsBuilderF 59 5 w1.heap.size w1.heap.size (Lib.byteCells s) wr ∧ Below w1.heap.size w1 wr
theorem Bst.ws {w1 wr : World} {s : List UInt8} (h : Hid (Bst w1 wr s)) (c : ByteArray) (hl : Hid (s.length ≤ 2199023255552)) (hl2 : Hid (c.size ≤ 100)) :
    Calls Tryd.prog 41 #[.pointer (some ⟨w1.heap.size, 0, none⟩), .string c] wr fun e w' => (∃ v, e = .returned v) ∧ Hid (Bst w1 w' (s ++ c.data.toList)) := by
  have hl := hl.out
  have hl2 := hl2.out
  refine (wb_bWriteString _ _ s c wr h.out.1 (by omega) h.out.2.size).mono ?_
  rintro e w' ⟨h1, h2, h3⟩
  exact ⟨h1, h2, h.out.2.trans h3⟩
theorem Bst.old {w1 wr w' : World} {s : List UInt8} (h : Hid (Bst w1 wr s)) (hb : Below wr.heap.size wr w') : Hid (Bst w1 w' s) :=
  ⟨wb_builder_old h.out.1 hb, h.out.2.trans (hb.mono h.out.2.size)⟩
theorem Bst.str {w1 wr : World} {s : List UInt8} (h : Hid (Bst w1 wr s)) :
    Calls Tryd.prog 43 #[.pointer (some ⟨w1.heap.size, 0, none⟩)] wr fun e w' => e = .returned (.string ⟨s.toArray⟩) ∧ Hid (Below w1.heap.size w1 w') := by
  refine (wb_bString _ _ s wr h.out.1 h.out.2.size).mono ?_
  rintro e w' ⟨h1, h3⟩
  exact ⟨h1, h.out.2.trans h3⟩
theorem wt65 (l : List Int) (hw : Words l) (h300 : l.length ≤ 300) (hsp : ∀ m r, (r = [] ∨ r.getD 0 0 ≠ 0) → wireL m r = zsL m ++ wireL 0 r) (hdr : ∀ (l : List Int) i, i < l.length → l.drop i = l.getD i 0 :: l.drop (i + 1)) (hhx : ∀ d x, x < 16 ^ d → (hx x).length ≤ d + 1) (hzl : ∀ n, n < 10000000 → (zsL n).length ≤ 10)
    (w : World) (B off c : Nat) (hB : B < w.heap.size) (hc : ∀ i, i < l.length → w.cell? ⟨B, off + i, none⟩ = some (.int .u64 (l.getD i 0))) (hT : Tabs w) :
    Calls Tryd.prog 65 #[.slice (some ⟨B, off, none⟩) l.length c] w fun e w' => e = .returned (.string ⟨(wireL 0 l).toArray⟩) ∧ Below w.heap.size w w' := by
  have HSP := Lib.hid hsp; have HDR := Lib.hid hdr; have HHX := Lib.hid hhx; have HZL := Lib.hid hzl; have HT := Lib.hid hT; have HC := Lib.hid hc; have HW := Lib.hid hw
  clear hsp hdr hhx hzl hT hc hw
  go_enter Tryd.func65, Tryd.ntmps65
  go_wp2
  go_loopw [4] (fun i wr => ∃ (j : Nat) (s : List UInt8), i = .int .i64 j ∧ j ≤ l.length ∧ Hid (s.length ≤ 100 * j) ∧ Hid (s ++ wireL 0 (l.drop j) = wireL 0 l) ∧ Hid (Bst w wr s)) (fun i _ => l.length - (intOf i).toNat)
  case atStart => exact ⟨0, [], rfl, by omega, Lib.hid (by simp), Lib.hid (by simp), Lib.hid ⟨Lib.IsBuilderF.of (Lib.fresh_isBuilder 59 5 w), (Below.refl _ w).alloc (Nat.le_refl _) _⟩⟩
  case round =>
    obtain ⟨j, s, rfl, hjl, HS, HL, HI⟩ := hrel
    by_cases hj : j < l.length
    · have ec : wr.cell? ⟨B, off + j, none⟩ = some (.int .u64 (l.getD j 0)) := by
        rw [← HC.out j hj]
        exact World.cell?_of_block (HI.out.2.block B hB)
      obtain ⟨n, hn⟩ : ∃ n : Nat, l.getD j 0 = n := ⟨(l.getD j 0).toNat, by have := (HW.out.at j).1; omega⟩
      have hn64 : n < 18446744073709551616 := by have := (HW.out.at j).2; omega
      rw [hn] at ec
      have HN := Lib.hid hn
      clear hn
      by_cases hz : n = 0
      · subst hz
        have HL1 : Hid (s ++ wireL 0 (l.drop (j + 0)) = wireL 0 l) := HL
        go_wp2
        go_loopw [4, 5] (fun i q wr2 => ∃ m : Nat, i = .int .i64 ((j + m : Nat) : Int) ∧ q = .int .i64 (m : Int) ∧ j + m ≤ l.length ∧ wr2 = wr ∧ Hid (s ++ wireL m (l.drop (j + m)) = wireL 0 l)) (fun i _ _ => l.length - (intOf i).toNat)
        case atStart => exact ⟨0, by simp, by simp, by omega, by simp, HL1⟩
        case round =>
          obtain ⟨m, rfl, rfl, hjm, rfl, HM⟩ := hrel
          by_cases hq : j + m < l.length
          · have eq : wr.cell? ⟨B, off + (j + m), none⟩ = some (.int .u64 (l.getD (j + m) 0)) := by
              rw [← HC.out (j + m) hq]
              exact World.cell?_of_block (HI.out.2.block B hB)
            by_cases hx0 : l.getD (j + m) 0 = 0
            · rw [hx0] at eq
              have HX0 := Lib.hid hx0
              clear hx0
              go_wp2
              go_roundw
              case rel => exact ⟨m + 1, by go_num, by go_num, by omega, by trivial, Lib.hid (by
                have h := HM.out
                rw [HDR.out l (j + m) hq, wireL, if_pos HX0.out] at h
                exact h)⟩
              case measure => simp [intOf]; omega
            · obtain ⟨n2, hn2⟩ : ∃ n2 : Nat, l.getD (j + m) 0 = n2 := ⟨(l.getD (j + m) 0).toNat, by have := (HW.out.at (j + m)).1; omega⟩
              have hn0 : n2 ≠ 0 := by rintro rfl; exact hx0 hn2
              rw [hn2] at eq
              have HM2 : Hid (s ++ (zsL m ++ wireL 0 (l.drop (j + m))) = wireL 0 l) := by
                rw [← HSP.out m (l.drop (j + m)) (.inr (by rw [HDR.out l (j + m) hq]; exact hx0))]
                exact HM
              have hm0 : m ≠ 0 := by
                rintro rfl
                exact hx0 HN.out
              clear hx0 hn2
              have hT2 := HT.out.old (HI.out.2)
              have hd : (zsL m).length ≤ 10 := HZL.out m (by omega)
              have ez : zsL m = 122 :: (Lib.decDigits m ++ [32]) := if_neg hm0
              have HS2 : Hid (s.length ≤ 2199023255552) := by have := HS.out; show _ ≤ _; omega
              have HE : Hid ((ByteArray.mk #[122] ++ ByteArray.mk (Lib.decDigits m).toArray ++ ByteArray.mk #[32]).data.toList = zsL m) := by rw [ez]; show _ = _; simp [ByteArray.data_append]
              have HE2 : Hid ((ByteArray.mk #[122] ++ ByteArray.mk (Lib.decDigits m).toArray ++ ByteArray.mk #[32]).size ≤ 100) := by
                have h2 := congrArg List.length HE.out
                rw [Array.length_toList] at h2
                show (ByteArray.mk #[122] ++ ByteArray.mk (Lib.decDigits m).toArray ++ ByteArray.mk #[32]).data.size ≤ 100
                omega
              have HP := Lib.hid hT2.p10
              have hdl : (Lib.decDigits m).length ≤ 10 := by rw [ez, List.length_cons, List.length_append] at hd; omega
              have HZ := Lib.hid hd
              clear hT2 hd ez
              go_wp2_with (go_at_call 42; refine (itoaN m (by omega) _ HP.out).mono ?_; rintro e w2 ⟨rfl, hb2⟩; refine Hid.out ?_)
              refine Lib.hid ?_
              have HI2 := Bst.old HI hb2
              clear hb2
              go_wp2_with (go_at_call 41; refine (Bst.ws HI2 _ HS2 HE2).mono ?_; rintro e w3 ⟨⟨v3, rfl⟩, HI3⟩)
              go_roundw
              case rel => exact ⟨j + m, _, by go_num, by omega, Lib.hid (by
                  have h1 := HZ.out
                  have h2 := HS.out
                  rw [HE.out, List.length_append]
                  omega), Lib.hid (by rw [HE.out, List.append_assoc]; exact HM2.out), HI3⟩
              case measure => simp [intOf]; omega
          · have HM2 : Hid (s ++ (zsL m ++ wireL 0 (l.drop (j + m))) = wireL 0 l) := by
              rw [← HSP.out m (l.drop (j + m)) (.inl (List.drop_eq_nil_of_le (by omega)))]
              exact HM
            have hm0 : m ≠ 0 := by rintro rfl; omega
            have hT2 := HT.out.old (HI.out.2)
            have hd : (zsL m).length ≤ 10 := HZL.out m (by omega)
            have ez : zsL m = 122 :: (Lib.decDigits m ++ [32]) := if_neg hm0
            have HS2 : Hid (s.length ≤ 2199023255552) := by have := HS.out; show _ ≤ _; omega
            have HE : Hid ((ByteArray.mk #[122] ++ ByteArray.mk (Lib.decDigits m).toArray ++ ByteArray.mk #[32]).data.toList = zsL m) := by rw [ez]; show _ = _; simp [ByteArray.data_append]
            have HE2 : Hid ((ByteArray.mk #[122] ++ ByteArray.mk (Lib.decDigits m).toArray ++ ByteArray.mk #[32]).size ≤ 100) := by
              have h2 := congrArg List.length HE.out
              rw [Array.length_toList] at h2
              show (ByteArray.mk #[122] ++ ByteArray.mk (Lib.decDigits m).toArray ++ ByteArray.mk #[32]).data.size ≤ 100
              omega
            have HP := Lib.hid hT2.p10
            have hdl : (Lib.decDigits m).length ≤ 10 := by rw [ez, List.length_cons, List.length_append] at hd; omega
            have HZ := Lib.hid hd
            clear hT2 hd ez
            go_wp2_with (go_at_call 42; refine (itoaN m (by omega) _ HP.out).mono ?_; rintro e w2 ⟨rfl, hb2⟩; refine Hid.out ?_)
            refine Lib.hid ?_
            have HI2 := Bst.old HI hb2
            clear hb2
            go_wp2_with (go_at_call 41; refine (Bst.ws HI2 _ HS2 HE2).mono ?_; rintro e w3 ⟨⟨v3, rfl⟩, HI3⟩)
            go_roundw
            case rel => exact ⟨j + m, _, by go_num, by omega, Lib.hid (by
                have h1 := HZ.out
                have h2 := HS.out
                rw [HE.out, List.length_append]
                omega), Lib.hid (by rw [HE.out, List.append_assoc]; exact HM2.out), HI3⟩
            case measure => simp [intOf]; omega
      · have hT2 := HT.out.old (HI.out.2)
        go_wp2_with (go_at_call 24; refine (ww24 n hn64 _ hT2.t5 hT2.h5).mono ?_; rintro e w2 ⟨rfl, hb2⟩; refine Hid.out ?_)
        refine Lib.hid ?_
        have HI2 := Bst.old HI hb2
        clear hb2 hT2
        have HS2 : Hid (s.length ≤ 2199023255552) := by have := HS.out; show _ ≤ _; omega
        have HE : Hid ((ByteArray.mk (hx n).toArray ++ ByteArray.mk #[32]).data.toList = hx n ++ [32]) := by show _ = _; simp [ByteArray.data_append]
        have HE2 : Hid ((ByteArray.mk (hx n).toArray ++ ByteArray.mk #[32]).size ≤ 100) := by
          have h1 := HHX.out 16 n hn64
          have h2 := congrArg List.length HE.out
          rw [List.length_append, List.length_cons, List.length_nil, Array.length_toList] at h2
          show _ ≤ _
          show (ByteArray.mk (hx n).toArray ++ ByteArray.mk #[32]).data.size ≤ 100
          omega
        have hhl : (hx n).length ≤ 17 := HHX.out 16 n hn64
        go_wp2_with (go_at_call 41; refine (Bst.ws HI2 _ HS2 HE2).mono ?_; rintro e w3 ⟨⟨v3, rfl⟩, HI3⟩)
        go_roundw
        case rel => exact ⟨j + 1, _, by go_num, by omega, Lib.hid (by
            have h1 := HHX.out 16 n hn64
            have h2 := HS.out
            rw [HE.out, List.length_append, List.length_append, List.length_cons, List.length_nil]
            omega), Lib.hid (by
            have h := HL.out
            rw [HDR.out l j hj, HN.out, wireL, if_neg (by omega), Int.toNat_natCast] at h
            rw [HE.out, ← h]
            simp [zsL]), HI3⟩
        case measure => simp [intOf]; omega
    · obtain rfl : j = l.length := by omega
      have HE := HL.out
      rw [List.drop_length] at HE
      have hsl := HS.out
      go_wp2_with (go_at_call 43; refine (Bst.str HI).mono ?_; rintro e w2 ⟨rfl, hb2⟩)
      go_ret
      refine ⟨?_, hb2.out⟩
      rw [← HE]
      congr 2
/-- A slice of words, and what lies in it. -/
def U64At (w : World) (v : Value) (l : List Int) : Prop := ∃ A c, v = .slice A l.length c ∧ l.length ≤ c ∧ (l.length = 0 ∨ ∃ B off, A = some ⟨B, off, none⟩ ∧ B < w.heap.size ∧ ∀ i, i < l.length → w.cell? ⟨B, off + i, none⟩ = some (.int .u64 (l.getD i 0)))
theorem U64At.rep {w : World} {v : Value} {l : List Int} {φ : Nat → Value} (h : U64At w v l) : RepV0 w (fun _ => False) (fun b => b < w.heap.size) φ (.sl .bor (.int .u64)) l v := by
  obtain ⟨A, c, rfl, h1, h2⟩ := h
  refine ⟨A, c, rfl, h1, h2.imp id ?_⟩
  rintro ⟨B, off, rfl, hB, hc⟩
  refine ⟨B, off, rfl, .inr hB, fun i x hi => ⟨[.int .u64 x], rfl, fun j y hj => ?_⟩⟩
  obtain ⟨hlt, e⟩ := List.getElem?_eq_some_iff.1 hi
  have hj0 : j < 1 := (List.getElem?_eq_some_iff.1 hj).1
  obtain rfl : j = 0 := by omega
  rw [List.getElem?_cons_zero] at hj
  injection hj with hj
  subst hj
  have := hc i hlt
  rw [show l.getD i 0 = x by simp [List.getD, hi]] at this
  rw [show Ty.sz (.int .u64) = 1 from rfl, Nat.mul_one, Nat.add_zero]
  exact this
theorem U64At.old {w w' : World} {v : Value} {l : List Int} (h : U64At w v l) (hb : Below w.heap.size w w') : U64At w' v l := by
  obtain ⟨A, c, rfl, h1, h2⟩ := h
  refine ⟨A, c, rfl, h1, h2.imp id ?_⟩
  rintro ⟨B, off, rfl, hB, hc⟩
  exact ⟨B, off, rfl, Nat.lt_of_lt_of_le hB hb.size, fun i hi => by rw [← hc i hi]; exact World.cell?_of_block (hb.block B hB)⟩
abbrev zF : Nat → Prop := fun _ => False
abbrev zφ : Nat → Value := fun _ => .slice none 0 0
theorem pc64 {l : List Int} {c : Int × Int × Int} {b : Bool} (hu : impl_PlatCheck N0 l = some ((c, b), ())) {w : World} {v : Value} (hv : U64At w v l) :
    Calls Tryd.prog 64 #[v] w fun e w' => (e = .returned (.tuple #[.agg #[.int .i64 c.1, .int .i64 c.2.1, .int .i64 c.2.2], .bool b])) ∧ Below w.heap.size w w' := by
  refine (quiet_calls (fz := zF) (bz := fun b => b < w.heap.size) (φ := zφ) (ok_impl_PlatCheck N0) rfl (x := l) (y := ()) hu (args := [v]) ⟨v, rfl, hv.rep⟩ (fun _ h => h.elim) (fun _ h => h) (fun _ => rfl)).mono ?_
  rintro e w' ⟨⟨q, rfl, fz', φ', h1⟩, h2⟩
  refine ⟨?_, h2⟩
  obtain ⟨vs, rfl, v1, r1, rfl, g1, v2, rfl, g2⟩ := h1
  obtain ⟨cs, rfl, d0, r0, rfl, k0, d1, d2, rfl, k1, k2⟩ := g1
  have k0 : d0 = [.int .i64 c.1] := k0
  have k1 : d1 = [.int .i64 c.2.1] := k1
  have k2 : d2 = [.int .i64 c.2.2] := k2
  have g2 : v2 = .bool b := by
    have g2 : [v2] = [.bool b] := g2
    simpa using g2
  rw [k0, k1, k2, g2]
  rfl
theorem eq28 {l : List Int} (hu : laws_eqUint64S N0 l l = some (true, ())) {w : World} {v v2 : Value} (hv : U64At w v l) (hv2 : U64At w v2 l) :
    Calls Tryd.prog 28 #[v, v2] w fun e w' => e = .returned (.bool true) ∧ Below w.heap.size w w' := by
  refine (quiet_calls (fz := zF) (bz := fun b => b < w.heap.size) (φ := zφ) (ok_laws_eqUint64S N0) rfl (x := (l, l)) (y := ()) hu (args := [v, v2]) ⟨v, _, rfl, hv.rep, v2, rfl, hv2.rep⟩ (fun _ h => h.elim) (fun _ h => h) (fun _ => rfl)).mono ?_
  rintro e w' ⟨⟨q, rfl, fz', φ', h1⟩, h2⟩
  have h1 : [q] = [.bool true] := h1
  have h1 : q = .bool true := by simpa using h1
  exact ⟨by rw [h1], h2⟩
theorem pow_tab {l : List (String × DataW Unit)} {W : World} (h : laidMetH Tryd.prog l W) (hp : (l.all fun x => x.2.handleName?.isNone) = true) (hm : ("internal/strconv.uint64pow10", Lib.tabData .u64 Lib.pow10Tab) ∈ l) : Lib.TabIs Tryd.prog W "internal/strconv.uint64pow10" .u64 Lib.pow10Tab := by
  rw [MakeChecks.laidMetH_plain _ _ _ hp] at h
  obtain ⟨g, t, cs, fuel, p, hg, ht, hv, hd⟩ := Lib.laidMet.reads h hm
  have e : cs.toList = Lib.pow10Tab.map fun z => Value.int .u64 z := by
    obtain rfl := Option.some.inj ((show Tryd.prog.globalNamed "internal/strconv.uint64pow10" = some 0 by kernel_rfl).symm.trans hg)
    obtain rfl := Option.some.inj ((show (Tryd.prog.globals[0]?).map (·.type) = some 141 by kernel_rfl).symm.trans ht)
    exact Lib.cells_of_tab Tryd.underlying141 Tryd.underlying40 (by kernel_rfl) (by kernel_rfl) hd
  unfold Lib.TabIs
  rw [hv, ← e]
end Go.Proofs.YtdkinmgpclbedaaDoor.Pv
