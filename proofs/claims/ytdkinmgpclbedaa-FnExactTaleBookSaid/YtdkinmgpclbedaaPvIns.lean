/- Pv: slices.Insert of integers, by the library's proved summaries. -/
import Derived.Test.YtdkinmgpclbedaaPvKit
import Derived.Test.YtdkinmgpclbedaaPvCopy
import Derived.Shelf.Spec.SlicesInsert
import Derived.Shelf.Spec.SlicesInsertGrow
set_option linter.unusedVariables false
set_option linter.unusedSimpArgs false
namespace Go.Pv
open Go Go.RowKit Go.Shelf Go.Proofs

abbrev tInt : Ty := .int .i64
abbrev eIns (f : Nat) : Ent := { f := f, par := .pair (.sl (.own 0) tInt) (.pair tInt (.sl (.own 1) tInt)), sto := [(0, .arr tInt), (1, .arr tInt)], res := .sl (.own 32) tInt, osto := [(32, .arr tInt)], fn := fun x y => insF x.2.1 y.1 y.2 }

theorem splice_at {cur : Array Value} {o : Nat} {vs : List Value} (hf : o + vs.length ≤ cur.size) (q : Nat) :
    (cur.toList.take o ++ vs ++ cur.toList.drop (o + vs.length)).toArray[q]? = if o ≤ q ∧ q < o + vs.length then vs[q - o]? else cur[q]? := by
  rw [List.getElem?_toArray]
  have hL : cur.toList.length = cur.size := Array.length_toList
  by_cases c : o ≤ q ∧ q < o + vs.length
  · rw [if_pos c, row_in (by omega) c.1 c.2]
  · rw [if_neg c, row_out (by omega) (by omega), Array.getElem?_toList]
theorem splice_size {cur : Array Value} {o : Nat} {vs : List Value} (hf : o + vs.length ≤ cur.size) : (cur.toList.take o ++ vs ++ cur.toList.drop (o + vs.length)).toArray.size = cur.size := by
  have hL : cur.toList.length = cur.size := Array.length_toList
  simp only [List.size_toArray, List.length_append, List.length_take, List.length_drop]; omega
theorem setCells_row (b : Nat) (t : TypeId) : ∀ (vs : List Value) (o : Nat) (w : World) (cur : Array Value), w.heap[b]? = some (.cells cur t (0, 0)) → o + vs.length ≤ cur.size →
    w.setCells b o vs = w.setRow b (cur.toList.take o ++ vs ++ cur.toList.drop (o + vs.length)).toArray
  | [], o, w, cur, hg, _ => by
    simp only [World.setCells, List.append_nil, List.length_nil, Nat.add_zero, List.take_append_drop, Array.toArray_toList]
    exact (setRow_self w b cur t (0, 0) hg).symm
  | v :: r, o, w, cur, hg, hl => by
    have hl' : o + (r.length + 1) ≤ cur.size := hl
    rw [World.setCells, setCell_eq_setRow w b o cur t (0, 0) v hg, setCells_row b t r (o + 1) _ (cur.setIfInBounds o v) (setRow_heap w b cur _ t _ hg) (by simp; omega), setRow_setRow]
    congr 2
    have hL : cur.toList.length = cur.size := Array.length_toList
    rw [Array.toList_setIfInBounds, list_seg_step _ _ _ _ (by omega)]
    rfl
theorem w_os_setRow (w : World) (g : Nat) (a : Array Value) : (w.setRow g a).os = w.os ∧ (w.setRow g a).tape = w.tape ∧ (w.setRow g a).output = w.output := ⟨rfl, rfl, rfl⟩

section
variable {P : Program} {ρ : Ren}

/-- What the caller's two rows hold. -/
theorem arr_int {w : World} {fz bz : Nat → Prop} {h : Value} {l : List Int} (ha : ArrAt w fz bz h tInt l) :
    ∃ A c, h = .slice A l.length c ∧ (l.length ≤ c ∧ c ≤ 9223372036854775807) ∧ (c = 0 ∨ ∃ B off ety ar, A = some ⟨B, off, none⟩ ∧ w.heap[B]? = some (.cells ar ety (0, 0)) ∧ off + c ≤ ar.size ∧ ∀ q x, l[q]? = some x → ar[off + q]? = some (.int .i64 x)) := by
  obtain ⟨A, c, h1, h2, h3⟩ := ha
  refine ⟨A, c, h1, h2, h3.imp id ?_⟩
  rintro ⟨B, off, ety, ar, g1, g2, g3, g4⟩
  have e1 : Ty.sz tInt = 1 := rfl
  rw [e1, Nat.mul_one] at g3
  refine ⟨B, off, ety, ar, g1, g2, g3, fun q x hq => ?_⟩
  obtain ⟨ys, p1, p2⟩ := g4 q x hq
  simp only [RepC] at p1
  subst p1
  have := p2 0 _ rfl
  rwa [e1, Nat.mul_one, Nat.add_zero] at this
theorem arr_int_mk {w : World} {fz bz : Nat → Prop} {l : List Int} {B off c : Nat} {ety : TypeId} {ar : Array Value} (h1 : l.length ≤ c ∧ c ≤ 9223372036854775807) (h2 : w.heap[B]? = some (.cells ar ety (0, 0))) (h3 : off + c ≤ ar.size)
    (h4 : ∀ q x, l[q]? = some x → ar[off + q]? = some (.int .i64 x)) : ArrAt w fz bz (.slice (some ⟨B, off, none⟩) l.length c) tInt l := by
  refine ⟨_, c, rfl, h1, .inr ⟨B, off, ety, ar, rfl, h2, by rw [show Ty.sz tInt = 1 from rfl, Nat.mul_one]; exact h3, fun q x hq => ⟨[.int .i64 x], rfl, fun j v hj => ?_⟩⟩⟩
  have hj0 : j < 1 := (List.getElem?_eq_some_iff.1 hj).1
  obtain rfl : j = 0 := by omega
  rw [List.getElem?_cons_zero] at hj
  injection hj with hj
  subst hj
  rw [show Ty.sz tInt = 1 from rfl, Nat.mul_one, Nat.add_zero]
  exact h4 q x hq
theorem ins_get {i : Nat} {s v : List Int} (hi : i ≤ s.length) {q : Nat} {x : Int} (h : (s.take i ++ (v ++ s.drop i))[q]? = some x) :
    (q < i ∧ s[q]? = some x) ∨ (i ≤ q ∧ q < i + v.length ∧ v[q - i]? = some x) ∨ (i + v.length ≤ q ∧ q < s.length + v.length ∧ s[q - v.length]? = some x) := by
  by_cases c : q < i
  · rw [List.getElem?_append_left (by rw [List.length_take]; omega), List.getElem?_take, if_pos c] at h
    exact .inl ⟨c, h⟩
  rw [List.getElem?_append_right (by rw [List.length_take]; omega), List.length_take, Nat.min_eq_left hi] at h
  by_cases c2 : q < i + v.length
  · rw [List.getElem?_append_left (by omega)] at h
    exact .inr (.inl ⟨by omega, c2, h⟩)
  · rw [List.getElem?_append_right (by omega), List.getElem?_drop, show i + (q - i - v.length) = q - v.length by omega] at h
    have := (List.getElem?_eq_some_iff.1 h).1
    exact .inr (.inr ⟨by omega, by omega, h⟩)
theorem ins_len {i : Nat} {s v : List Int} (hi : i ≤ s.length) : (s.take i ++ (v ++ s.drop i)).length = s.length + v.length := by
  simp only [List.length_append, List.length_take, List.length_drop]; omega
theorem one_ints (l : List Int) : ∀ v ∈ l.map (Value.int .i64), v.oneCell' = true := by
  intro v hv
  obtain ⟨x, _, rfl⟩ := List.mem_map.1 hv
  rfl
/-- The end, once the row that comes back is known. -/
theorem ins_fin {f : Nat} {w w' : World} {fz bz W : Nat → Prop} {φ : Nat → Value} {x : (eIns f).par.D} {args : List Value} {s v : List Int} (hS : Start w fz bz W φ (eIns f).par x (cellsOf (eIns f).sto (s, v)) args)
    {u : List Int} {B off c : Nat} (ha : ArrAt w' fz bz (.slice (some ⟨B, off, none⟩) u.length c) tInt u) (hB : ¬ fz B ∧ ¬ bz B ∧ (W B ∨ w.heap.size ≤ B)) (hsz : w.heap.size ≤ w'.heap.size) (hfr : ∀ b, b < w.heap.size → b ≠ B → w'.heap[b]? = w.heap[b]?)
    (h1 : w'.os = w.os) (h2 : w'.tape = w.tape) (h3 : w'.output = w.output) :
    ∃ fz' φ', Finish w fz bz W φ (eIns f).sto (eIns f).res () (cellsOf (eIns f).osto u) (.slice (some ⟨B, off, none⟩) u.length c) w' fz' φ' := by
  refine ⟨fz, fun j => if j = 32 then .slice (some ⟨B, off, none⟩) u.length c else φ j, ?_⟩
  have hcell : ∀ p ∈ cellsOf (eIns f).osto u, p = (32, .arr tInt u) := fun p hp => by simpa [cellsOf, CTy.cell] using hp
  constructor
  · show [Value.slice (some ⟨B, off, none⟩) u.length c] = [if (32 : Nat) = 32 then _ else _]
    rw [if_pos rfl]
  · intro p hp
    rw [hcell p hp]
    refine ⟨rfl, Nat.zero_lt_one, ?_⟩
    rw [if_pos rfl]
    exact ha
  · intro p hp q hq b _ _
    rw [hcell p hp, hcell q hq]
  · intro p hp b hb
    rw [hcell p hp, if_pos rfl] at hb
    simp only [blkOf] at hb
    split at hb
    · cases hb
    · injection hb with hb; subst hb; exact hB
  · exact fun b h => h
  · exact fun b h => .inl h
  · exact fun b h => Nat.lt_of_lt_of_le (hS.fzlt b h) hsz
  · intro j hj
    have : j ≠ 32 := by rintro rfl; simp [hasKey] at hj
    exact if_neg this
  · intro j
    by_cases e : j = 32
    · rw [if_pos e]; rfl
    · rw [if_neg e]; exact hS.one j
  · exact hsz
  · intro b hb hW
    refine hfr b hb ?_
    rintro rfl
    rcases hB.2.2 with h | h
    · exact hW h
    · omega
  · exact h1
  · exact h2
  · exact h3
theorem ins_ok (L : Lays2.n21 P ρ) {f : Nat} (hf : ρ.f 21 = f) : EntOk P (eIns f) := by
  subst hf
  refine ⟨by rfl, ⟨⟨_, L.f21, by kernel_rfl, by kernel_rfl⟩⟩, ?_⟩
  rintro ⟨x0, i, x2⟩ ⟨s, v⟩ u hu args w fz bz W φ hS
  obtain ⟨h0, r0, rfl, hr0, i1, r1, rfl, hr1, h2, rfl, hr2⟩ := hS.rep
  have e0 : h0 = φ 0 := by simpa [RepV0, RepC] using hr0
  have e1 : i1 = .int .i64 i := by simpa [RepV0, RepC] using hr1
  have e2 : h2 = φ 1 := by simpa [RepV0, RepC] using hr2
  subst e0; subst e1; subst e2
  have hu : insF i s v = some u := hu
  unfold insF at hu
  obtain ⟨hc, hu⟩ := cond_some hu
  have hc := of_decide_eq_true hc
  obtain ⟨c1, c2, c3, c4⟩ := hc
  injection hu with hu
  subst hu
  have hc0 := hS.cell (0, .arr tInt s) (by simp [cellsOf, CTy.cell])
  have hc1 := hS.cell (1, .arr tInt v) (by simp [cellsOf, CTy.cell])
  obtain ⟨A, c, eA, hlc, hA⟩ := arr_int hc0.2.2
  obtain ⟨A2, cv, eA2, hlcv, hA2⟩ := arr_int hc1.2.2
  obtain ⟨k, rfl⟩ : ∃ k : Nat, i = (k : Int) := Int.eq_ofNat_of_zero_le c1
  have hk : k ≤ s.length := by omega
  rcases hA2 with hz | ⟨vb, voff, ety2, ar2, rfl, hg2, hs2, hv2⟩
  · omega
  have hcell2 : ∀ j x, (v.map (Value.int .i64))[j]? = some x → w.cell? ⟨vb, voff + j, none⟩ = some x := by
    intro j x hj
    rw [List.getElem?_map] at hj
    obtain ⟨z, hz, rfl⟩ := Option.map_eq_some_iff.1 hj
    simp only [World.cell?, hg2]
    simpa using hv2 j z hz
  rw [Int.toNat_natCast]
  have hlen := ins_len (s := s) (v := v) hk
  have hbv : blkOf (φ 1) = some vb := by rw [eA2]; simp only [blkOf]; rw [if_neg (by omega)]
  show Calls P (ρ.f 21) #[φ 0, .int .i64 (k : Int), φ 1] w _
  rw [eA, eA2]
  have hvl : (v.map (Value.int .i64)).length = v.length := List.length_map ..
  by_cases hroom : s.length + v.length ≤ c
  · -- there is room
    rcases hA with hz | ⟨B, off, ety, ar, rfl, hg, hsz, hs⟩
    · omega
    have hbk : blkOf (φ 0) = some B := by rw [eA]; simp only [blkOf]; rw [if_neg (by omega)]
    have hown := hS.own (0, .arr tInt s) (by simp [cellsOf, CTy.cell]) B hbk
    have hne : vb ≠ B := by
      intro e
      have := hS.inj (0, .arr tInt s) (by simp [cellsOf, CTy.cell]) (1, .arr tInt v) (by simp [cellsOf, CTy.cell]) B hbk (by rw [← e]; exact hbv)
      simp at this
    have hcell : ∀ j x, (s.map (Value.int .i64))[j]? = some x → w.cell? ⟨B, off + j, none⟩ = some x := by
      intro j x hj
      rw [List.getElem?_map] at hj
      obtain ⟨z, hz, rfl⟩ := Option.map_eq_some_iff.1 hj
      simp only [World.cell?, hg]
      simpa using hs j z hz
    have hsp : ∀ j, j < c → (w.cell? ⟨B, off + j, none⟩).isSome = true := by
      intro j hj
      simp only [World.cell?, hg]
      simp; omega
    have hfz : ∀ j, w.frozen? ⟨B, j, none⟩ = false := by intro j; simp [World.frozen?, hg]
    have hfz2 : ∀ j, w.frozen? ⟨vb, j, none⟩ = false := by intro j; simp [World.frozen?, hg2]
    have hsl : (s.map (Value.int .i64)).length = s.length := List.length_map ..
    by_cases hkn : k < s.length
    · -- in the midst
      refine (Any2.slices_Insert_int_shift L B off s.length c k vb voff v.length cv (s.map (Value.int .i64)) (v.map (Value.int .i64)) w hkn c3 hroom (by omega) hne hsl hvl hcell (fun j hj => hsp j (by omega)) (fun j _ => hfz _) hcell2
        (one_ints s) (one_ints v) ety2 ety ar2.size ar.size (by simp [World.shape?, hg2]) (by simp [World.shape?, hg]) (by omega) (hfz2 _) (hfz2 _)).mono ?_
      rintro _ w' ⟨rfl, hw'⟩
      have hdl : ((s.map (Value.int .i64)).drop k).length = s.length - k := by rw [List.length_drop, hsl]
      have r1 := setCells_row B ety ((s.map (Value.int .i64)).drop k) (off + (k + v.length)) w.drew ar hg (by omega)
      obtain ⟨n1, hn1⟩ : ∃ n1, n1 = (ar.toList.take (off + (k + v.length)) ++ (s.map (Value.int .i64)).drop k ++ ar.toList.drop (off + (k + v.length) + ((s.map (Value.int .i64)).drop k).length)).toArray := ⟨_, rfl⟩
      rw [← hn1] at r1
      have z1 : n1.size = ar.size := by rw [hn1]; exact splice_size (by omega)
      have g1 : ∀ q, n1[q]? = if off + (k + v.length) ≤ q ∧ q < off + (k + v.length) + ((s.map (Value.int .i64)).drop k).length then ((s.map (Value.int .i64)).drop k)[q - (off + (k + v.length))]? else ar[q]? := by
        intro q; rw [hn1]; exact splice_at (by omega) q
      have r2 := setCells_row B ety (v.map (Value.int .i64)) (off + k) (w.drew.setRow B n1) n1 (setRow_heap _ _ _ _ _ _ hg) (by omega)
      obtain ⟨n2, hn2⟩ : ∃ n2, n2 = (n1.toList.take (off + k) ++ v.map (Value.int .i64) ++ n1.toList.drop (off + k + (v.map (Value.int .i64)).length)).toArray := ⟨_, rfl⟩
      rw [← hn2] at r2
      have z2 : n2.size = ar.size := by rw [hn2, splice_size (by omega), z1]
      have g2 : ∀ q, n2[q]? = if off + k ≤ q ∧ q < off + k + (v.map (Value.int .i64)).length then (v.map (Value.int .i64))[q - (off + k)]? else n1[q]? := by
        intro q; rw [hn2]; exact splice_at (by omega) q
      rw [r1, r2] at hw'
      subst hw'
      have ha : ArrAt ((w.drew.setRow B n1).setRow B n2) fz bz (.slice (some ⟨B, off, none⟩) (s.take k ++ (v ++ s.drop k)).length c) tInt (s.take k ++ (v ++ s.drop k)) := by
        refine arr_int_mk (by omega) (setRow_heap _ _ _ _ _ _ (setRow_heap _ _ _ _ _ _ hg)) (by omega) fun q x hq => ?_
        rw [g2]
        rcases ins_get hk hq with ⟨q1, q2⟩ | ⟨q1, q2, q3⟩ | ⟨q1, q2, q3⟩
        · rw [if_neg (by omega), g1, if_neg (by omega)]
          exact hs q x q2
        · rw [if_pos (by omega), show off + q - (off + k) = q - k by omega, List.getElem?_map, q3]; rfl
        · rw [if_neg (by omega), g1, if_pos (by omega), List.getElem?_drop, List.getElem?_map, show k + (off + q - (off + (k + v.length))) = q - v.length by omega, q3]; rfl
      rw [← hlen]
      exact ins_fin hS ha ⟨hown.1, hown.2.1, .inl hown.2.2⟩ (by rw [setRow_size, setRow_size]; exact Nat.le_refl _) (fun b _ hb => by rw [setRow_other _ _ _ _ hb, setRow_other _ _ _ _ hb]; rfl) rfl rfl rfl
    · -- at the end
      obtain rfl : k = s.length := by omega
      refine (Any2.slices_Insert_int_end_room L B off s.length c vb voff v.length cv (v.map (Value.int .i64)) w c3 hroom (by omega) hvl (fun j hj => by rw [Nat.add_assoc]; exact hsp _ (by omega)) (fun j _ => hfz _) hcell2 (one_ints v)).mono ?_
      rintro _ w' ⟨rfl, hw'⟩
      have r2 := setCells_row B ety (v.map (Value.int .i64)) (off + s.length) w ar hg (by omega)
      obtain ⟨n2, hn2⟩ : ∃ n2, n2 = (ar.toList.take (off + s.length) ++ v.map (Value.int .i64) ++ ar.toList.drop (off + s.length + (v.map (Value.int .i64)).length)).toArray := ⟨_, rfl⟩
      rw [← hn2] at r2
      have z2 : n2.size = ar.size := by rw [hn2]; exact splice_size (by omega)
      have g2 : ∀ q, n2[q]? = if off + s.length ≤ q ∧ q < off + s.length + (v.map (Value.int .i64)).length then (v.map (Value.int .i64))[q - (off + s.length)]? else ar[q]? := by
        intro q; rw [hn2]; exact splice_at (by omega) q
      rw [r2] at hw'
      subst hw'
      have ha : ArrAt (w.setRow B n2) fz bz (.slice (some ⟨B, off, none⟩) (s.take s.length ++ (v ++ s.drop s.length)).length c) tInt (s.take s.length ++ (v ++ s.drop s.length)) := by
        refine arr_int_mk (by omega) (setRow_heap _ _ _ _ _ _ hg) (by omega) fun q x hq => ?_
        rw [g2]
        rcases ins_get hk hq with ⟨q1, q2⟩ | ⟨q1, q2, q3⟩ | ⟨q1, q2, q3⟩
        · rw [if_neg (by omega)]
          exact hs q x q2
        · rw [if_pos (by omega), show off + q - (off + s.length) = q - s.length by omega, List.getElem?_map, q3]; rfl
        · omega
      rw [← hlen]
      exact ins_fin hS ha ⟨hown.1, hown.2.1, .inl hown.2.2⟩ (by rw [setRow_size]; exact Nat.le_refl _) (fun b _ hb => setRow_other _ _ _ _ hb) rfl rfl rfl
  · -- a new row
    have hsl : (s.map (Value.int .i64)).length = s.length := List.length_map ..
    have hge := grownCap_ge w (s.length + v.length) c (ρ.t 3)
    have hle : grownCap w (s.length + v.length) c (ρ.t 3) ≤ 9223372036854775807 := grownCap_le_maxLen w _ c _ (Nat.le_trans (show s.length + v.length ≤ 17592186044416 by omega) (by decide))
    obtain ⟨gc, hgc⟩ : ∃ gc, gc = grownCap w (s.length + v.length) c (ρ.t 3) := ⟨_, rfl⟩
    rw [← hgc] at hge hle
    have hzs : ∀ n, (Builtin.zeroCells (Value.int .i64 0).cells n).size = n := fun n => by rw [size_zeroCells]; show n * 1 = n; omega
    have hnfz : ¬ fz w.heap.size ∧ ¬ bz w.heap.size ∧ (W w.heap.size ∨ w.heap.size ≤ w.heap.size) :=
      ⟨fun h => Nat.lt_irrefl _ (hS.fzlt _ h), fun h => Nat.lt_irrefl _ (hS.bzlt _ h), .inr (Nat.le_refl _)⟩
    by_cases hkn : k < s.length
    · -- in the midst
      rcases hA with hz | ⟨B, off, ety, ar, rfl, hg, hsz, hs⟩
      · omega
      have hcell : ∀ j x, (s.map (Value.int .i64))[j]? = some x → w.cell? ⟨B, off + j, none⟩ = some x := by
        intro j x hj
        rw [List.getElem?_map] at hj
        obtain ⟨z, hz, rfl⟩ := Option.map_eq_some_iff.1 hj
        simp only [World.cell?, hg]
        simpa using hs j z hz
      refine (Any2.slices_Insert_int_grow L B off s.length c k vb voff v.length cv (s.map (Value.int .i64)) (v.map (Value.int .i64)) w hkn c3 hlc.1 (by omega) (by omega) hsl hvl hcell hcell2 (one_ints s) (one_ints v)).mono ?_
      rintro _ w' ⟨rfl, hw'⟩
      rw [← hgc] at hw' ⊢
      have htl : ((s.map (Value.int .i64)).take k).length = k := by rw [List.length_take, hsl]; omega
      have hdl : ((s.map (Value.int .i64)).drop k).length = s.length - k := by rw [List.length_drop, hsl]
      obtain ⟨n0, hn0⟩ : ∃ n0, n0 = (((s.map (Value.int .i64)).take k).toArray ++ Builtin.zeroCells (Value.int .i64 0).cells (s.length + v.length - k) ++ Builtin.zeroCells (Value.int .i64 0).cells (gc - (s.length + v.length))) := ⟨_, rfl⟩
      rw [← hn0] at hw'
      have z0 : n0.size = gc := by
        rw [hn0, Array.size_append, Array.size_append, hzs, hzs, List.size_toArray, htl]; omega
      have g0 : ∀ q, q < k → n0[q]? = (s.map (Value.int .i64))[q]? := by
        intro q hq
        rw [hn0, Array.getElem?_append_left (by rw [Array.size_append, List.size_toArray, htl]; omega), Array.getElem?_append_left (by rw [List.size_toArray, htl]; omega), List.getElem?_toArray, List.getElem?_take, if_pos hq]
      have hg0 : ((w.alloc (.cells n0 (ρ.t 3))).drew).heap[w.heap.size]? = some (.cells n0 (ρ.t 3) (0, 0)) := heap_alloc_new w _
      have r1 := setCells_row w.heap.size (ρ.t 3) (v.map (Value.int .i64)) k ((w.alloc (.cells n0 (ρ.t 3))).drew) n0 hg0 (by omega)
      obtain ⟨n1, hn1⟩ : ∃ n1, n1 = (n0.toList.take k ++ v.map (Value.int .i64) ++ n0.toList.drop (k + (v.map (Value.int .i64)).length)).toArray := ⟨_, rfl⟩
      rw [← hn1] at r1
      have z1 : n1.size = n0.size := by rw [hn1]; exact splice_size (by omega)
      have g1 : ∀ q, n1[q]? = if k ≤ q ∧ q < k + (v.map (Value.int .i64)).length then (v.map (Value.int .i64))[q - k]? else n0[q]? := by
        intro q; rw [hn1]; exact splice_at (by omega) q
      have hg1 : (((w.alloc (.cells n0 (ρ.t 3))).drew).setRow w.heap.size n1).drew.heap[w.heap.size]? = some (.cells n1 (ρ.t 3) (0, 0)) := setRow_heap _ _ _ _ _ _ hg0
      have r2 := setCells_row w.heap.size (ρ.t 3) ((s.map (Value.int .i64)).drop k) (k + v.length) (((w.alloc (.cells n0 (ρ.t 3))).drew).setRow w.heap.size n1).drew n1 hg1 (by omega)
      obtain ⟨n2, hn2⟩ : ∃ n2, n2 = (n1.toList.take (k + v.length) ++ (s.map (Value.int .i64)).drop k ++ n1.toList.drop (k + v.length + ((s.map (Value.int .i64)).drop k).length)).toArray := ⟨_, rfl⟩
      rw [← hn2] at r2
      have z2 : n2.size = n1.size := by rw [hn2]; exact splice_size (by omega)
      have g2 : ∀ q, n2[q]? = if k + v.length ≤ q ∧ q < k + v.length + ((s.map (Value.int .i64)).drop k).length then ((s.map (Value.int .i64)).drop k)[q - (k + v.length)]? else n1[q]? := by
        intro q; rw [hn2]; exact splice_at (by omega) q
      rw [r1, r2] at hw'
      subst hw'
      have ha : ArrAt ((((w.alloc (.cells n0 (ρ.t 3))).drew).setRow w.heap.size n1).drew.setRow w.heap.size n2) fz bz (.slice (some ⟨w.heap.size, 0, none⟩) (s.take k ++ (v ++ s.drop k)).length (gc)) tInt (s.take k ++ (v ++ s.drop k)) := by
        refine arr_int_mk (by omega) (setRow_heap _ _ _ _ _ _ hg1) (by omega) fun q x hq => ?_
        rw [Nat.zero_add, g2]
        rcases ins_get hk hq with ⟨q1, q2⟩ | ⟨q1, q2, q3⟩ | ⟨q1, q2, q3⟩
        · rw [if_neg (by omega), g1, if_neg (by omega), g0 q q1, List.getElem?_map, q2]; rfl
        · rw [if_neg (by omega), g1, if_pos (by omega), List.getElem?_map, q3]; rfl
        · rw [if_pos (by omega), List.getElem?_drop, List.getElem?_map, show k + (q - (k + v.length)) = q - v.length by omega, q3]; rfl
      rw [← hlen]
      refine ins_fin hS ha hnfz ?_ ?_ rfl rfl rfl
      · show w.heap.size ≤ ((((w.alloc (.cells n0 (ρ.t 3))).drew).setRow w.heap.size n1).setRow w.heap.size n2).heap.size
        rw [setRow_size, setRow_size]
        show w.heap.size ≤ (w.alloc (.cells n0 (ρ.t 3))).heap.size
        rw [World.size_alloc]; omega
      · intro b hb hne
        show ((((w.alloc (.cells n0 (ρ.t 3))).drew).setRow w.heap.size n1).setRow w.heap.size n2).heap[b]? = w.heap[b]?
        rw [setRow_other _ _ _ _ hne, setRow_other _ _ _ _ hne]
        exact Below.heap_alloc w _ b hb
    · -- at the end
      obtain rfl : k = s.length := by omega
      refine (Any2.slices_Insert_int_end_grow L A s.length c vb voff v.length cv (s.map (Value.int .i64)) (v.map (Value.int .i64)) w c3 hlc.1 (by omega) (by omega) hsl hvl ?_ ?_ hcell2 (one_ints v)).mono ?_
      · intro e
        rcases hA with hz | ⟨B, off, ety, ar, h, _⟩
        · omega
        · rw [e] at h; cases h
      · intro a ea j x hj
        rcases hA with hz | ⟨B, off, ety, ar, h, hg, hsz, hs⟩
        · have := (List.getElem?_eq_some_iff.1 hj).1
          omega
        · rw [ea] at h
          injection h with h
          subst h
          rw [Addr.add_lit]
          rw [List.getElem?_map] at hj
          obtain ⟨z, hz, rfl⟩ := Option.map_eq_some_iff.1 hj
          simp only [World.cell?, hg]
          simpa using hs j z hz
      rintro _ w' ⟨rfl, hw'⟩
      rw [← hgc] at hw' ⊢
      subst hw'
      obtain ⟨n0, hn0⟩ : ∃ n0, n0 = ((s.map (Value.int .i64) ++ v.map (Value.int .i64)).toArray ++ Builtin.zeroCells (Value.int .i64 0).cells (gc - (s.length + v.length))) := ⟨_, rfl⟩
      rw [← hn0]
      have hal : (s.map (Value.int .i64) ++ v.map (Value.int .i64)).length = s.length + v.length := by rw [List.length_append, hsl, hvl]
      have z0 : n0.size = gc := by
        rw [hn0, Array.size_append, hzs, List.size_toArray, hal]; omega
      have ha : ArrAt (w.drew.alloc (.cells n0 (ρ.t 3))) fz bz (.slice (some ⟨w.heap.size, 0, none⟩) (s.take s.length ++ (v ++ s.drop s.length)).length (gc)) tInt (s.take s.length ++ (v ++ s.drop s.length)) := by
        refine arr_int_mk (by omega) (heap_alloc_new w.drew _) (by omega) fun q x hq => ?_
        rw [Nat.zero_add]
        have hql := (List.getElem?_eq_some_iff.1 hq).1
        rw [hn0, Array.getElem?_append_left (by rw [List.size_toArray, hal]; omega), List.getElem?_toArray]
        rw [List.take_length, List.drop_length, List.append_nil] at hq
        rw [← List.map_append, List.getElem?_map, hq]; rfl
      rw [← hlen]
      refine ins_fin hS ha hnfz ?_ ?_ rfl rfl rfl
      · rw [World.size_alloc]; show w.heap.size ≤ w.heap.size + 1; omega
      · intro b hb hne
        exact Below.heap_alloc w.drew _ b hb
end
end Go.Pv
