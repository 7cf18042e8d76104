/- Pv, fourteenth text: append and its kin. -/
import Derived.Test.YtdkinmgpclbedaaDoorPvSlice
set_option linter.unusedVariables false
set_option linter.unusedSimpArgs false
namespace Go.Pv
open Go Go.RowKit

section
variable {P : Program} {R : Type} {r : R} {o : Oper} {rd : Operand → Option PV} {st : Sg} {nx : Nat} {K : Dl → Option R}

theorem run_append_rep {t t2 ty e : Nat} {i : TInfo} (ht : P.underlying t = some (.slice e)) (ht2 : ∃ e', P.underlying t2 = some (.slice e')) (hi : TOk P e i) (hpos : 0 < i.sz) {w : World} {fz bz : Nat → Prop} {φ : Nat → Value} {h x : Value} {l m : List i.ty.D}
    {bz2 : Nat → Prop} (ha : ArrAt w fz bz h i.ty l) (hm : RepC w fz bz2 φ (.sl .bor i.ty) m [x]) (hlim : (l.length + m.length) * i.byt ≤ 140737488355328) (hfz : ∀ b, fz b → b < w.heap.size) (hfh : ∀ b, blkOf h = some b → ¬ fz b) :
    ∃ h' w', (Builtin.append_ #[t, t2] ty #[h, x]).run P w = .ok h' w' ∧ ArrAt w' fz bz h' i.ty (l ++ m) ∧ w.heap.size ≤ w'.heap.size ∧ w'.os = w.os ∧ w'.tape = w.tape ∧ w'.output = w.output ∧
      (∀ b, b < w.heap.size → blkOf h ≠ some b → w'.heap[b]? = w.heap[b]?) ∧ (∀ b, blkOf h' = some b → blkOf h = some b ∨ w.heap.size ≤ b) := by
  have hcl := hi.cl
  have htsz := hi.tsz
  have hbp := hi.pos hpos
  have hpe : 0 < i.ty.sz := by rw [htsz]; exact hpos
  obtain ⟨j, hj, hjs, hjb, zv, hjz, hzr⟩ := hi.info
  obtain ⟨A, c, cs, rfl, hlc, hfl, hA⟩ := flat_arr hcl hpe ha
  obtain ⟨A2, c2, news, rfl, hmc, hfm, hA2⟩ := flat_bor hpe hm
  have hfm : Flat w fz bz i.ty m news := hfm.mono hcl (fun _ _ => rfl) (fun _ h => h)
  obtain ⟨e', ht2⟩ := ht2
  have hnl : news.length = m.length * j.size := by rw [hfm.1, htsz, hjs]
  have hone := hfm.one hpe hcl
  have hsrc : _root_.Go.Src P j.size t2 (.slice A2 m.length c2) m.length news w := by
    rcases hA2 with h0 | ⟨B, off, rfl, hat⟩
    · obtain rfl := List.eq_nil_of_length_eq_zero h0
      obtain rfl : news = [] := List.eq_nil_of_length_eq_zero (by rw [hfm.1]; simp)
      cases A2 with
      | none => exact _root_.Go.Src.ofNil w ht2 c2
      | some ad => exact _root_.Go.Src.ofSlice w ht2 ad 0 c2 [] (by simp) (by simp) (by simp)
    · exact _root_.Go.Src.ofSlice w ht2 _ _ c2 news hnl (fun k u hk => by rw [Addr.add_lit]; exact hat k u hk) hone
  have hall := hfl.append hfm
  by_cases hroom : l.length + m.length ≤ c
  · rcases hA with rfl | ⟨B, off, ety, ar, rfl, hg, hfit, hat⟩
    · obtain rfl := List.eq_nil_of_length_eq_zero (show l.length = 0 by omega)
      obtain rfl := List.eq_nil_of_length_eq_zero (show m.length = 0 by simpa using hroom)
      obtain rfl : news = [] := List.eq_nil_of_length_eq_zero (by rw [hfm.1]; simp)
      refine ⟨.slice A 0 0, w, ?_, ⟨A, 0, rfl, ⟨Nat.le_refl _, Nat.zero_le _⟩, .inl rfl⟩, Nat.le_refl _, rfl, rfl, rfl, fun _ _ _ => rfl, fun b hb => .inl hb⟩
      have hc := hsrc.cells
      have hl := hsrc.len
      simp only [List.length_nil] at hc hl
      cases A <;> simp [Builtin.append_, run_underlying ht, run_underlying ht2, sizeOf, typeInfo, hj, hl, hc, storeCells]
    · have hfit2 : off + l.length * i.ty.sz + news.length ≤ ar.size := by
        rw [hfm.1, Nat.add_assoc, ← Nat.add_mul]
        exact Nat.le_trans (Nat.add_le_add_left (Nat.mul_le_mul_right _ hroom) _) hfit
      have hst := run_storeCells_at P B (off + l.length * i.ty.sz) ety news 0 ar w hg (by simpa using hfit2) hone
      simp only [Nat.add_zero] at hst
      by_cases hc0 : c = 0
      · subst hc0
        obtain rfl := List.eq_nil_of_length_eq_zero (show l.length = 0 by omega)
        obtain rfl := List.eq_nil_of_length_eq_zero (show m.length = 0 by simpa using hroom)
        obtain rfl : news = [] := List.eq_nil_of_length_eq_zero (by rw [hfm.1]; simp)
        refine ⟨.slice (some ⟨B, off, none⟩) 0 0, w, ?_, ⟨_, 0, rfl, ⟨Nat.le_refl _, Nat.zero_le _⟩, .inl rfl⟩, Nat.le_refl _, rfl, rfl, rfl, fun _ _ _ => rfl, fun b hb => .inl hb⟩
        have hc := hsrc.cells
        have hl := hsrc.len
        simp only [List.length_nil] at hc hl
        simp [Builtin.append_, run_underlying ht, run_underlying ht2, sizeOf, typeInfo, hj, hl, hc, storeCells]
      · have hblk : blkOf (.slice (some ⟨B, off, none⟩) l.length c) = some B := by simp only [blkOf]; rw [if_neg hc0]
        refine ⟨.slice (some ⟨B, off, none⟩) (l.length + m.length) c, w.setRow B (ar.toList.take (off + l.length * i.ty.sz) ++ news ++ ar.toList.drop (off + l.length * i.ty.sz + news.length)).toArray, ?_, ?_, Nat.le_of_eq (setRow_size _ _ _).symm, rfl, rfl, rfl,
          fun b _ hb => setRow_other w B b _ (fun e => hb (by rw [hblk, e])), fun b hb => .inl (by rw [hblk]; simp only [blkOf] at hb; rw [if_neg hc0] at hb; exact hb)⟩
        · rw [htsz, ← hjs] at hst ⊢
          simp [Builtin.append_, run_underlying ht, run_underlying ht2, sizeOf, typeInfo, hj, hsrc.len, hroom, hsrc.cells, Addr.add_lit, hst]
        · have hw : ∀ b, fz b → (w.setRow B (ar.toList.take (off + l.length * i.ty.sz) ++ news ++ ar.toList.drop (off + l.length * i.ty.sz + news.length)).toArray).heap[b]? = w.heap[b]? := by
            intro b hb
            refine setRow_other w B b _ fun e => ?_
            subst e; exact hfh b hblk hb
          have := arr_of_flat (bz := bz) (l := l ++ m) (B := B) (off := off) (c := c) (cs := cs ++ news) (by rw [List.length_append]; exact ⟨hroom, by omega⟩) (setRow_heap w B ar _ ety (0, 0) hg) ?_ (hall.mono hcl hw (fun _ h => h)) ?_
          · rw [List.length_append] at this; exact this
          · have : ar.toList.length = ar.size := Array.length_toList
            simp only [List.size_toArray, List.length_append, List.length_take, List.length_drop]
            omega
          · intro k u hk
            have h1 : ∀ j v, (cs ++ (ar.toList.drop (off + l.length * i.ty.sz)).take news.length ++ [])[j]? = some v → ar.toList[off + j]? = some v := by
              intro q v hq
              rw [List.append_nil] at hq
              by_cases h : q < cs.length
              · rw [List.getElem?_append_left h] at hq; rw [Array.getElem?_toList]; exact hat q v hq
              · rw [List.getElem?_append_right (by omega), List.getElem?_take] at hq
                split at hq
                · rw [List.getElem?_drop, hfl.1] at hq
                  have e : off + l.length * i.ty.sz + (q - l.length * i.ty.sz) = off + q := by rw [hfl.1] at h; omega
                  rw [e] at hq; exact hq
                · cases hq
            have h2 := splice_get (cur := ar.toList) (o := off) (q := l.length * i.ty.sz) (c := cs) (d := (ar.toList.drop (off + l.length * i.ty.sz)).take news.length) (e := []) (d' := news) (by intro j v hj; exact h1 j v (by simpa using hj)) hfl.1
              (by have hL : ar.toList.length = ar.size := Array.length_toList
                  rw [List.length_take, List.length_drop, Nat.min_eq_left (by omega)]) k u (by simpa using hk)
            simpa using h2
  · have hold : (Builtin.firstCells j.size l.length (.slice A l.length c)).run P w.drew = .ok cs.toArray w.drew := by
      rcases hA with rfl | ⟨B, off, ety, ar, rfl, hg, hfit, hat⟩
      · obtain rfl := List.eq_nil_of_length_eq_zero (show l.length = 0 by omega)
        obtain rfl : cs = [] := List.eq_nil_of_length_eq_zero (by rw [hfl.1]; simp)
        cases A with
        | none => exact run_firstCells_none w.drew j.size 0 0 0
        | some ad => exact run_firstCells_some w.drew j.size 0 ad 0 0 [] (by simp) (by simp)
      · refine run_firstCells_some w.drew j.size l.length _ l.length c cs (by rw [hfl.1, htsz, hjs]) (fun k u hk => ?_)
        rw [Addr.add_lit]
        have := hat k u hk
        show w.cell? _ = _
        simp only [World.cell?, hg, Option.isSome_none, Bool.false_eq_true, if_false]
        exact this
    have hsmall : l.length + m.length ≤ 140737488355328 := Nat.le_trans (Nat.le_mul_of_pos_right _ hbp) hlim
    have hr := run_append_grow_src (P := P) w t t2 ty e j zv ht hj hjz A l.length c cs hold _ m.length news hsrc (by omega) (by omega) (growslice_fits (by omega) (by rw [hjb]; exact hlim))
    have hge := grownCap_ge w (l.length + m.length) c e
    have hle : grownCap w (l.length + m.length) c e ≤ 9223372036854775807 := grownCap_le_maxLen w _ c e (Nat.le_trans hsmall (by decide))
    have hz0 : zv.cells.size = i.sz := by
      obtain ⟨cs0, q1, q2⟩ := RepV.cells (φ := fun _ => undef) hi.zst (by rw [hi.zcl]; simp) (RepV.of0 (hzr w fz bz (fun _ => undef)))
      rw [← Array.length_toList, q1, q2.len, hi.zsz]
    have hw : ∀ b, fz b → (w.drew.alloc (.cells ((cs ++ news).toArray ++ Builtin.zeroCells zv.cells (grownCap w (l.length + m.length) c e - (l.length + m.length))) e)).heap[b]? = w.heap[b]? := by
      intro b hb; exact Below.heap_alloc w.drew _ b (hfz b hb)
    refine ⟨_, _, hr, ?_, by simp, rfl, rfl, rfl, fun b hb _ => Below.heap_alloc w.drew _ b hb, fun b hb => ?_⟩
    · have := arr_of_flat (bz := bz) (l := l ++ m) (B := w.heap.size) (off := 0) (c := grownCap w (l.length + m.length) c e) (cs := cs ++ news) (by rw [List.length_append]; exact ⟨hge, hle⟩) (heap_alloc_new w.drew _) ?_ (hall.mono hcl hw (fun _ h => h)) ?_
      · rw [List.length_append] at this; exact this
      · simp only [Array.size_append, List.size_toArray, List.length_append, size_zeroCells, hz0, hfl.1, hfm.1, htsz, Nat.zero_add, ← Nat.add_mul]
        exact Nat.mul_le_mul_right _ (by omega)
      · intro k u hk
        rw [Nat.zero_add, Array.getElem?_append_left (by simpa using (List.getElem?_eq_some_iff.1 hk).1)]
        simpa using hk
    · simp only [blkOf] at hb
      split at hb
      · cases hb
      · injection hb with hb; exact .inr (by omega)

theorem emp_conv {w : World} {fz bz : Nat → Prop} {φ : Nat → Value} {e : Ty} {l : List e.D} {v : Value} (ha : ArrAt w fz bz v e l) : v.oneCell' = true := by obtain ⟨A, c, rfl, _⟩ := ha; rfl

/-- What is appended to: its memory, and the token that goes. -/
theorem append_dst {F : Fix} {ρ : Rd} {σ : Sg} {born : Nat → Prop} {a : Act} {w : World} {φ : Nat → Value} {fz : Nat → Prop} (hI : Inv F ρ σ born a w φ fz) (hst : ∀ k c, st k = some c → σ k = some c) {e : Ty} (hcl : e.closed = true) {v : PV} {l : List e.D} {cv : Value}
    (hl : lst st e v = some l) (hr : RepV w fz F.bz φ v.t v.x cv) :
    (∀ k e0, v.t = .sl (.own k) e0 → ArrAt w fz F.bz cv e l ∧ (∃ c, σ k = some c) ∧ cv = φ k) ∧
    (∀ k e0, v.t = .sl (.osub k) e0 → ArrAt w fz F.bz cv e l ∧ (∃ c, σ k = some c) ∧ ∀ b, blkOf cv = some b → blkOf (φ k) = some b) ∧
    (∀ e0, v.t = .sl .emp e0 → ArrAt w fz F.bz cv e l ∧ blkOf cv = none) := by
  obtain ⟨tv, xv⟩ := v
  refine ⟨?_, ?_, ?_⟩
  · intro k e0 ht
    simp only [] at ht; subst ht
    simp only [lst] at hl
    split at hl
    · rename_i e' l' hk
      obtain ⟨rfl, hl⟩ := castL_ok hl
      cases hl
      simp only [RepV, RepV0, RepC] at hr
      injection hr with hr
      have := hI.sto k _ (hst _ _ hk)
      exact ⟨by rw [hr]; exact this.2.2, ⟨_, hst _ _ hk⟩, hr⟩
    · cases hl
  · intro k e0 ht
    simp only [] at ht; subst ht
    simp only [lst] at hl
    split at hl
    · rename_i e' l' hk
      obtain ⟨hz, hl⟩ := cond_some hl
      obtain ⟨rfl, hl⟩ := castL_ok hl
      cases hl
      simp only [RepV, RepV0, RepC] at hr
      obtain ⟨v, hv, hs⟩ := hr
      injection hv with hv
      subst hv
      have hc := hI.sto k _ (hst _ _ hk)
      rw [nbeq_eq hz] at hs
      obtain ⟨q1, q2, q3⟩ := sub_arr hc hs
      exact ⟨q2, ⟨_, hst _ _ hk⟩, q3⟩
    · cases hl
  · intro e0 ht
    simp only [] at ht; subst ht
    simp only [lst] at hl
    injection hl with hl; subst hl
    simp only [RepV, RepV0, RepC] at hr
    obtain ⟨A, hv⟩ := hr
    injection hv with hv
    subst hv
    exact ⟨⟨A, 0, rfl, ⟨Nat.le_refl _, Nat.zero_le _⟩, .inl rfl⟩, by cases A <;> rfl⟩

theorem lst_val {F : Fix} {ρ : Rd} {σ : Sg} {born : Nat → Prop} {a : Act} {w : World} {φ : Nat → Value} {fz : Nat → Prop} (hI : Inv F ρ σ born a w φ fz) (hst : ∀ k c, st k = some c → σ k = some c) {e : Ty} {v : PV} {l : List e.D} {cv : Value}
    (hl : lst st e v = some l) (hr : RepV w fz F.bz φ v.t v.x cv) : RepC w fz (fun _ => True) noTok (.sl .bor e) l [cv] := by
  have ht : ∃ m e0, v.t = .sl m e0 := by
    obtain ⟨tv, xv⟩ := v
    cases tv <;> simp only [lst] at hl <;> first | (cases hl; done) | exact ⟨_, _, rfl⟩
  obtain ⟨m, e0, ht⟩ := ht
  obtain ⟨tv, xv⟩ := v
  simp only [] at ht; subst ht
  exact lst_ok (fz' := fz) (bz' := fun _ => True) hl hst hI.sto (by simpa only [RepV, RepV0] using hr) (fun _ h => h) (fun _ _ => .inr trivial) (fun _ _ _ _ _ _ => .inr trivial)

theorem call_operands {c : Call} {x : Operand} (h : x ∈ c.args.toList) : x ∈ (Op.call c).operands.toList := by
  simp only [Op.operands, Call.operands, Array.toList_append, List.mem_append]
  exact .inr h

theorem ok_append {c : Call} {t t2 e : Nat} {i i1 i2 : TInfo} {v u : PV} (ho : o.op = .call c) (hb : c.callee = .builtin .append) (hts : c.argTypes = #[t, t2]) (ht : TOk P t i1) (hk : i1.k = .sl e) (ht2 : TOk P t2 i2) {e2 : Nat} (hk2 : i2.k = .sl e2) (hi : TOk P e i)
    (hl : rds rd c.args.toList = some [v, u]) (h : evAppend i st nx v u K = some r) : Res P o rd st nx K r := by
  unfold evAppend at h
  obtain ⟨hi0, h⟩ := cond_none h
  have hpos : 0 < i.sz := by
    rcases Nat.eq_zero_or_pos i.sz with e | e
    · rw [e] at hi0; cases hi0
    · exact e
  split at h
  · rename_i x y hx hy
    obtain ⟨hlim, h⟩ := cond_some h
    have hlim : (x.length + y.length) * i.byt ≤ 140737488355328 := by
      have := of_decide_eq_true hlim
      exact Nat.le_trans (Nat.mul_le_mul_right _ this) (Nat.div_mul_le_self _ _)
    have main : ∀ kl : List Nat, (∀ k ∈ kl, (∃ e0, v.t = .sl (.own k) e0) ∨ ∃ e0, v.t = .sl (.osub k) e0) → ((∃ k ∈ kl, (∃ e0, v.t = .sl (.own k) e0) ∨ ∃ e0, v.t = .sl (.osub k) e0) ∨ ∃ e0, v.t = .sl .emp e0) →
        OpOk P o rd st nx ⟨⟨.sl (.own nx) i.ty, ()⟩, (nx, some (.arr i.ty (x ++ y))) :: killed kl⟩ := by
      intro kl hkl hcase
      intro F ρ σ born a w φ fz hI hrd hst hfresh hd next Q hnext
      obtain ⟨hall, hbn⟩ := rds_all hl hI (fun z q hz hq => hrd z q (by rw [ho]; exact call_operands hz) hq)
      obtain ⟨cv, us, he, r1, cu, us2, he2, r2, he3⟩ := hall
      subst he2
      simp only [RepAll] at he3; subst he3
      have hargs : c.args.map a.eval = #[cv, cu] := by apply Array.ext'; simpa using he
      obtain ⟨d1, d2, d3⟩ := append_dst hI hst hi.cl hx r1
      have hsrc := lst_val hI hst hy r2
      have harr : ArrAt w fz F.bz cv i.ty x ∧ (∀ b, blkOf cv = some b → ¬ fz b) ∧ (∀ b, blkOf cv = some b → ∃ k ∈ kl, ∃ c, σ k = some c ∧ blkOf (φ k) = some b) := by
        rcases hcase with ⟨k, hkk, ⟨e0, ht'⟩ | ⟨e0, ht'⟩⟩ | ⟨e0, ht'⟩
        · obtain ⟨q1, ⟨c0, q2⟩, q3⟩ := d1 k e0 ht'
          exact ⟨q1, fun b hb => (hI.own k c0 b q2 (by rw [← q3]; exact hb)).1, fun b hb => ⟨k, hkk, c0, q2, by rw [← q3]; exact hb⟩⟩
        · obtain ⟨q1, ⟨c0, q2⟩, q3⟩ := d2 k e0 ht'
          exact ⟨q1, fun b hb => (hI.own k c0 b q2 (q3 b hb)).1, fun b hb => ⟨k, hkk, c0, q2, q3 b hb⟩⟩
        · obtain ⟨q1, q2⟩ := d3 e0 ht'
          exact ⟨q1, (fun b hb => by rw [q2] at hb; cases hb), (fun b hb => by rw [q2] at hb; cases hb)⟩
      obtain ⟨h', w', hrun, g1, g2, g3, g4, g5, g6, g7⟩ := run_append_rep (P := P) (t := t) (t2 := t2) (ty := o.type) (e := e) (ht.slice hk) ⟨e2, ht2.slice hk2⟩ hi hpos harr.1 hsrc hlim hI.fzlt harr.2.1
      have hcells : ∀ φ', CellAt w' fz F.bz φ' h' (.arr i.ty (x ++ y)) := fun φ' => ⟨hi.cl, by rw [hi.tsz]; exact hpos, g1⟩
      have hb' : ∀ b, blkOf h' = some b → (∃ k ∈ kl, ∃ c, σ k = some c ∧ blkOf (φ k) = some b) ∨ w.heap.size ≤ b := by
        intro b hb
        rcases g7 b hb with q | q
        · exact .inl (harr.2.2 b q)
        · exact .inr q
      have hr : (execOp a.eval o).run P w = .ok (.value h') w' := by
        simp only [execOp, ho, resolve, hb, invoke, builtin, hargs, hts]
        simp [hrun]
      obtain ⟨φ', fz', hI'⟩ := hI.fresh (nx := nx) (kl := kl) (c := .arr i.ty (x ++ y)) (h := h') (d := ⟨.sl (.own nx) i.ty, ()⟩) (cv := h') (dst := o.dst) hfresh hd g2 g3 g4 g5
        (fun b hb hn => g6 b hb fun he => by obtain ⟨k, q1, c0, q2, q3⟩ := harr.2.2 b he; exact hn k q1 c0 q2 q3) hb' (hcells φ).hdr rfl hcells
        (fun φ' e => by simp only [RepV, RepV0, RepC]; rw [e]) (fun k hk => by simp only [Ty.toks, List.mem_singleton] at hk; subst hk; exact bornTo_nx)
      exact wp_value hr (hnext h' w' φ' fz' hI')
    split at h
    · rename_i k e0 hvt
      exact ⟨_, h, main [k] (by intro j hj; rw [List.mem_singleton] at hj; subst hj; exact .inl ⟨e0, hvt⟩) (.inl ⟨k, by simp, .inl ⟨e0, hvt⟩⟩)⟩
    · rename_i k e0 hvt
      exact ⟨_, h, main [k] (by intro j hj; rw [List.mem_singleton] at hj; subst hj; exact .inr ⟨e0, hvt⟩) (.inl ⟨k, by simp, .inr ⟨e0, hvt⟩⟩)⟩
    · rename_i e0 hvt
      exact ⟨_, h, main [] (by simp) (.inr ⟨e0, hvt⟩)⟩
    · cases h
  · cases h
end
end Go.Pv
