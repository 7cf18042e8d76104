/- Pv, fifteenth text: literals, make, len, structs that are compared. -/
import Derived.Test.YtdkinmgpclbedaaDoorPvSlice2
import Derived.Laws.StructEq
import Derived.Laws.MakeOwn
import Derived.Great.BuildSlice
set_option linter.unusedVariables false
set_option linter.unusedSimpArgs false
namespace Go.Pv
open Go Go.RowKit

section
variable {P : Program} {R : Type} {r : R} {o : Oper} {rd : Operand → Option PV} {st : Sg} {nx : Nat} {K : Dl → Option R}

/-- A new token; old ones may have gone; those of fl are frozen, the memory of the others may be its own. -/
theorem Inv.freshF {F : Fix} {ρ : Rd} {σ : Sg} {born : Nat → Prop} {a : Act} {w w' : World} {φ : Nat → Value} {fz : Nat → Prop} (hI : Inv F ρ σ born a w φ fz) {c : Cell} {h : Value} {d : PV} {cv : Value} {dst : Option Nat} {kl fl : List Nat} (hfl : ∀ k ∈ fl, k ∈ kl)
    (hfresh : ∀ k, nx ≤ k → k < nx + 64 → ¬ born k) (hd : ∀ t, dst = some t → t < F.nt) (hsz : w.heap.size ≤ w'.heap.size) (hos : w'.os = w.os) (htp : w'.tape = w.tape) (hout : w'.output = w.output)
    (hkeep : ∀ b, b < w.heap.size → (∀ k ∈ kl, ∀ c, σ k = some c → blkOf (φ k) ≠ some b) → w'.heap[b]? = w.heap[b]?)
    (hb : ∀ b, blkOf h = some b → (∃ k ∈ kl, k ∉ fl ∧ ∃ c, σ k = some c ∧ blkOf (φ k) = some b) ∨ w.heap.size ≤ b) (h1 : h.oneCell' = true) (hbc : c.toks = [])
    (hc : ∀ fz' φ', (∀ b, fz b → fz' b) → (∀ k ∈ fl, ∀ c b, σ k = some c → blkOf (φ k) = some b → fz' b) → CellAt w' fz' F.bz φ' h c) (hv : ∀ fz' φ', φ' nx = h → RepV w' fz' F.bz φ' d.t d.x cv) (hvb : ∀ k ∈ d.t.toks, bornTo born nx k) :
    ∃ φ' fz', Inv F (upd ρ dst d) (updS σ ((nx, some c) :: killed kl)) (bornTo born nx) (a.put dst cv) w' φ' fz' := by
  classical
  let fz' : Nat → Prop := fun b => fz b ∨ ∃ k ∈ fl, ∃ c, σ k = some c ∧ blkOf (φ k) = some b
  have hfz : ∀ b, fz b → fz' b := fun b h => .inl h
  let φ' : Nat → Value := fun k => if k = nx then h else if born k then φ k else .slice none 0 0
  have hnx : ¬ born nx := hfresh nx (Nat.le_refl _) (by omega)
  have eφ : ∀ k, born k → φ' k = φ k := by intro k hk; simp only [φ']; rw [if_neg (fun e => hnx (by rw [← e]; exact hk)), if_pos hk]
  have enx : φ' nx = h := if_pos rfl
  have eσ : ∀ k c', updS σ ((nx, some c) :: killed kl) k = some c' → (k = nx ∧ c' = c) ∨ (k ≠ nx ∧ σ k = some c' ∧ k ∉ kl) := by
    intro k c' hk
    rw [updS_cons] at hk
    by_cases hn : nx = k
    · rw [if_pos hn] at hk; injection hk with hk; exact .inl ⟨hn.symm, hk.symm⟩
    · rw [if_neg hn, updS_killed] at hk
      by_cases hl : k ∈ kl
      · rw [if_pos hl] at hk; cases hk
      · rw [if_neg hl] at hk; exact .inr ⟨fun e => hn e.symm, hk, hl⟩
  have lt : ∀ k c b, σ k = some c → blkOf (φ k) = some b → b < w.heap.size := fun k c b h1 h2 => (hI.sto k c h1).lt h2
  have hm : Moved σ φ w w' := ⟨hsz, hos, htp, hout, fun b hb hn => hkeep b hb fun k _ c hc => hn k c hc⟩
  have hz : ∀ b, fz b ∨ F.bz b → w'.heap[b]? = w.heap[b]? := by
    intro b hb
    refine hm.keep b (hb.elim (hI.fzlt b) (hI.bzlt b)) fun k c hk he => ?_
    have := hI.own k c b hk he
    exact hb.elim this.1 this.2.1
  refine ⟨φ', fz', hI.step hm eφ (fun k hk => .inl hk) hfz (fun b hb => hb.imp id fun ⟨k, _, c, h1, h2⟩ => .inl ⟨k, c, h1, h2⟩) ?_ ?_ ?_ ?_ ?_ hd (hv fz' φ' enx) hvb⟩
  · intro k c' hk
    rcases eσ k c' hk with ⟨rfl, rfl⟩ | ⟨hn, hs, hl⟩
    · rw [enx]; exact hc fz' φ' hfz fun k hk c b h1 h2 => .inr ⟨k, hk, c, h1, h2⟩
    · rw [eφ k (hI.bs k c' hs).1]
      refine CellAt.mono (fun b hb => hkeep b (lt k c' b hs hb) fun j hj cj hcj he => ?_) hz hfz (fun b hb => .inr hb) (fun j hj => eφ j ((hI.bs k c' hs).2 j hj)) (hI.sto k c' hs)
      have := hI.inj j k cj c' b hcj hs he hb
      subst this; exact hl hj
  · intro k c' hk
    rcases eσ k c' hk with ⟨rfl, rfl⟩ | ⟨hn, hs, _⟩
    · exact ⟨bornTo_nx, by rw [hbc]; simp⟩
    · exact ⟨.inl (hI.bs k c' hs).1, fun j hj => .inl ((hI.bs k c' hs).2 j hj)⟩
  · have cross : ∀ k c2 b, σ k = some c2 → k ∉ kl → blkOf (φ k) = some b → blkOf h ≠ some b := by
      intro k c2 b hs hl hbk he
      rcases hb b he with ⟨j, hj, _, cj, q1, q2⟩ | q
      · have := hI.inj j k cj c2 b q1 hs q2 hbk
        subst this; exact hl hj
      · have := lt k c2 b hs hbk; omega
    intro j k c1 c2 b hj hk hbj hbk
    rcases eσ j c1 hj with ⟨rfl, rfl⟩ | ⟨hnj, hsj, hlj⟩ <;> rcases eσ k c2 hk with ⟨rfl, rfl⟩ | ⟨hnk, hsk, hlk⟩
    · rfl
    · rw [enx] at hbj; rw [eφ k (hI.bs k c2 hsk).1] at hbk
      exact absurd hbj (cross k c2 b hsk hlk hbk)
    · rw [enx] at hbk; rw [eφ j (hI.bs j c1 hsj).1] at hbj
      exact absurd hbk (cross j c1 b hsj hlj hbj)
    · rw [eφ j (hI.bs j c1 hsj).1] at hbj; rw [eφ k (hI.bs k c2 hsk).1] at hbk
      exact hI.inj j k c1 c2 b hsj hsk hbj hbk
  · intro k c' b hk hbk
    rcases eσ k c' hk with ⟨rfl, rfl⟩ | ⟨hn, hs, hl⟩
    · rw [enx] at hbk
      rcases hb b hbk with ⟨j, hj, hjf, cj, q1, q2⟩ | q
      · refine ⟨?_, .inl ⟨j, cj, q1, q2⟩⟩
        rintro (hf | ⟨i, hi, ci, g1, g2⟩)
        · exact (hI.own j cj b q1 q2).1 hf
        · have := hI.inj i j ci cj b g1 q1 g2 q2
          subst this; exact hjf hi
      · refine ⟨?_, .inr q⟩
        rintro (hf | ⟨i, hi, ci, g1, g2⟩)
        · have := hI.fzlt b hf; omega
        · have := lt i ci b g1 g2; omega
    · rw [eφ k (hI.bs k c' hs).1] at hbk
      refine ⟨?_, .inl ⟨k, c', hs, hbk⟩⟩
      rintro (hf | ⟨i, hi, ci, g1, g2⟩)
      · exact (hI.own k c' b hs hbk).1 hf
      · have := hI.inj i k ci c' b g1 hs g2 hbk
        subst this; exact hl (hfl _ hi)
  · intro k hk
    by_cases hn : k = nx
    · subst hn; rw [enx]; exact h1
    · by_cases hbk : born k
      · rw [eφ k hbk]; exact hI.one k hbk
      · simp only [φ']; rw [if_neg hn, if_neg hbk]; rfl


/-! ### literals -/
theorem fill_step {place : Nat → Option (Nat × Nat)} {i off size : Nat} {v : Value} {rest : List (Nat × Value)} {cells : Array Value} {d : List Value}
    (hp : place i = some (off, size)) (hd : v.cells.toList = d) (hl : d.length = size) (hfit : off + size ≤ cells.size) :
    Instr.fill place cells ((i, v) :: rest) = Instr.fill place (cells.toList.take off ++ d ++ cells.toList.drop (off + d.length)).toArray rest := by
  have hs : v.cells.size = size := by rw [← Array.length_toList, hd, hl]
  conv => lhs; unfold Instr.fill
  simp only [hp]
  rw [if_neg (by simp only [hs]; simp; omega)]
  congr 1
  rw [← Array.foldl_toList, Array.toList_zipIdx, hd]
  obtain ⟨h1, h2⟩ := Great.foldl_set off d 0 cells
  apply Array.ext_getElem?
  intro k
  rw [h2 k]
  have hL : cells.toList.length = cells.size := Array.length_toList
  have hto : (cells.toList.take off).length = off := by rw [List.length_take]; omega
  simp only [Nat.add_zero, List.getElem?_toArray]
  by_cases hk : off ≤ k ∧ k < off + d.length ∧ k < cells.size
  · rw [if_pos hk, List.append_assoc, List.getElem?_append_right (by rw [hto]; exact hk.1), hto, List.getElem?_append_left (by omega)]
  · rw [if_neg hk, splice_far (by rw [hL, hl]; exact hfit) (by omega)]
    simp

/-- Parts, and their values. -/
def PartsRep (w : World) (fz bz : Nat → Prop) (φ : Nat → Value) : List (Nat × PV) → List (Nat × Value) → Prop
  | [], vs => vs = []
  | (i, u) :: r, vs => ∃ v q, vs = (i, v) :: q ∧ RepV w fz bz φ u.t u.x v ∧ PartsRep w fz bz φ r q

theorem partsOf_ok {F : Fix} {ρ : Rd} {σ : Sg} {born : Nat → Prop} {a : Act} {w : World} {φ : Nat → Value} {fz : Nat → Prop} (hI : Inv F ρ σ born a w φ fz) : ∀ {ps : List (Nat × Operand)} {l : List (Nat × PV)}, partsOf rd ps = some l →
    (∀ p ∈ ps, ∀ v, rd p.2 = some v → rdOf ρ p.2 = some v) → PartsRep w fz F.bz φ l (ps.map fun (i, x) => (i, a.eval x)) ∧ ∀ p ∈ l, ∀ k ∈ p.2.t.toks, born k
  | [], l, h, _ => by simp only [partsOf] at h; injection h with h; subst h; exact ⟨rfl, by simp⟩
  | (i, x) :: r, l, h, hrd => by
    simp only [partsOf] at h
    split at h
    · rename_i v hv
      split at h
      · rename_i l' hl'
        injection h with h; subst h
        obtain ⟨h1, h2⟩ := partsOf_ok hI hl' (fun p hp => hrd p (List.mem_cons_of_mem _ hp))
        have hv' := hrd (i, x) (by simp) v hv
        refine ⟨⟨_, _, rfl, hI.rd hv', h1⟩, ?_⟩
        intro p hp
        rcases List.mem_cons.1 hp with rfl | hp
        · exact hI.rdb hv'
        · exact h2 p hp
      · cases h
    · cases h

theorem fills_ok {w : World} {fz bz : Nat → Prop} {φ : Nat → Value} {pl pl' : Nat → Option (Nat × Nat)} (hpl : ∀ j p, pl j = some p → pl' j = some p) : ∀ {l : List (Nat × PV)} {t : Ty} {x : t.D} {v : PV} {vs : List (Nat × Value)} {cells : Array Value},
    fills pl ⟨.agg t, x⟩ l = some v → PartsRep w fz bz φ l vs → (∀ p ∈ l, ∀ k ∈ p.2.t.toks, (φ k).oneCell' = true) → RepC w fz bz φ t x cells.toList →
    ∃ t' y cells', v = ⟨.agg t', y⟩ ∧ Instr.fill pl' cells vs = some cells' ∧ RepC w fz bz φ t' y cells'.toList ∧ ∀ k ∈ t'.toks, k ∈ t.toks ∨ ∃ p ∈ l, k ∈ p.2.t.toks
  | [], t, x, v, vs, cells, h, hv, _, hr => by
    simp only [fills] at h; injection h with h; subst h
    simp only [PartsRep] at hv; subst hv
    exact ⟨t, x, cells, rfl, rfl, hr, fun k hk => .inl hk⟩
  | (i, u) :: r, t, x, v, vs, cells, h, hv, hφ, hr => by
    simp only [PartsRep] at hv
    obtain ⟨cv, q, rfl, h1, h2⟩ := hv
    simp only [fills] at h
    split at h
    · rename_i old off o z hn ho hp
      obtain ⟨e1, h5⟩ := cond_some h
      obtain ⟨e2, h6⟩ := cond_some h5
      obtain ⟨e3, h7⟩ := cond_some h6
      obtain ⟨e4, h8⟩ := cond_some h7
      clear h h5 h6 h7
      obtain rfl := nbeq_eq e1
      split at h8
      · rename_i y hy
        obtain ⟨c, d, e, hcs, hc, hd, _⟩ := nth_spec hn ho hr
        obtain ⟨d', hd1, hd2⟩ := RepV.cells e4 (fun k hk => hφ (i, u) (by simp) k hk) h1
        rw [hcs] at hr
        obtain ⟨g1, g2, g3⟩ := setNth_spec hn ho hy hr hc hd.len hd2 (nbeq_eq e2).symm
        have hdl : d'.length = d.length := by rw [hd2.len, hd.len, nbeq_eq e2]
        have hsz : cells.size = c.length + (d.length + e.length) := by rw [← Array.length_toList, hcs]; simp
        have hstep : Instr.fill pl' cells ((i, cv) :: q) = Instr.fill pl' (c ++ (d' ++ e)).toArray q := by
          rw [fill_step (hpl i _ hp) hd1 (by rw [hd2.len, nbeq_eq e3]) (by have := hd2.len; have := nbeq_eq e3; omega)]
          congr 2
          rw [hcs, List.take_left' hc, hdl, ← List.append_assoc c d e, List.drop_left' (by simp [hc]), List.append_assoc]
        obtain ⟨t', y', cells', q1, q2, q3, q4⟩ := fills_ok hpl (t := y.t) (x := y.x) (cells := (c ++ (d' ++ e)).toArray) h8 h2 (fun p hp => hφ p (List.mem_cons_of_mem _ hp)) g1
        refine ⟨t', y', cells', q1, by rw [hstep]; exact q2, q3, fun k hk => ?_⟩
        rcases q4 k hk with hk | ⟨p, hp, hk⟩
        · rcases g3 k hk with hk | hk
          · exact .inl hk
          · exact .inr ⟨(i, u), by simp, hk⟩
        · exact .inr ⟨p, List.mem_cons_of_mem _ hp, hk⟩
      · cases h8
    · cases h

theorem fieldOf_get : ∀ {l : List (Nat × Nat)} {n : Nat} {p : Nat × Nat}, fieldOf l n = some p → l.toArray[n]? = some p := by
  intro l n p h
  simpa using fieldOf_ok h
theorem placesOf_ok {tt : List (Nat × TInfo)} (htt : TTOk P tt) : ∀ {fields : List Field} {pl : List (Nat × Nat)}, placesOf tt (fields.map fun f => (f.type, f.offset)) = some pl →
    fields.mapM (fun f => (P.info? f.type).map fun i => (f.offset, i.size)) = some pl
  | [], pl, h => by simp only [List.map_nil, placesOf] at h; injection h with h; subst h; rfl
  | f :: r, pl, h => by
    simp only [List.map_cons, placesOf] at h
    split at h
    · rename_i i l hi hl
      injection h with h; subst h
      obtain ⟨j, hj, hjs, _⟩ := (htt _ _ hi).info
      have ih := placesOf_ok htt hl
      simp [List.mapM_cons, hj, ih, hjs]
    · cases h

theorem build_operands {t : Nat} {ps : Array (Nat × Operand)} {p : Nat × Operand} (h : p ∈ ps.toList) : p.2 ∈ (Op.build t ps).operands.toList := by
  simp only [Op.operands, Array.toList_map, List.mem_map]
  exact ⟨p, h, rfl⟩

theorem ok_build {t : Nat} {i : TInfo} {ps : Array (Nat × Operand)} {l : List (Nat × PV)} {pl pl' : Nat → Option (Nat × Nat)} {v : PV} (ho : o.op = .build t ps) (ht : TOk P t i) (hl : partsOf rd ps.toList = some l)
    (hpl : ∀ j p, pl j = some p → pl' j = some p) (hag : i.k.agg = true) (hb : ∀ z vs cells, (∃ j, P.info? t = some j ∧ j.zero = some z) → Instr.fill pl' z.cells vs = some cells → P.built t vs = some cells) (h : fills pl i.z l = some v) : OpOk P o rd st nx ⟨v, []⟩ := by
  refine OpOk.pure fun F ρ σ born a w φ fz hI hrd hst => ?_
  obtain ⟨h1, h2⟩ := partsOf_ok hI hl (fun p hp v hv => hrd p.2 v (by rw [ho]; exact build_operands hp) hv)
  obtain ⟨j, hj, hjs, hjb, zv, hjz, hzr⟩ := ht.info
  have hz := hzr w fz F.bz φ
  have hza := ht.zagg
  have hzt := ht.zcl
  have hiz : ∃ tz xz, i.z = ⟨.agg tz, xz⟩ := by
    rw [hag] at hza
    generalize i.z = z at hza
    obtain ⟨tz, xz⟩ := z
    cases tz <;> simp only [Ty.isAgg] at hza <;> first | (cases hza; done) | exact ⟨_, _, rfl⟩
  obtain ⟨tz, xz, hiz⟩ := hiz
  rw [hiz] at h hz hzt
  simp only [RepV0] at hz
  obtain ⟨cs, rfl, hz⟩ := hz
  obtain ⟨t', y, cells', q1, q2, q3, q4⟩ := fills_ok hpl (cells := cs.toArray) h h1 (fun p hp k hk => hI.one k (h2 p hp k hk)) (by simpa using hz)
  have hbuilt := hb _ _ _ ⟨j, hj, hjz⟩ (by simpa [Value.cells] using q2)
  subst q1
  refine ⟨.agg cells', ?_, ⟨cells'.toList, by simp, q3⟩, fun k hk => ?_⟩
  · have hrun := run_build (P := P) w t (ps.map fun (i, x) => (i, a.eval x)) cells' (by simpa using hbuilt)
    simp [execOp, ho, hrun]
  · rcases q4 k hk with hk | ⟨p, hp, hk⟩
    · simp only [Ty.toks] at hzt; rw [hzt] at hk; cases hk
    · exact h2 p hp k hk
theorem ok_buildSt {tt : List (Nat × TInfo)} (htt : TTOk P tt) {t : Nat} {i : TInfo} {fs : List (Nat × Nat)} {ps : Array (Nat × Operand)} {l : List (Nat × PV)} {pl : List (Nat × Nat)} {v : PV} (ho : o.op = .build t ps) (ht : TOk P t i) (hk : i.k = .st fs)
    (hl : partsOf rd ps.toList = some l) (hpl : placesOf tt fs = some pl) (h : fills (fun j => fieldOf pl j) i.z l = some v) : OpOk P o rd st nx ⟨v, []⟩ := by
  obtain ⟨fields, hu, hfs⟩ := ht.struct hk
  rw [hfs] at hpl
  have hp := placesOf_ok htt hpl
  refine ok_build ho ht hl (pl' := (pl.toArray[·]?)) (fun j p hj => fieldOf_get hj) (by rw [hk]; rfl) ?_ h
  rintro z vs cells ⟨j, hj, hjz⟩ hf
  unfold Program.built
  simp only [hj, hu, hjz, hp]
  exact hf
theorem ok_buildAr {t n e : Nat} {i ei : TInfo} {ps : Array (Nat × Operand)} {l : List (Nat × PV)} {v : PV} (ho : o.op = .build t ps) (ht : TOk P t i) (hk : i.k = .ar n e) (hei : TOk P e ei)
    (hl : partsOf rd ps.toList = some l) (h : fills (fun j => some (j * ei.sz, ei.sz)) i.z l = some v) : OpOk P o rd st nx ⟨v, []⟩ := by
  have hu := ht.array hk
  refine ok_build ho ht hl (pl' := fun j => some (j * ei.sz, ei.sz)) (fun j p hj => hj) (by rw [hk]; rfl) ?_ h
  rintro z vs cells ⟨j, hj, hjz⟩ hf
  obtain ⟨ej, hej, hejs, _⟩ := hei.info
  unfold Program.built
  simp only [hj, hu, hjz, hej, hejs]
  exact hf

theorem Flat.single {w : World} {fz bz : Nat → Prop} {e : Ty} {x : e.D} {cs : List Value} (h : RepC w fz bz noTok e x cs) : Flat w fz bz e [x] cs := by
  refine ⟨by rw [h.len]; simp, fun i y hi => ?_⟩
  cases i with
  | zero => simp at hi; subst hi; exact ⟨cs, h, fun j v hj => by simpa using hj⟩
  | succ i => simp at hi
theorem Flat.nil {w : World} {fz bz : Nat → Prop} {e : Ty} : Flat w fz bz e [] [] := ⟨by simp, by simp⟩

theorem lits_ok {F : Fix} {ρ : Rd} {σ : Sg} {born : Nat → Prop} {a : Act} {w : World} {φ : Nat → Value} {fz : Nat → Prop} (hI : Inv F ρ σ born a w φ fz) (hst : ∀ k c, st k = some c → σ k = some c) {e : Ty} : ∀ {l : List (Nat × PV)} {i : Nat} {f f' : List Nat} {x : List e.D} {vs : List (Nat × Value)},
    lits st e l i f = some (x, f') → PartsRep w fz F.bz φ l vs → (∀ p ∈ l, ∀ k ∈ p.2.t.toks, born k) →
    ∃ vals : List Value, vs = (vals.zipIdx i).map (fun y => (y.2, y.1)) ∧ vals.length = l.length ∧ x.length = l.length ∧ (∀ k ∈ f, k ∈ f') ∧ (∀ v ∈ vals, v.cells.size = e.sz) ∧
      ∀ fz' : Nat → Prop, (∀ b, fz b → fz' b) → (∀ k ∈ f', ∀ c b, σ k = some c → blkOf (φ k) = some b → fz' b) → Flat w fz' F.bz e x (vals.flatMap fun v => v.cells.toList)
  | [], i, f, f', x, vs, h, hv, _ => by
    simp only [lits] at h; injection h with h; injection h with h1 h2; subst h1; subst h2
    simp only [PartsRep] at hv; subst hv
    exact ⟨[], rfl, rfl, rfl, fun k hk => hk, by simp, fun _ _ _ => Flat.nil⟩
  | (j, u) :: r, i, f, f', x, vs, h, hv, hbn => by
    simp only [PartsRep] at hv
    obtain ⟨cv, q, rfl, h1, h2⟩ := hv
    simp only [lits] at h
    obtain ⟨e1, h5⟩ := cond_some h
    obtain ⟨e2, h6⟩ := cond_some h5
    clear h h5
    obtain rfl := nbeq_eq e1
    split at h6
    · rename_i y ac hy
      split at h6
      · rename_i hm hb0
        split at h6
        · rename_i l' f2 hl'
          injection h6 with h6; injection h6 with h7 h8; subst h7; subst h8
          obtain ⟨vals, g1, g2, g3, g4, g5, g6⟩ := lits_ok hI hst hl' h2 (fun p hp => hbn p (List.mem_cons_of_mem _ hp))
          obtain ⟨cs, hc1, hc2⟩ := RepV.cells e2 (fun k hk => hI.one k (hbn (j, u) (by simp) k hk)) h1
          obtain ⟨hs', p1, p2, p3, p4⟩ := conv_ok hst hI.sto hy (hs := []) (show Hdrs φ [] [] from rfl) hc2
          rw [hm] at p1
          simp only [Hdrs] at p1
          subst p1
          have hcl : cs.length = e.sz := by
            have := p3 (fun _ => True) (fun _ => True) φ ⟨fun _ _ => trivial, fun _ _ => .inl trivial, fun _ _ _ _ _ _ => trivial, fun _ _ _ _ _ _ => .inl trivial⟩ (by simp [lk])
            exact this.len
          refine ⟨cv :: vals, by simp [g1], by simp [g2], by simp [g3], fun k hk => g4 k (p2.f k hk), ?_, fun fz' z1 z2 => ?_⟩
          · intro v hv
            rcases List.mem_cons.1 hv with rfl | hv
            · rw [← Array.length_toList, hc1, hcl]
            · exact g5 v hv
          · rw [List.flatMap_cons, hc1]
            refine Flat.append (l := [y]) (Flat.single (p3 fz' F.bz noTok ⟨z1, fun b hb => .inr hb, fun k hk c b q1 q2 => z2 k (g4 k hk) c b q1 q2, by rw [hb0]; simp⟩ (by simp [lk]))) (g6 fz' z1 z2)
        · cases h6
      · cases h6
    · cases h6

theorem buildSlice_operands {t n : Nat} {ps : Array (Nat × Operand)} {p : Nat × Operand} (h : p ∈ ps.toList) : p.2 ∈ (Op.buildSlice t n ps).operands.toList := by
  simp only [Op.operands, Array.toList_map, List.mem_map]
  exact ⟨p, h, rfl⟩

theorem run_lit {t e n : Nat} {i : TInfo} (ht : P.underlying t = some (.slice e)) (hi : TOk P e i) (hpos : 0 < i.sz) {vals : List Value} (hn : vals.length = n) (hsz : ∀ v ∈ vals, v.cells.size = i.sz) (hlim : n * i.sz ≤ 16777216) {parts : Array (Nat × Value)}
    (hp : parts.toList = (vals.zipIdx 0).map (fun y => (y.2, y.1))) (w : World) :
    (Instr.buildSlice t n parts).run P w = .ok (.slice (some ⟨w.heap.size, 0, none⟩) n n) (w.alloc (.cells (vals.flatMap fun v => v.cells.toList).toArray e)) := by
  obtain ⟨j, hj, hjs, hjb, zv, hjz, hzr⟩ := hi.info
  have hfill := Great.fill_whole hpos vals ((Array.range (n * i.sz)).map (zv.cells[· % zv.cells.size]!)) hsz (by simp [hn])
  by_cases h0 : n = 0
  · subst h0
    obtain rfl := List.eq_nil_of_length_eq_zero hn
    simp only [List.zipIdx_nil, List.map_nil] at hp
    have hp' : parts = #[] := by apply Array.ext'; simpa using hp
    subst hp'
    simp [Instr.buildSlice, run_underlying ht, sizeOf, typeInfo, hj, Instr.fill, newRow, Array.range_zero']
  · have hne : ¬ n * j.size = 0 := by rw [hjs]; exact Nat.ne_of_gt (Nat.mul_pos (by omega) hpos)
    refine run_buildSlice w t e n parts _ j zv ht hj hjz (by rw [hjs]; omega) hne ?_
    rw [hp, hjs]; exact hfill

theorem ok_buildSlice {t n e : Nat} {i1 i : TInfo} {ps : Array (Nat × Operand)} {l : List (Nat × PV)} {x : List i.ty.D} {f : List Nat} (ho : o.op = .buildSlice t n ps) (ht : TOk P t i1) (hk : i1.k = .sl e) (hi : TOk P e i) (h0 : Nat.beq i.sz 0 = false)
    (hl : partsOf rd ps.toList = some l) (hn : Nat.beq l.length n = true) (hlim : n * i.sz ≤ 16777216) (h : lits st i.ty l 0 [] = some (x, f)) : OpOk P o rd st nx ⟨⟨.sl (.own nx) i.ty, ()⟩, (nx, some (.arr i.ty x)) :: killed f⟩ := by
  have hpos : 0 < i.sz := by
    rcases Nat.eq_zero_or_pos i.sz with e | e
    · rw [e] at h0; cases h0
    · exact e
  intro F ρ σ born a w φ fz hI hrd hst hfresh hd next Q hnext
  obtain ⟨h1, h2⟩ := partsOf_ok hI hl (fun p hp v hv => hrd p.2 v (by rw [ho]; exact buildSlice_operands hp) hv)
  obtain ⟨vals, g1, g2, g3, g4, g5, g6⟩ := lits_ok hI hst h h1 h2
  rw [nbeq_eq hn] at g2 g3
  have hrun := run_lit (P := P) (parts := ps.map fun (i, x) => (i, a.eval x)) (ht.slice hk) hi hpos g2 (by intro v hv; rw [g5 v hv, hi.tsz]) hlim (by rw [Array.toList_map]; exact g1) w
  have hr : (execOp a.eval o).run P w = .ok (.value (.slice (some ⟨w.heap.size, 0, none⟩) n n)) (w.alloc (.cells (vals.flatMap fun v => v.cells.toList).toArray e)) := by
    simp [execOp, ho, hrun]
  have hcell : ∀ fz' φ', (∀ b, fz b → fz' b) → (∀ k ∈ f, ∀ c b, σ k = some c → blkOf (φ k) = some b → fz' b) →
      CellAt (w.alloc (.cells (vals.flatMap fun v => v.cells.toList).toArray e)) fz' F.bz φ' (.slice (some ⟨w.heap.size, 0, none⟩) n n) (.arr i.ty x) := by
    intro fz' φ' z1 z2
    refine ⟨hi.cl, by rw [hi.tsz]; exact hpos, ?_⟩
    have hF := g6 (fun b => fz b ∨ ∃ k ∈ f, ∃ c, σ k = some c ∧ blkOf (φ k) = some b) (fun b hb => .inl hb) (fun k hk c b q1 q2 => .inr ⟨k, hk, c, q1, q2⟩)
    have hF' : Flat (w.alloc (.cells (vals.flatMap fun v => v.cells.toList).toArray e)) fz' F.bz i.ty x (vals.flatMap fun v => v.cells.toList) := by
      refine hF.mono hi.cl ?_ ?_
      · rintro b (hb | ⟨k, hk, c, q1, q2⟩)
        · exact Below.heap_alloc w _ b (hI.fzlt b hb)
        · exact Below.heap_alloc w _ b ((hI.sto k c q1).lt q2)
      · rintro b (hb | ⟨k, hk, c, q1, q2⟩)
        · exact z1 b hb
        · exact z2 k hk c b q1 q2
    have := arr_of_flat (off := 0) (c := n) (l := x) ⟨Nat.le_of_eq g3, by have := Nat.le_mul_of_pos_right n hpos; omega⟩ (heap_alloc_new w _) ?_ hF' (by intro j v hj; rw [Nat.zero_add]; simpa using hj)
    · rw [g3] at this; exact this
    · rw [Nat.zero_add, List.size_toArray, hF.1, g3]; exact Nat.le_refl _
  obtain ⟨φ', fz', hI'⟩ := hI.freshF (w' := w.alloc (.cells (vals.flatMap fun v => v.cells.toList).toArray e)) (nx := nx) (kl := f) (fl := f) (c := .arr i.ty x) (h := .slice (some ⟨w.heap.size, 0, none⟩) n n) (d := ⟨.sl (.own nx) i.ty, ()⟩) (cv := .slice (some ⟨w.heap.size, 0, none⟩) n n) (dst := o.dst) (fun k hk => hk) hfresh hd
    (by simp) rfl rfl rfl (fun b hb _ => Below.heap_alloc w _ b hb)
    (fun b hb => by simp only [blkOf] at hb; split at hb <;> first | (cases hb; done) | (injection hb with hb; exact .inr (by omega))) rfl rfl hcell
    (fun _ φ' e => by simp only [RepV, RepV0, RepC]; rw [e]) (fun k hk => by simp only [Ty.toks, List.mem_singleton] at hk; subst hk; exact bornTo_nx)
  exact wp_value hr (hnext _ _ φ' fz' hI')

theorem zeroOf_ok {F : Fix} {ρ : Rd} {σ : Sg} {born : Nat → Prop} {a : Act} {w : World} {φ : Nat → Value} {fz : Nat → Prop} (hI : Inv F ρ σ born a w φ fz) (hst : ∀ k c, st k = some c → σ k = some c) {e : Nat} {i : TInfo} (hi : TOk P e i) {z : i.ty.D} (h : zeroOf st i = some z) :
    ∃ j zv, P.info? e = some j ∧ j.size = i.sz ∧ j.bytes = i.byt ∧ j.zero = some zv ∧ zv.cells.size = i.sz ∧ RepC w fz F.bz noTok i.ty z zv.cells.toList := by
  obtain ⟨j, hj, hjs, hjb, zv, hjz, hzr⟩ := hi.info
  obtain ⟨cs, q1, q2⟩ := RepV.cells (φ := φ) hi.zst (by rw [hi.zcl]; simp) (RepV.of0 (hzr w fz F.bz φ))
  unfold zeroOf at h
  split at h
  · rename_i x ac hx
    split at h
    · rename_i hf
      injection h with h; subst h
      obtain ⟨hs', p1, p2, p3, p4⟩ := conv_ok hst hI.sto hx (hs := []) (show Hdrs φ [] [] from rfl) q2
      have := p3 fz (fun _ => True) (fun k => (lk k hs').getD undef) ⟨fun _ h => h, fun _ _ => .inr trivial, by rw [hf]; simp, fun _ _ _ _ _ _ => .inr trivial⟩ (by intro j v hj; simp [hj])
      have hc := RepC.closed (w' := w) (fz' := fz) (bz' := F.bz) (φ' := noTok) (fun _ _ => rfl) (fun _ h => h) hi.cl this
      refine ⟨j, zv, hj, hjs, hjb, hjz, ?_, by rw [q1]; exact hc⟩
      rw [← Array.length_toList, q1, q2.len, hi.zsz]
    · cases h
  · cases h

theorem ok_makeSlice {t e : Nat} {i1 i : TInfo} {x y : Operand} {kn km : IntKind} {n m : Int} {z : i.ty.D} (ho : o.op = .makeSlice t x y) (ht : TOk P t i1) (hk : i1.k = .sl e) (hi : TOk P e i) (h0 : Nat.beq i.sz 0 = false) (hx : rd x = some ⟨.int kn, n⟩) (hy : rd y = some ⟨.int km, m⟩)
    (hz : zeroOf st i = some z) (hn : 0 ≤ n) (hnm : n ≤ m) (hlim : (i.byt : Int) * m ≤ 281474976710656) : OpOk P o rd st nx ⟨⟨.sl (.own nx) i.ty, ()⟩, [(nx, some (.arr i.ty (List.replicate n.toNat z)))]⟩ := by
  have hpos : 0 < i.sz := by
    rcases Nat.eq_zero_or_pos i.sz with e | e
    · rw [e] at h0; cases h0
    · exact e
  have hbp := hi.pos hpos
  have hmx : x ∈ o.op.operands.toList := by rw [ho]; simp [Op.operands]
  have hmy : y ∈ o.op.operands.toList := by rw [ho]; simp [Op.operands]
  intro F ρ σ born a w φ fz hI hrd hst hfresh hd next Q hnext
  obtain ⟨j, zv, hj, hjs, hjb, hjz, hzs, hzr⟩ := zeroOf_ok hI hst hi hz
  have ex := rep_int.1 (hI.rd (hrd x _ hmx hx))
  have ey := rep_int.1 (hI.rd (hrd y _ hmy hy))
  have hm63 : m ≤ 281474976710656 := by
    have : 1 * m ≤ (i.byt : Int) * m := Int.mul_le_mul_of_nonneg_right (by omega) (by omega)
    omega
  have hrun := run_make (P := P) w t e j zv (ht.slice hk) hj hjz kn km n m hn hnm (by rw [hjb]; exact hlim) (by omega)
  have hr : (execOp a.eval o).run P w = .ok (.value (.slice (some ⟨w.heap.size, 0, none⟩) n.toNat m.toNat)) (w.alloc (.cells (madeCells zv.cells (m.toNat * j.size)) e)) := by
    simp [execOp, ho, ex, ey, hrun]
  have hcell : ∀ fz' φ', (∀ b, fz b → fz' b) → (∀ k ∈ ([] : List Nat), ∀ c b, σ k = some c → blkOf (φ k) = some b → fz' b) →
      CellAt (w.alloc (.cells (madeCells zv.cells (m.toNat * j.size)) e)) fz' F.bz φ' (.slice (some ⟨w.heap.size, 0, none⟩) n.toNat m.toNat) (.arr i.ty (List.replicate n.toNat z)) := by
    intro fz' φ' z1 _
    refine ⟨hi.cl, by rw [hi.tsz]; exact hpos, _, m.toNat, by rw [List.length_replicate], by rw [List.length_replicate]; omega, .inr ⟨w.heap.size, 0, e, _, rfl, heap_alloc_new w _, ?_, ?_⟩⟩
    · rw [size_madeCells, Nat.zero_add, hi.tsz, hjs]; exact Nat.le_refl _
    · intro q u hq
      rw [List.getElem?_replicate] at hq
      split at hq
      · rename_i hlt
        injection hq with hq; subst hq
        refine ⟨zv.cells.toList, RepC.closed (fun b hb => Below.heap_alloc w _ b (hI.fzlt b hb)) z1 hi.cl hzr, fun p v hp => ?_⟩
        have hplt : p < i.sz := by
          have := (List.getElem?_eq_some_iff.1 hp).1
          rw [Array.length_toList, hzs] at this; exact this
        have hmod : (q * i.sz + p) % i.sz = p := by rw [Nat.mul_comm, Nat.mul_add_mod, Nat.mod_eq_of_lt hplt]
        have hlt2 : q * i.sz + p < m.toNat * i.sz := by
          have : (q + 1) * i.sz ≤ m.toNat * i.sz := Nat.mul_le_mul_right _ (by omega)
          rw [Nat.add_mul, Nat.one_mul] at this; omega
        rw [hi.tsz, Nat.zero_add]
        unfold madeCells
        rw [Array.getElem?_map, hjs, Array.getElem?_range, if_pos hlt2]
        simp only [Option.map_some, hzs, hmod]
        rw [getElem!_pos zv.cells p (by rw [hzs]; exact hplt)]
        rw [Array.getElem?_toList] at hp
        rw [Array.getElem?_eq_getElem (by rw [hzs]; exact hplt)] at hp
        exact hp
      · cases hq
  obtain ⟨φ', fz', hI'⟩ := hI.freshF (w' := w.alloc (.cells (madeCells zv.cells (m.toNat * j.size)) e)) (nx := nx) (kl := []) (fl := []) (c := .arr i.ty (List.replicate n.toNat z)) (h := .slice (some ⟨w.heap.size, 0, none⟩) n.toNat m.toNat) (d := ⟨.sl (.own nx) i.ty, ()⟩) (cv := .slice (some ⟨w.heap.size, 0, none⟩) n.toNat m.toNat) (dst := o.dst) (fun k hk => hk) hfresh hd
    (by simp) rfl rfl rfl (fun b hb _ => Below.heap_alloc w _ b hb)
    (fun b hb => by simp only [blkOf] at hb; split at hb <;> first | (cases hb; done) | (injection hb with hb; exact .inr (by omega))) rfl rfl hcell
    (fun _ φ' e => by simp only [RepV, RepV0, RepC]; rw [e]) (fun k hk => by simp only [Ty.toks, List.mem_singleton] at hk; subst hk; exact bornTo_nx)
  exact wp_value hr (hnext _ _ φ' fz' hI')

/-! ### len -/
theorem len_hdr {v : PV} {K : Nat → Option R} (h : evLen st v K = some r) :
    ∃ n : Nat, K n = some r ∧ ∀ (F : Fix) (ρ : Rd) (σ : Sg) (born : Nat → Prop) (a : Act) (w : World) (φ : Nat → Value) (fz : Nat → Prop) (cv : Value), Inv F ρ σ born a w φ fz → (∀ k c, st k = some c → σ k = some c) → RepV w fz F.bz φ v.t v.x cv →
        ∃ A c, cv = .slice A n c := by
  unfold evLen at h
  split at h
  · refine ⟨_, h, fun F ρ σ born a w φ fz cv hI hst hr => ?_⟩
    simp only [RepV, RepV0, RepC] at hr
    obtain ⟨A, c, hv, _⟩ := hr
    injection hv with hv
    exact ⟨A, c, hv⟩
  · refine ⟨_, h, fun F ρ σ born a w φ fz cv hI hst hr => ?_⟩
    simp only [RepV, RepV0, RepC] at hr
    obtain ⟨A, c, hv, _⟩ := hr
    injection hv with hv
    exact ⟨A, c, hv⟩
  · split at h
    · rename_i e l hk
      refine ⟨_, h, fun F ρ σ born a w φ fz cv hI hst hr => ?_⟩
      simp only [RepV, RepV0, RepC] at hr
      injection hr with hr
      obtain ⟨_, _, A, c, hv, _⟩ := hI.sto _ _ (hst _ _ hk)
      exact ⟨A, c, by rw [hr, hv]⟩
    · cases h
  · refine ⟨_, h, fun F ρ σ born a w φ fz cv hI hst hr => ?_⟩
    simp only [RepV, RepV0, RepC] at hr
    obtain ⟨v, hv, A, N, c, A', q1, q2, q3, _⟩ := hr
    injection hv with hv
    exact ⟨A', _, by rw [hv, q3]⟩
  · refine ⟨_, h, fun F ρ σ born a w φ fz cv hI hst hr => ?_⟩
    simp only [RepV, RepV0, RepC] at hr
    obtain ⟨A, hv⟩ := hr
    injection hv with hv
    exact ⟨A, 0, hv⟩
  · cases h

theorem ok_len {c : Call} {t : Nat} {i : TInfo} {v : PV} (ho : o.op = .call c) (hb : c.callee = .builtin .len) {ts : List Nat} (hts : c.argTypes.toList = t :: ts) (ht : TOk P t i) (hl : rds rd c.args.toList = some [v])
    (h : evLenOf i st v (fun n => K ⟨⟨.int .i64, (n : Int)⟩, []⟩) = some r) : Res P o rd st nx K r := by
  unfold evLenOf at h
  have hat : c.argTypes[0]? = some t := by rw [← Array.getElem?_toList, hts]; rfl
  have base : ∀ n : Nat, (∀ (F : Fix) (ρ : Rd) (σ : Sg) (born : Nat → Prop) (a : Act) (w : World) (φ : Nat → Value) (fz : Nat → Prop) (cv : Value), Inv F ρ σ born a w φ fz → (∀ k c, st k = some c → σ k = some c) → RepV w fz F.bz φ v.t v.x cv →
      (Builtin.len_ c.argTypes o.type #[cv]).run P w = .ok (.int .i64 n) w) → OpOk P o rd st nx ⟨⟨.int .i64, (n : Int)⟩, []⟩ := by
    intro n hrun
    refine OpOk.pure fun F ρ σ born a w φ fz hI hrd hst => ?_
    obtain ⟨h1, h2⟩ := rds_all hl hI (fun x v hx hv => hrd x v (by rw [ho]; exact call_operands hx) hv)
    obtain ⟨cv, us, he, r1, he2⟩ := h1
    simp only [RepAll] at he2; subst he2
    have hargs : c.args.map a.eval = #[cv] := by apply Array.ext'; simpa using he
    have := hrun F ρ σ born a w φ fz cv hI hst r1
    refine ⟨.int .i64 n, ?_, rep_int.2 rfl, by simp [Ty.toks]⟩
    simp [execOp, ho, resolve, hb, invoke, builtin, hargs, this]
  cases hk : i.k <;> rw [hk] at h <;> simp only [] at h <;> first | (cases h; done) | skip
  · obtain ⟨tv, xv⟩ := v
    cases tv <;> simp only [] at h <;> first | (cases h; done) | skip
    refine ⟨_, h, base _ fun F ρ σ born a w φ fz cv hI hst hr => ?_⟩
    have := rep_str.1 hr
    subst this
    simp [Builtin.len_, hat, run_underlying (ht.string hk), goInt]
  · -- the length is the header's
    rename_i e
    have hx := len_hdr h
    obtain ⟨n, h, hx⟩ := hx
    refine ⟨_, h, base n fun F ρ σ born a w φ fz cv hI hst hr => ?_⟩
    obtain ⟨A, c', rfl⟩ := hx F ρ σ born a w φ fz cv hI hst hr
    simp [Builtin.len_, hat, run_underlying (ht.slice hk), goInt]
  · refine ⟨_, h, base _ fun F ρ σ born a w φ fz cv hI hst hr => ?_⟩
    simp [Builtin.len_, hat, run_underlying (ht.array hk), goInt]

/-! ### structs that are compared -/
structure EqOk (P : Program) (t : Nat) : Prop where
  held : P.stoodInHeld t = false
  guard : P.eqGuardType P.depth t = false
  names : ∀ fields, P.underlying t = some (.struct fields) → ∀ f ∈ fields.toList, f.name ≠ "_"

theorem part_one {t : Nat} {i : TInfo} (h : TOk P t i) (ha : i.k.agg = false) {cs : Array Value} {n : Nat} {v : Value} (hv : cs[n]? = some v) (w : World) : (Go.part t cs n).run P w = .ok v w := by
  simp only [Go.part, Sem.run_bind, h.isAgg w, Result.andThen_ok, ha, Bool.false_eq_true, if_false, hv, Sem.run_pure]

theorem eqLeaf_ok {w : World} {fz bz : Nat → Prop} {φ : Nat → Value} {tt : List (Nat × TInfo)} (htt : TTOk P tt) {ft : Nat} {t u : Ty} {x : t.D} {y : u.D} {b : Bool} (h : eqLeaf tt ft t u x y = some b) {c d : List Value} (hc : RepC w fz bz φ t x c) (hd : RepC w fz bz φ u y d) :
    ∃ p q, c = [p] ∧ d = [q] ∧ ∀ (xs ys : Array Value) (n m : Nat), xs[n]? = some p → ys[n]? = some q → (Go.part ft xs n).run P w = .ok p w ∧ (Go.part ft ys n).run P w = .ok q w ∧ (Op.equalIn (m + 1) ft p q).run P w = .ok b w := by
  unfold eqLeaf at h
  split at h
  · cases h
  · rename_i i hi
    have ht := htt _ _ hi
    cases hk : i.k <;> rw [hk] at h <;> simp only [] at h <;> first | (cases h; done) | skip
    all_goals (cases t <;> cases u <;> simp only [] at h <;> first | (cases h; done) | skip)
    · obtain ⟨hkk, h⟩ := cond_some h
      cases kbeq_eq hkk
      injection h with h; subst h
      simp only [RepC] at hc hd
      refine ⟨_, _, hc, hd, fun xs ys n m hx hy => ⟨part_one ht (by rw [hk]; rfl) hx w, part_one ht (by rw [hk]; rfl) hy w, run_equalIn_int w m ft _ _ _ _ (ht.int hk)⟩⟩
    · injection h with h; subst h
      simp only [RepC] at hc hd
      refine ⟨_, _, hc, hd, fun xs ys n m hx hy => ⟨part_one ht (by rw [hk]; rfl) hx w, part_one ht (by rw [hk]; rfl) hy w, run_equalIn_bool' w m ft _ _ (ht.bool hk)⟩⟩
    · injection h with h; subst h
      simp only [RepC] at hc hd
      refine ⟨_, _, hc, hd, fun xs ys n m hx hy => ⟨part_one ht (by rw [hk]; rfl) hx w, part_one ht (by rw [hk]; rfl) hy w, run_equalIn_string w m ft _ _ (ht.string hk)⟩⟩

theorem eqFs_ok {w : World} {fz bz : Nat → Prop} {φ : Nat → Value} {tt : List (Nat × TInfo)} (htt : TTOk P tt) : ∀ {fs : List Field} {n : Nat} {t u : Ty} {x : t.D} {y : u.D} {b : Bool} {c d : List Value}, eqFs tt (fs.map fun f => (f.type, f.offset)) n t u x y = some b →
    RepC w fz bz φ t x c → RepC w fz bz φ u y d → (∀ f ∈ fs, f.name ≠ "_") → ∀ (pre pre' : List Value) (m : Nat), pre.length = n → pre'.length = n →
    (Op.eqFields (m + 1) (pre ++ c).toArray (pre' ++ d).toArray fs).run P w = .ok b w
  | [], n, t, u, x, y, b, c, d, h, _, _, _, _, _, _, _, _ => by simp [eqFs] at h
  | f :: r, n, t, u, x, y, b, c, d, h, hc, hd, hnm, pre, pre', m, hp, hp' => by
    simp only [List.map_cons, eqFs] at h
    obtain ⟨e1, h⟩ := cond_some h
    have e1 := nbeq_eq e1
    have hn := hnm f (by simp)
    cases r with
    | nil =>
      simp only [List.map_nil] at h
      obtain ⟨p, q, rfl, rfl, hrun⟩ := eqLeaf_ok (P := P) htt h hc hd
      obtain ⟨g1, g2, g3⟩ := hrun (pre ++ [p]).toArray (pre' ++ [q]).toArray n m (by simp [← hp]) (by simp [← hp'])
      simp only [Op.eqFields, if_pos hn, Sem.run_bind, e1, g1, g2, g3, Result.andThen_ok]
      cases b <;> simp
    | cons f2 r =>
      simp only [List.map_cons] at h
      cases t <;> cases u <;> simp only [] at h <;> first | (cases h; done) | skip
      split at h
      · rename_i p0 q0 hl hr
        injection h with h; subst h
        simp only [RepC] at hc hd
        obtain ⟨c1, c2, rfl, hc1, hc2⟩ := hc
        obtain ⟨d1, d2, rfl, hd1, hd2⟩ := hd
        obtain ⟨p, q, rfl, rfl, hrun⟩ := eqLeaf_ok (P := P) htt hl hc1 hd1
        obtain ⟨g1, g2, g3⟩ := hrun (pre ++ ([p] ++ c2)).toArray (pre' ++ ([q] ++ d2)).toArray n m (by simp [← hp]) (by simp [← hp'])
        have ih := eqFs_ok htt (fs := f2 :: r) (n := n + 1) (by simpa using hr) hc2 hd2 (fun f hf => hnm f (List.mem_cons_of_mem _ hf)) (pre ++ [p]) (pre' ++ [q]) m (by simp [hp]) (by simp [hp'])
        rw [List.append_assoc, List.append_assoc] at ih
        rw [Op.eqFields]
        simp only [if_pos hn, Sem.run_bind, e1, g1, g2, g3, Result.andThen_ok]
        cases p0
        · simp
        · simp only [Bool.not_true, Bool.false_eq_true, if_false, cond_true]
          exact ih
      · cases h

theorem ok_eqSt {op : BinOp} {t t' : Nat} {x y : Operand} {i : TInfo} {tt : List (Nat × TInfo)} (htt : TTOk P tt) {fs : List (Nat × Nat)} {u v : Ty} {p : u.D} {q : v.D} {b : Bool} (ho : o.op = .binOp op t x y t') (ht : TOk P t i) (hk : i.k = .st fs) (he : EqOk P t)
    (hx : rd x = some ⟨.agg u, p⟩) (hy : rd y = some ⟨.agg v, q⟩) (hb : eqFs tt fs 0 u v p q = some b)
    (h : (match (generalizing := false) op with | .eql => K ⟨⟨.bool, b⟩, []⟩ | .neq => K ⟨⟨.bool, !b⟩, []⟩ | _ => none) = some r) : Res P o rd st nx K r := by
  have hmx : x ∈ o.op.operands.toList := by rw [ho]; simp [Op.operands]
  have hmy : y ∈ o.op.operands.toList := by rw [ho]; simp [Op.operands]
  obtain ⟨fields, hu, hfs⟩ := ht.struct hk
  have hfo : P.fieldsOf t = fields := by simp [Program.fieldsOf, hu]
  have base : ∀ (F : Fix) (ρ : Rd) (σ : Sg) (born : Nat → Prop) (a : Act) (w : World) (φ : Nat → Value) (fz : Nat → Prop), Inv F ρ σ born a w φ fz → (∀ x v, x ∈ o.op.operands.toList → rd x = some v → rdOf ρ x = some v) →
      ∃ xs ys, a.eval x = .agg xs ∧ a.eval y = .agg ys ∧ (Op.equalIn 10000 t (.agg xs) (.agg ys)).run P w = .ok b w ∧ (eqGuard op t x y (.agg xs) (.agg ys)).run P w = .ok () w := by
    intro F ρ σ born a w φ fz hI hrd
    have h1 := hI.rd (hrd x _ hmx hx)
    have h2 := hI.rd (hrd y _ hmy hy)
    simp only [RepV, RepV0] at h1 h2
    obtain ⟨c, e1, h1⟩ := h1
    obtain ⟨d, e2, h2⟩ := h2
    refine ⟨_, _, e1, e2, ?_, run_eqGuard_agg w op t x y _ _ he.guard⟩
    have hrun := run_equalIn_struct (P := P) w 9999 t c.toArray d.toArray (by rw [hfo]; exact hu) he.held
    rw [show (10000 : Nat) = 9999 + 1 from rfl, hrun, hfo]
    rw [hfs] at hb
    exact eqFs_ok (P := P) htt hb h1 h2 (he.names _ hu) [] [] 9998 rfl rfl
  cases op <;> simp only [] at h <;> first | (cases h; done) | skip
  · refine ⟨_, h, OpOk.pure fun F ρ σ born a w φ fz hI hrd hst => ?_⟩
    obtain ⟨xs, ys, e1, e2, h1, h2⟩ := base F ρ σ born a w φ fz hI hrd
    refine ⟨.bool b, ?_, rep_bool.2 rfl, by simp [Ty.toks]⟩
    simp [execOp, ho, e1, e2, h2, run_eql_struct, h1]
  · refine ⟨_, h, OpOk.pure fun F ρ σ born a w φ fz hI hrd hst => ?_⟩
    obtain ⟨xs, ys, e1, e2, h1, h2⟩ := base F ρ σ born a w φ fz hI hrd
    refine ⟨.bool (!b), ?_, rep_bool.2 rfl, by simp [Ty.toks]⟩
    simp [execOp, ho, e1, e2, h2, run_neq_struct, h1]

end
end Go.Pv
