/- Pv, thirteenth text: slices that are made and grow. -/
import Derived.Test.YtdkinmgpclbedaaDoorPvWrite
import Derived.Deep.AppendSrc
import Derived.Laws.AppendOwn
import Derived.IntWalk
set_option linter.unusedVariables false
set_option linter.unusedSimpArgs false
namespace Go.Pv
open Go Go.RowKit

section
variable {P : Program} {R : Type} {r : R} {o : Oper} {rd : Operand → Option PV} {st : Sg} {nx : Nat} {K : Dl → Option R}

/-- A new token; old ones may have gone, and their memory may be its own. -/
theorem Inv.fresh {F : Fix} {ρ : Rd} {σ : Sg} {born : Nat → Prop} {a : Act} {w w' : World} {φ : Nat → Value} {fz : Nat → Prop} (hI : Inv F ρ σ born a w φ fz) {c : Cell} {h : Value} {d : PV} {cv : Value} {dst : Option Nat} {kl : List Nat}
    (hfresh : ∀ k, nx ≤ k → k < nx + 64 → ¬ born k) (hd : ∀ t, dst = some t → t < F.nt) (hsz : w.heap.size ≤ w'.heap.size) (hos : w'.os = w.os) (htp : w'.tape = w.tape) (hout : w'.output = w.output)
    (hkeep : ∀ b, b < w.heap.size → (∀ k ∈ kl, ∀ c, σ k = some c → blkOf (φ k) ≠ some b) → w'.heap[b]? = w.heap[b]?)
    (hb : ∀ b, blkOf h = some b → (∃ k ∈ kl, ∃ c, σ k = some c ∧ blkOf (φ k) = some b) ∨ w.heap.size ≤ b) (h1 : h.oneCell' = true) (hbc : c.toks = [])
    (hc : ∀ φ', CellAt w' fz F.bz φ' h c) (hv : ∀ φ', φ' nx = h → RepV w' fz F.bz φ' d.t d.x cv) (hvb : ∀ k ∈ d.t.toks, bornTo born nx k) :
    ∃ φ' fz', Inv F (upd ρ dst d) (updS σ ((nx, some c) :: killed kl)) (bornTo born nx) (a.put dst cv) w' φ' fz' := by
  classical
  let φ' : Nat → Value := fun k => if k = nx then h else if born k then φ k else .slice none 0 0
  have hnx : ¬ born nx := hfresh nx (Nat.le_refl _) (by omega)
  have eφ : ∀ k, born k → φ' k = φ k := by intro k hk; simp only [φ']; rw [if_neg (fun e => hnx (by rw [← e]; exact hk)), if_pos hk]
  have enx : φ' nx = h := if_pos rfl
  have eσ : ∀ k c', updS σ ((nx, some c) :: killed kl) k = some c' → (k = nx ∧ c' = c) ∨ (k ≠ nx ∧ σ k = some c' ∧ k ∉ kl) := by
    intro k c' hk
    rw [updS_cons] at hk
    by_cases hn : nx = k
    · rw [if_pos hn] at hk; injection hk with hk; exact .inl ⟨hn.symm, hk.symm⟩
    · rw [if_neg hn, updS_killed] at hk
      by_cases hl : k ∈ kl
      · rw [if_pos hl] at hk; cases hk
      · rw [if_neg hl] at hk; exact .inr ⟨fun e => hn e.symm, hk, hl⟩
  have lt : ∀ k c b, σ k = some c → blkOf (φ k) = some b → b < w.heap.size := fun k c b h1 h2 => (hI.sto k c h1).lt h2
  have hm : Moved σ φ w w' := ⟨hsz, hos, htp, hout, fun b hb hn => hkeep b hb fun k _ c hc => hn k c hc⟩
  have hz : ∀ b, fz b ∨ F.bz b → w'.heap[b]? = w.heap[b]? := by
    intro b hb
    refine hm.keep b (hb.elim (hI.fzlt b) (hI.bzlt b)) fun k c hk he => ?_
    have := hI.own k c b hk he
    exact hb.elim this.1 this.2.1
  refine ⟨φ', fz, hI.step hm eφ (fun k hk => .inl hk) (fun b hb => hb) (fun b hb => .inl hb) ?_ ?_ ?_ ?_ ?_ hd (hv φ' enx) hvb⟩
  · intro k c' hk
    rcases eσ k c' hk with ⟨rfl, rfl⟩ | ⟨hn, hs, hl⟩
    · rw [enx]; exact hc φ'
    · rw [eφ k (hI.bs k c' hs).1]
      refine CellAt.mono (fun b hb => hkeep b (lt k c' b hs hb) fun j hj cj hcj he => ?_) hz (fun b hb => hb) (fun b hb => .inr hb) (fun j hj => eφ j ((hI.bs k c' hs).2 j hj)) (hI.sto k c' hs)
      have := hI.inj j k cj c' b hcj hs he hb
      subst this; exact hl hj
  · intro k c' hk
    rcases eσ k c' hk with ⟨rfl, rfl⟩ | ⟨hn, hs, _⟩
    · exact ⟨bornTo_nx, by rw [hbc]; simp⟩
    · exact ⟨.inl (hI.bs k c' hs).1, fun j hj => .inl ((hI.bs k c' hs).2 j hj)⟩
  · have cross : ∀ k c2 b, σ k = some c2 → k ∉ kl → blkOf (φ k) = some b → blkOf h ≠ some b := by
      intro k c2 b hs hl hbk he
      rcases hb b he with ⟨j, hj, cj, q1, q2⟩ | q
      · have := hI.inj j k cj c2 b q1 hs q2 hbk
        subst this; exact hl hj
      · have := lt k c2 b hs hbk; omega
    intro j k c1 c2 b hj hk hbj hbk
    rcases eσ j c1 hj with ⟨rfl, rfl⟩ | ⟨hnj, hsj, hlj⟩ <;> rcases eσ k c2 hk with ⟨rfl, rfl⟩ | ⟨hnk, hsk, hlk⟩
    · rfl
    · rw [enx] at hbj; rw [eφ k (hI.bs k c2 hsk).1] at hbk
      exact absurd hbj (cross k c2 b hsk hlk hbk)
    · rw [enx] at hbk; rw [eφ j (hI.bs j c1 hsj).1] at hbj
      exact absurd hbk (cross j c1 b hsj hlj hbj)
    · rw [eφ j (hI.bs j c1 hsj).1] at hbj; rw [eφ k (hI.bs k c2 hsk).1] at hbk
      exact hI.inj j k c1 c2 b hsj hsk hbj hbk
  · intro k c' b hk hbk
    rcases eσ k c' hk with ⟨rfl, rfl⟩ | ⟨hn, hs, _⟩
    · rw [enx] at hbk
      rcases hb b hbk with ⟨j, hj, cj, q1, q2⟩ | q
      · exact ⟨(hI.own j cj b q1 q2).1, .inl ⟨j, cj, q1, q2⟩⟩
      · exact ⟨fun hf => by have := hI.fzlt b hf; omega, .inr q⟩
    · rw [eφ k (hI.bs k c' hs).1] at hbk
      exact ⟨(hI.own k c' b hs hbk).1, .inl ⟨k, c', hs, hbk⟩⟩
  · intro k hk
    by_cases hn : k = nx
    · subst hn; rw [enx]; exact h1
    · by_cases hbk : born k
      · rw [eφ k hbk]; exact hI.one k hbk
      · simp only [φ']; rw [if_neg hn, if_neg hbk]; rfl

/-! ### rows of cells -/
/-- Elements, one behind the other. -/
def Flat (w : World) (fz bz : Nat → Prop) (e : Ty) (l : List e.D) (cs : List Value) : Prop :=
  cs.length = l.length * e.sz ∧ ∀ i x, l[i]? = some x → ∃ ys, RepC w fz bz noTok e x ys ∧ ∀ j v, ys[j]? = some v → cs[i * e.sz + j]? = some v

theorem flat_of {w : World} {fz bz : Nat → Prop} {e : Ty} {Q : Nat → List Value → Prop} : ∀ {l : List e.D}, (∀ i x, l[i]? = some x → ∃ ys, RepC w fz bz noTok e x ys ∧ Q i ys) →
    ∃ yss : List (List Value), yss.length = l.length ∧ (∀ ys ∈ yss, ys.length = e.sz) ∧ ∀ i x, l[i]? = some x → ∃ ys, yss[i]? = some ys ∧ RepC w fz bz noTok e x ys ∧ Q i ys := by
  intro l
  induction l generalizing Q with
  | nil => intro _; exact ⟨[], rfl, by simp, by simp⟩
  | cons x l ih =>
    intro h
    obtain ⟨ys, h1, h2⟩ := h 0 x rfl
    obtain ⟨yss, g1, g2, g3⟩ := ih (Q := fun i ys => Q (i + 1) ys) (fun i y hi => h (i + 1) y (by simpa using hi))
    refine ⟨ys :: yss, by simp [g1], ?_, ?_⟩
    · intro zs hz
      rcases List.mem_cons.1 hz with rfl | hz
      · exact h1.len
      · exact g2 zs hz
    · intro i y hi
      cases i with
      | zero => simp at hi; subst hi; exact ⟨ys, rfl, h1, h2⟩
      | succ i => obtain ⟨zs, q1, q2, q3⟩ := g3 i y (by simpa using hi); exact ⟨zs, by simpa using q1, q2, q3⟩
theorem flatten_get {s : Nat} : ∀ {yss : List (List Value)}, (∀ ys ∈ yss, ys.length = s) → yss.flatten.length = yss.length * s ∧ ∀ i ys j v, yss[i]? = some ys → ys[j]? = some v → yss.flatten[i * s + j]? = some v
  | [], _ => by simp
  | zs :: yss, h => by
    have hz := h zs (by simp)
    obtain ⟨g1, g2⟩ := flatten_get (yss := yss) (fun ys hy => h ys (by simp [hy]))
    constructor
    · simp only [List.flatten_cons, List.length_append, g1, hz, List.length_cons, Nat.add_mul, Nat.one_mul]; omega
    · intro i ys j v hi hj
      cases i with
      | zero =>
        simp at hi; subst hi
        have := (List.getElem?_eq_some_iff.1 hj).1
        rw [List.flatten_cons, Nat.zero_mul, Nat.zero_add, List.getElem?_append_left this]; exact hj
      | succ i =>
        rw [List.flatten_cons, List.getElem?_append_right (by rw [hz, Nat.add_mul]; omega), hz, Nat.add_mul, Nat.one_mul]
        rw [show i * s + s + j - s = i * s + j by omega]
        exact g2 i ys j v (by simpa using hi) hj
theorem flatten_mem {s : Nat} {yss : List (List Value)} (h : ∀ ys ∈ yss, ys.length = s) (hs : 0 < s) {k : Nat} (hk : k < yss.length * s) : ∃ ys, yss[k / s]? = some ys ∧ yss.flatten[k]? = ys[k % s]? := by
  have hlt : k / s < yss.length := (Nat.div_lt_iff_lt_mul hs).2 hk
  refine ⟨yss[k / s], List.getElem?_eq_getElem hlt, ?_⟩
  have hl := h yss[k / s] (List.getElem_mem hlt)
  have hm : k % s < (yss[k / s]).length := by rw [hl]; exact Nat.mod_lt _ hs
  have := (flatten_get h).2 (k / s) _ (k % s) _ (List.getElem?_eq_getElem hlt) (List.getElem?_eq_getElem hm)
  rw [show k / s * s + k % s = k from by rw [Nat.mul_comm]; exact Nat.div_add_mod k s] at this
  rw [this, List.getElem?_eq_getElem hm]

/-- A slice that is read: its elements, and where they lie. -/
theorem flat_bor {w : World} {fz bz : Nat → Prop} {φ : Nat → Value} {e : Ty} {l : List e.D} {v : Value} (hpos : 0 < e.sz) (h : RepC w fz bz φ (.sl .bor e) l [v]) :
    ∃ A c cs, v = .slice A l.length c ∧ l.length ≤ c ∧ Flat w fz bz e l cs ∧ (l.length = 0 ∨ ∃ B off, A = some ⟨B, off, none⟩ ∧ ∀ j v, cs[j]? = some v → w.cell? ⟨B, off + j, none⟩ = some v) := by
  simp only [RepC] at h
  obtain ⟨A, c, hv, hlc, h⟩ := h
  injection hv with hv
  rcases h with h | ⟨B, off, rfl, hz, h⟩
  · obtain rfl := List.eq_nil_of_length_eq_zero h
    exact ⟨A, c, [], hv, hlc, ⟨by simp, by simp⟩, .inl rfl⟩
  · obtain ⟨yss, g1, g2, g3⟩ := flat_of h
    obtain ⟨f1, f2⟩ := flatten_get g2
    refine ⟨_, c, yss.flatten, hv, hlc, ⟨by rw [f1, g1], fun i x hi => ?_⟩, .inr ⟨B, off, rfl, fun k u hk => ?_⟩⟩
    · obtain ⟨ys, q1, q2, q3⟩ := g3 i x hi
      exact ⟨ys, q2, fun j v hj => f2 i ys j v q1 hj⟩
    · have hklt := (List.getElem?_eq_some_iff.1 hk).1
      rw [f1] at hklt
      obtain ⟨ys, q1, q2⟩ := flatten_mem g2 hpos hklt
      rw [q2] at hk
      have hi : k / e.sz < l.length := by rw [← g1]; exact (List.getElem?_eq_some_iff.1 q1).1
      obtain ⟨ys', p1, _, p3⟩ := g3 (k / e.sz) _ (List.getElem?_eq_getElem hi)
      rw [q1] at p1; injection p1 with p1; subst p1
      have := p3 (k % e.sz) u hk
      rw [show off + k / e.sz * e.sz + k % e.sz = off + k by rw [Nat.add_assoc, Nat.mul_comm, Nat.div_add_mod]] at this
      exact this

theorem Flat.append {w : World} {fz bz : Nat → Prop} {e : Ty} {l m : List e.D} {x y : List Value} (hx : Flat w fz bz e l x) (hy : Flat w fz bz e m y) : Flat w fz bz e (l ++ m) (x ++ y) := by
  refine ⟨by rw [List.length_append, hx.1, hy.1, List.length_append, Nat.add_mul], fun i u hi => ?_⟩
  by_cases h : i < l.length
  · rw [List.getElem?_append_left h] at hi
    obtain ⟨ys, q1, q2⟩ := hx.2 i u hi
    refine ⟨ys, q1, fun j v hj => ?_⟩
    have := q2 j v hj
    rw [List.getElem?_append_left (List.getElem?_eq_some_iff.1 this).1]; exact this
  · rw [List.getElem?_append_right (by omega)] at hi
    obtain ⟨ys, q1, q2⟩ := hy.2 _ u hi
    refine ⟨ys, q1, fun j v hj => ?_⟩
    have := q2 j v hj
    have hle : l.length * e.sz ≤ i * e.sz := Nat.mul_le_mul_right _ (by omega)
    rw [Nat.sub_mul] at this
    rw [List.getElem?_append_right (by rw [hx.1]; omega), hx.1, show i * e.sz + j - l.length * e.sz = i * e.sz - l.length * e.sz + j by omega]; exact this
theorem Flat.one {w : World} {fz bz : Nat → Prop} {e : Ty} {l : List e.D} {cs : List Value} (hpos : 0 < e.sz) (hcl : e.closed = true) (h : Flat w fz bz e l cs) : ∀ v ∈ cs, v.oneCell' = true := by
  intro v hv
  obtain ⟨k, hk⟩ := List.getElem?_of_mem hv
  have hklt := (List.getElem?_eq_some_iff.1 hk).1
  rw [h.1] at hklt
  have hi : k / e.sz < l.length := (Nat.div_lt_iff_lt_mul hpos).2 hklt
  obtain ⟨ys, q1, q2⟩ := h.2 (k / e.sz) _ (List.getElem?_eq_getElem hi)
  have hm : k % e.sz < ys.length := by rw [q1.len]; exact Nat.mod_lt _ hpos
  have := q2 (k % e.sz) _ (List.getElem?_eq_getElem hm)
  rw [show k / e.sz * e.sz + k % e.sz = k from by rw [Nat.mul_comm]; exact Nat.div_add_mod k _, hk] at this
  injection this with this
  rw [this]
  exact RepC.one (by rw [Ty.closed_toks hcl]; simp) q1 _ (List.getElem_mem hm)
theorem Flat.mono {w w' : World} {fz bz fz' bz' : Nat → Prop} {e : Ty} {l : List e.D} {cs : List Value} (hcl : e.closed = true) (hw : ∀ b, fz b → w'.heap[b]? = w.heap[b]?) (hf : ∀ b, fz b → fz' b) (h : Flat w fz bz e l cs) : Flat w' fz' bz' e l cs :=
  ⟨h.1, fun i x hi => let ⟨ys, q1, q2⟩ := h.2 i x hi; ⟨ys, RepC.closed hw hf hcl q1, q2⟩⟩

/-- An owned slice's elements, and where they lie. -/
theorem flat_arr {w : World} {fz bz : Nat → Prop} {e : Ty} {l : List e.D} {h : Value} (hcl : e.closed = true) (hpos : 0 < e.sz) (ha : ArrAt w fz bz h e l) :
    ∃ A c cs, h = .slice A l.length c ∧ (l.length ≤ c ∧ c ≤ 9223372036854775807) ∧ Flat w fz bz e l cs ∧ (c = 0 ∨ ∃ B off ety ar, A = some ⟨B, off, none⟩ ∧ w.heap[B]? = some (.cells ar ety (0, 0)) ∧ off + c * e.sz ≤ ar.size ∧ ∀ j v, cs[j]? = some v → ar[off + j]? = some v) := by
  obtain ⟨A, c, rfl, hlc, h⟩ := ha
  rcases h with rfl | ⟨B, off, ety, ar, rfl, hg, hfit, h⟩
  · obtain rfl := List.eq_nil_of_length_eq_zero (show l.length = 0 by omega)
    exact ⟨A, 0, [], rfl, ⟨Nat.le_refl _, by omega⟩, ⟨by simp, by simp⟩, .inl rfl⟩
  · obtain ⟨yss, g1, g2, g3⟩ := flat_of (Q := fun i ys => ∀ j v, ys[j]? = some v → ar[off + i * e.sz + j]? = some v) h
    obtain ⟨f1, f2⟩ := flatten_get g2
    refine ⟨_, c, yss.flatten, rfl, hlc, ⟨by rw [f1, g1], fun i x hi => ?_⟩, .inr ⟨B, off, ety, ar, rfl, hg, hfit, fun k u hk => ?_⟩⟩
    · obtain ⟨ys, q1, q2, q3⟩ := g3 i x hi
      exact ⟨ys, q2, fun j v hj => f2 i ys j v q1 hj⟩
    · have hklt := (List.getElem?_eq_some_iff.1 hk).1
      rw [f1] at hklt
      obtain ⟨ys, q1, q2⟩ := flatten_mem g2 hpos hklt
      rw [q2] at hk
      have hi : k / e.sz < l.length := by rw [← g1]; exact (List.getElem?_eq_some_iff.1 q1).1
      obtain ⟨ys', p1, _, p3⟩ := g3 (k / e.sz) _ (List.getElem?_eq_getElem hi)
      rw [q1] at p1; injection p1 with p1; subst p1
      have := p3 (k % e.sz) u hk
      rw [show off + k / e.sz * e.sz + k % e.sz = off + k by rw [Nat.add_assoc, Nat.mul_comm, Nat.div_add_mod]] at this
      exact this
theorem arr_of_flat {w : World} {fz bz : Nat → Prop} {e : Ty} {l : List e.D} {B off c : Nat} {ety : TypeId} {ar : Array Value} {cs : List Value} (hlc : l.length ≤ c ∧ c ≤ 9223372036854775807) (hg : w.heap[B]? = some (.cells ar ety (0, 0))) (hfit : off + c * e.sz ≤ ar.size) (hf : Flat w fz bz e l cs)
    (hat : ∀ j v, cs[j]? = some v → ar[off + j]? = some v) : ArrAt w fz bz (.slice (some ⟨B, off, none⟩) l.length c) e l :=
  ⟨_, c, rfl, hlc, .inr ⟨B, off, ety, ar, rfl, hg, hfit, fun i x hi => let ⟨ys, q1, q2⟩ := hf.2 i x hi; ⟨ys, q1, fun j v hj => by rw [Nat.add_assoc]; exact hat _ v (q2 j v hj)⟩⟩⟩
end
end Go.Pv
