/- Pv, twenty-fourth text: open inputs as plain values; what a call leaves. -/
import Derived.Test.YtdkinmgpclbedaaDoorPvKit
import Derived.OpenShut
import Derived.ChangeArms
import Derived.Below
set_option linter.unusedVariables false
set_option linter.unusedSimpArgs false
namespace Go.Pv
open Go Go.RowKit

inductive Tgt where
  | ty (t : TypeId)
  | fs (l : List (TypeId × Nat)) (off : Nat)
/-- Is this the code of that type? -/
def fit (P : Program) : Nat → Ty → Tgt → Bool
  | 0, _, _ => false
  | n + 1, .int k, .ty t => (match P.underlying t with | some (.int k') => kbeq k' k | _ => false)
  | n + 1, .bool, .ty t => (match P.underlying t with | some .bool => true | _ => false)
  | n + 1, .str, .ty t => (match P.underlying t with | some .string => true | _ => false)
  | n + 1, .sl .frz e, .ty t => (match P.underlying t with | some (.slice u) => cond (Nat.beq (P.cellsOf u) e.sz) (cond (Nat.blt 0 e.sz) (fit P n e (.ty u)) false) false | _ => false)
  | n + 1, .agg c, .ty t => (match P.underlying t with
    | some (.struct fs) => cond (Nat.beq (P.cellsOf t) c.sz) (fit P n c (.fs (fs.toList.map fun f => (f.type, f.offset)) 0)) false
    | some (.array m u) => cond (Nat.beq (P.cellsOf t) c.sz) (fit P n c (.fs ((List.range m).map fun i => (u, i * P.cellsOf u)) 0)) false
    | _ => false)
  | n + 1, .pair a b, .fs ((t, o) :: q :: r) off => cond (Nat.beq o off) (cond (Nat.beq (P.cellsOf t) a.sz) (cond (fit P n a (.ty t)) (fit P n b (.fs (q :: r) (off + a.sz))) false) false) false
  | n + 1, c, .fs [(t, o)] off => cond (Nat.beq o off) (cond (Nat.beq (P.cellsOf t) c.sz) (fit P n c (.ty t)) false) false
  | _, _, _ => false

/-- Plain values in their ranges. -/
def Wf : (t : Ty) → t.D → Prop
  | .int k, x => (Lit.int k x).wf = true
  | .str, x => x.size ≤ maxLen
  | .sl .frz e, l => l.length ≤ maxLen ∧ ∀ x ∈ l, Wf e x
  | .agg t, x => Wf t x
  | .pair a b, x => Wf a x.1 ∧ Wf b x.2
  | _, _ => True

theorem list_of {α : Type} {Q : Nat → α → Prop} : ∀ n, (∀ i < n, ∃ y, Q i y) → ∃ l : List α, l.length = n ∧ ∀ i y, l[i]? = some y → Q i y
  | 0, _ => ⟨[], rfl, by simp⟩
  | n + 1, h => by
    obtain ⟨l, h1, h2⟩ := list_of n (fun i hi => h i (by omega))
    obtain ⟨y, hy⟩ := h n (by omega)
    refine ⟨l ++ [y], by simp [h1], fun i z hz => ?_⟩
    by_cases hi : i < l.length
    · rw [List.getElem?_append_left hi] at hz; exact h2 i z hz
    · rw [List.getElem?_append_right (by omega)] at hz
      have : i - l.length = 0 := by
        have := (List.getElem?_eq_some_iff.1 hz).1
        simp at this; omega
      rw [this] at hz; simp at hz; subst hz
      rw [show i = n by omega]; exact hy

section
variable {H : Type} {enc : TypeId × Value → H} {P : Program} {w : World} {base : Nat} {spare : Nat → Bool} {held : Bool} {fz bz : Nat → Prop} {φ : Nat → Value}

theorem cells_get {a : Addr} {n : Nat} {cs : List Value} (h : w.cells? base a n = some cs) : cs.length = n ∧ ∀ i v, cs[i]? = some v → w.cell? (a.add i) = some v := by
  unfold World.cells? at h
  split at h
  · have hl := mapM_some_length h
    rw [List.length_range] at hl
    refine ⟨hl, fun i v hv => ?_⟩
    have hi := (List.getElem?_eq_some_iff.1 hv).1
    have := mapM_some_get h i i (by rw [List.getElem?_range (by omega)])
    rw [this]; exact hv
  · cases h
theorem drop_take_comm {α : Type} {l : List α} {a b c d : Nat} (h : c + d ≤ b) : (((l.drop a).take b).drop c).take d = (l.drop (a + c)).take d := by
  apply List.ext_getElem?
  intro i
  simp only [List.getElem?_take, List.getElem?_drop]
  by_cases hi : i < d
  · simp only [if_pos hi, show c + i < b by omega, if_true, Nat.add_assoc]
  · simp only [if_neg hi]

def FsOk (enc : TypeId × Value → H) (P : Program) (w : World) (base : Nat) (spare : Nat → Bool) (held : Bool) (cs : List Value) (l : List (TypeId × Nat)) : Prop :=
  ∀ p ∈ l, ∃ m x, DataW.trod enc P w base spare held m p.1 ((cs.drop p.2).take (P.cellsOf p.1)) = some x

theorem trod_rep (hfz : ∀ b, b < w.heap.size → fz b) : ∀ (n : Nat) (c : Ty),
    (∀ {t : TypeId} {m : Nat} {cs : List Value} {x : DataW H × List MemPlace}, fit P n c (.ty t) = true → DataW.trod enc P w base spare held m t cs = some x → ∃ y : c.D, RepC w fz bz φ c y cs ∧ Wf c y) ∧
    (∀ {l : List (TypeId × Nat)} {off : Nat} {cs : List Value}, fit P n c (.fs l off) = true → FsOk enc P w base spare held cs l → off + c.sz ≤ cs.length → ∃ y : c.D, RepC w fz bz φ c y ((cs.drop off).take c.sz) ∧ Wf c y) := by
  intro n
  induction n generalizing φ with
  | zero => intro c; exact ⟨fun h => by simp [fit] at h, fun h => by simp [fit] at h⟩
  | succ n ih =>
    intro c
    have one : ∀ {t : TypeId} {o off : Nat} {cs : List Value}, cond (Nat.beq o off) (cond (Nat.beq (P.cellsOf t) c.sz) (fit P n c (.ty t)) false) false = true → FsOk enc P w base spare held cs [(t, o)] → off + c.sz ≤ cs.length →
        ∃ y : c.D, RepC w fz bz φ c y ((cs.drop off).take c.sz) ∧ Wf c y := by
      intro t o off cs h hf hl
      have h1 := cond_true_of h
      have h2 := cond_true_of h1.2
      obtain ⟨m, x, hx⟩ := hf (t, o) (by simp)
      rw [nbeq_eq h1.1, nbeq_eq h2.1] at hx
      exact (ih (φ := φ) c).1 h2.2 hx
    refine ⟨fun {t m cs x} h hx => ?_, fun {l off cs} h hf hl => ?_⟩
    · cases c with
      | int k =>
        simp only [fit] at h
        split at h
        · rename_i k' hu
          cases kbeq_eq h
          obtain ⟨n, rfl, _, hw⟩ := DataW.trod_int hu hx
          exact ⟨n, rfl, hw⟩
        · cases h
      | bool =>
        simp only [fit] at h
        split at h
        · rename_i hu
          obtain ⟨b, rfl, _⟩ := DataW.trod_bool hu hx
          exact ⟨b, rfl, trivial⟩
        · cases h
      | str =>
        simp only [fit] at h
        split at h
        · rename_i hu
          obtain ⟨s, rfl, _, hs⟩ := DataW.trod_string hu hx
          exact ⟨s, rfl, hs⟩
        · cases h
      | sl md e =>
        cases md <;> simp only [fit] at h <;> first | (cases h; done) | skip
        split at h
        · rename_i u hu
          have h1 := cond_true_of h
          have h2 := cond_true_of h1.2
          have hce := nbeq_eq h1.1
          have hpos : 0 < e.sz := by simpa [Nat.blt_eq] using h2.1
          rcases DataW.trod_slice hu hx with ⟨rfl, _⟩ | ⟨a, len, cap, elems, rest, m', _, rfl, _, _, hlc, hcm, hel, hget, _⟩
          · exact ⟨[], ⟨none, 0, rfl, Nat.le_refl _, .inl rfl⟩, by simp, by simp⟩
          · obtain ⟨l, hl, hq⟩ := list_of (Q := fun i (y : e.D) => ∃ ys, RepC w fz bz noTok e y ys ∧ Wf e y ∧ ys.length = e.sz ∧ ∀ j v, ys[j]? = some v → w.cell? ((a.add (i * e.sz)).add j) = some v) len (by
              intro i hi
              have hg := hget i hi
              rw [List.getElem?_eq_getElem (by omega)] at hg
              cases hc : w.cells? base (a.add (i * P.cellsOf u)) (P.cellsOf u) with
              | none => rw [hc] at hg; cases hg
              | some ys =>
                rw [hc] at hg
                obtain ⟨y, g1, g2⟩ := (ih (φ := noTok) e).1 h2.2 hg
                obtain ⟨g3, g4⟩ := cells_get hc
                rw [hce] at g3 g4
                exact ⟨y, ys, g1, g2, g3, g4⟩)
            refine ⟨l, ⟨some a, cap, by rw [hl], by omega, ?_⟩, by omega, fun x hx => ?_⟩
            · by_cases h0 : l.length = 0
              · exact .inl h0
              · obtain ⟨ys, _, _, g3, g4⟩ := hq 0 l[0] (List.getElem?_eq_getElem (by omega))
                have hc0 := g4 0 ys[0] (List.getElem?_eq_getElem (by omega))
                have hcell : ∀ b : Addr, w.cell? b = some ys[0] → b.spot = none ∧ b.block < w.heap.size := by
                  intro b hb
                  unfold World.cell? at hb
                  split at hb
                  · rename_i hh
                    refine ⟨?_, (Array.getElem?_eq_some_iff.1 hh).1⟩
                    cases hs : b.spot with
                    | none => rfl
                    | some z => rw [hs] at hb; cases hb
                  · cases hb
                simp only [Nat.zero_mul, Addr.add, if_true] at hc0
                obtain ⟨q1, q2⟩ := hcell a hc0
                obtain ⟨B, off, sp⟩ := a
                simp only [] at q1 q2
                subst q1
                refine .inr ⟨B, off, rfl, hfz B q2, fun i x hi => ?_⟩
                obtain ⟨ys', p1, p2, p3, p4⟩ := hq i x hi
                refine ⟨ys', p1, fun j v hj => ?_⟩
                have := p4 j v hj
                rw [Addr.add_lit, Addr.add_lit] at this
                exact this
            · obtain ⟨i, hi⟩ := List.getElem?_of_mem hx
              exact (hq i x hi).choose_spec.2.1
        · cases h
      | agg c =>
        simp only [fit] at h
        split at h
        · rename_i fs hu
          have h1 := cond_true_of h
          obtain ⟨xs, m', _, _, hlen, hxs, hget⟩ := DataW.trod_struct hu hx
          rw [nbeq_eq h1.1] at hlen
          have hF : FsOk enc P w base spare held cs (fs.toList.map fun f => (f.type, f.offset)) := by
            intro p hp
            obtain ⟨f, hf, rfl⟩ := List.mem_map.1 hp
            obtain ⟨i, hi⟩ := List.getElem?_of_mem hf
            have hg := hget i f (by rw [← Array.getElem?_toList]; exact hi)
            have hi' := (List.getElem?_eq_some_iff.1 hi).1
            rw [Array.length_toList] at hi'
            rw [List.getElem?_eq_getElem (by omega)] at hg
            exact ⟨m', _, hg⟩
          obtain ⟨y, g1, g2⟩ := (ih (φ := φ) c).2 h1.2 hF (by omega)
          refine ⟨y, ?_, g2⟩
          rw [List.drop_zero, List.take_of_length_le (by omega)] at g1
          exact g1
        · rename_i k u hu
          have h1 := cond_true_of h
          obtain ⟨xs, m', _, _, hlen, hxs, hget⟩ := DataW.trod_array hu hx
          rw [nbeq_eq h1.1] at hlen
          have hF : FsOk enc P w base spare held cs ((List.range k).map fun i => (u, i * P.cellsOf u)) := by
            intro p hp
            obtain ⟨i, hi, rfl⟩ := List.mem_map.1 hp
            have hi := List.mem_range.1 hi
            have hg := hget i hi
            rw [List.getElem?_eq_getElem (by omega)] at hg
            exact ⟨m', _, hg⟩
          obtain ⟨y, g1, g2⟩ := (ih (φ := φ) c).2 h1.2 hF (by omega)
          refine ⟨y, ?_, g2⟩
          rw [List.drop_zero, List.take_of_length_le (by omega)] at g1
          exact g1
        · cases h
      | _ => simp [fit] at h
    · rcases l with _ | ⟨⟨t, o⟩, _ | ⟨q, r⟩⟩
      · cases c <;> simp [fit] at h
      · refine one ?_ hf hl
        cases c <;> simpa only [fit] using h
      · cases c <;> simp only [fit] at h <;> first | (cases h; done) | skip
        rename_i a b
        have h1 := cond_true_of h
        have h2 := cond_true_of h1.2
        have h3 := cond_true_of h2.2
        obtain ⟨m, x, hx⟩ := hf (t, o) (by simp)
        rw [nbeq_eq h1.1, nbeq_eq h2.1] at hx
        obtain ⟨y1, g1, g2⟩ := (ih (φ := φ) a).1 h3.1 hx
        simp only [Ty.sz] at hl
        obtain ⟨y2, g3, g4⟩ := (ih (φ := φ) b).2 h3.2 (fun p hp => hf p (List.mem_cons_of_mem _ hp)) (by omega)
        refine ⟨(y1, y2), ⟨_, _, ?_, g1, g3⟩, g2, g4⟩
        simp only [Ty.sz]
        rw [← List.drop_drop, List.take_add]

/-- An argument, as a plain value. -/
theorem arg_rep (hfz : ∀ b, b < w.heap.size → fz b) {c : Ty} {t : TypeId} {v : Value} {d : DataW H} {ps : List MemPlace} (hf : fit P 100 c (.ty t) = true)
    (h : DataW.Trod enc P w base spare held t v d ps) : ∃ y : c.D, RepC w fz bz φ c y v.cells.toList ∧ Wf c y := by
  obtain ⟨m, hm⟩ := h
  exact (trod_rep hfz 100 c).1 hf hm
theorem rep_leaf {c : Ty} (hl : c.leaf = true) {y : c.D} {v : Value} (h : RepC w fz bz φ c y v.cells.toList) (h1 : v.cells = #[v]) : RepV0 w fz bz φ c y v := by
  rw [h1] at h
  exact (repV0_leaf hl).2 h
theorem rep_agg {c : Ty} {y : c.D} {cs : Array Value} (h : RepC w fz bz φ c y (Value.agg cs).cells.toList) : RepV0 w fz bz φ (.agg c) y (.agg cs) := by
  exact ⟨cs.toList, by simp, by simpa [Value.cells] using h⟩

/-- A row's law: the call returns true, and nothing that was there has changed. -/
theorem law_calls {e : Ent} (he : EntOk P e) (hres : e.res = .bool) (hsto : e.sto = []) {x : e.par.D} {y : SD e.sto} {u : e.res.D × SD e.osto} (hu : e.fn x y = some u) (htrue : ∀ v, RepV0 w (fun _ => False) (fun _ => False) (fun _ => undef) e.res u.1 v → v = .bool true) {args : List Value}
    (hr : RepL w (fun b => b < w.heap.size) (fun _ => False) (fun _ => .slice none 0 0) e.par x args) : Calls P e.f args.toArray w fun r w' => r = .returned (.bool true) ∧ Below w.heap.size w w' := by
  have hS : Start w (fun b => b < w.heap.size) (fun _ => False) (fun _ => False) (fun _ => .slice none 0 0) e.par x (cellsOf e.sto y) args := by
    have hc0 : ∀ (l : List (Nat × CTy)) (_ : l = []) (z : SD l), cellsOf l z = [] := by intro l hl z; subst hl; rfl
    have hc := hc0 e.sto hsto y
    refine ⟨hr, by rw [hc]; simp, by rw [hc]; simp, by rw [hc]; simp, fun b h => h, fun b h => h.elim, fun _ => rfl⟩
  refine (he.run x y u hu args w _ _ _ _ hS).mono fun r w' hr => ?_
  cases r with
  | returned v =>
    obtain ⟨fz', φ', hF⟩ := hr
    refine ⟨?_, hF.os, hF.tape, hF.output, hF.size, fun k hk => hF.frame k hk (fun h => h)⟩
    have hv := hF.rep
    have : v = .bool true := by
      refine htrue v ?_
      revert hv
      generalize u.1 = z
      revert z
      rw [hres]
      intro z hv
      exact hv
    rw [this]
  | panicked ch => exact hr.elim
  | outgrown => exact hr.elim
end
end Go.Pv
