/- Pv, sixteenth text: calls. -/
import Derived.Test.YtdkinmgpclbedaaDoorPvBuild
set_option linter.unusedVariables false
set_option linter.unusedSimpArgs false
namespace Go.Pv
open Go Go.RowKit

/-! ### other names -/
def Cell.ren (ρ : Nat → Nat) : Cell → Cell
  | .box t x => .box (t.ren ρ) (t.renD ρ x)
  | .arr e l => .arr e l
def Cell.noBor : Cell → Bool
  | .box t _ => t.noBor
  | .arr _ _ => true

section
variable {w : World} {fz bz bz2 : Nat → Prop} {φ φ2 : Nat → Value} {ρ : Nat → Nat}

theorem RepC.ren : ∀ {t : Ty} {x : t.D} {cs : List Value}, t.noBor = true → RepC w fz bz φ t x cs → (∀ k ∈ t.toks, φ2 (ρ k) = φ k) → RepC w fz bz2 φ2 (t.ren ρ) (t.renD ρ x) cs := by
  intro t
  induction t with
  | unit => intro x cs _ h _; exact h
  | int k => intro x cs _ h _; exact h
  | bool => intro x cs _ h _; exact h
  | str => intro x cs _ h _; exact h
  | nilp => intro x cs _ h _; exact h
  | ubool => intro x cs _ h _; exact h
  | sl m e ih =>
    intro x cs hb h hk
    cases m <;> simp only [Ty.noBor] at hb <;> first | (cases hb; done) | skip
    · exact RepC.closed (t := .sl .frz e) (fun _ _ => rfl) (fun _ h => h) hb h
    · simp only [Ty.ren, Md.ren, Ty.renD, Md.renD, RepC] at h ⊢; rw [hk _ (by simp [Ty.toks])]; exact h
    · simp only [Ty.ren, Md.ren, Ty.renD, Md.renD, RepC] at h ⊢; rw [hk _ (by simp [Ty.toks])]; exact h
    · exact h
  | ptr k p o => intro x cs _ h hk; simp only [Ty.ren, Ty.renD, RepC] at h ⊢; rw [hk _ (by simp [Ty.toks])]; exact h
  | ep k p o s => intro x cs _ h hk; simp only [Ty.ren, Ty.renD, RepC] at h ⊢; rw [hk _ (by simp [Ty.toks])]; exact h
  | rp t ih => intro x cs hb h hk; cases hb
  | fn f c ih =>
    intro x cs hb h hk; simp only [Ty.ren, Ty.renD, RepC] at h ⊢
    obtain ⟨vs, rfl, h⟩ := h
    exact ⟨vs, rfl, ih hb h hk⟩
  | agg t ih => intro x cs hb h hk; simp only [Ty.ren, Ty.renD, RepC] at h ⊢; exact ih hb h hk
  | pair a b iha ihb =>
    intro x cs hb h hk; simp only [Ty.ren, Ty.renD, RepC] at h ⊢
    have hb := cond_true_of hb
    obtain ⟨c, d, rfl, h1, h2⟩ := h
    exact ⟨c, d, rfl, iha hb.1 h1 (fun k hk' => hk k (by simp [Ty.toks, hk'])), ihb hb.2 h2 (fun k hk' => hk k (by simp [Ty.toks, hk']))⟩
  | tup t ih => intro x cs hb h hk; simp only [RepC] at h
theorem RepV0.ren {t : Ty} {x : t.D} {v : Value} (hb : t.noBor = true) (h : RepV0 w fz bz φ t x v) (hk : ∀ k ∈ t.toks, φ2 (ρ k) = φ k) : RepV0 w fz bz2 φ2 (t.ren ρ) (t.renD ρ x) v := by
  cases t <;> simp only [RepV0] at h <;> first
    | exact h
    | (exact h.elim)
    | (obtain ⟨cs, rfl, h⟩ := h; exact ⟨cs, rfl, RepC.ren (t := .agg _) hb h hk⟩)
    | exact RepC.ren hb h hk
theorem RepL.ren : ∀ {t : Ty} {x : t.D} {vs : List Value}, t.noBor = true → RepL w fz bz φ t x vs → (∀ k ∈ t.toks, φ2 (ρ k) = φ k) → RepL w fz bz2 φ2 (t.ren ρ) (t.renD ρ x) vs := by
  intro t
  induction t with
  | unit => intro x vs hb h hk; exact h
  | pair a b iha ihb =>
    intro x vs hb h hk; simp only [RepL] at h
    have hb := cond_true_of hb
    obtain ⟨v, r, rfl, h1, h2⟩ := h
    exact ⟨v, r, rfl, RepV0.ren hb.1 h1 (fun k hk' => hk k (by simp [Ty.toks, hk'])), ihb hb.2 h2 (fun k hk' => hk k (by simp [Ty.toks, hk']))⟩
  | _ =>
    intro x vs hb h hk; simp only [RepL] at h
    obtain ⟨v, rfl, h1⟩ := h
    exact ⟨v, rfl, RepV0.ren hb h1 hk⟩
theorem RepV.ren {t : Ty} {x : t.D} {v : Value} (hb : t.noBor = true) (h : RepV w fz bz φ t x v) (hk : ∀ k ∈ t.toks, φ2 (ρ k) = φ k) : RepV w fz bz2 φ2 (t.ren ρ) (t.renD ρ x) v := by
  cases t <;> simp only [RepV] at h <;> first
    | (obtain ⟨vs, rfl, h⟩ := h; exact ⟨vs, rfl, RepL.ren hb h hk⟩)
    | exact RepV0.ren (bz2 := bz2) hb h hk
theorem CellAt.ren {h : Value} {c : Cell} (hb : c.noBor = true) (hc : CellAt w fz bz φ h c) (hk : ∀ k ∈ c.toks, φ2 (ρ k) = φ k) : CellAt w fz bz2 φ2 h (c.ren ρ) := by
  cases c with
  | arr e l => exact ⟨hc.1, hc.2.1, hc.2.2.zone hc.1 (fun _ h => h)⟩
  | box t x =>
    obtain ⟨B, off, ety, ar, ys, rfl, h5, h6, h7⟩ := hc
    exact ⟨B, off, ety, ar, ys, rfl, h5, RepC.ren hb h6 hk, h7⟩
theorem Ty.toks_ren : ∀ {t : Ty} {k : Nat}, k ∈ (t.ren ρ).toks → ∃ j ∈ t.toks, k = ρ j := by
  intro t
  induction t with
  | sl m e ih => intro k h; cases m <;> simp [Ty.ren, Md.ren, Ty.toks] at h ⊢ <;> exact h
  | ptr j p o => intro k h; simpa [Ty.ren, Ty.toks] using h
  | ep j p o s => intro k h; simpa [Ty.ren, Ty.toks] using h
  | fn f c ih => intro k h; exact ih h
  | agg t ih => intro k h; exact ih h
  | pair a b iha ihb =>
    intro k h
    simp only [Ty.ren, Ty.toks, List.mem_append] at h
    rcases h with h | h
    · obtain ⟨j, q1, q2⟩ := iha h; exact ⟨j, by simp [Ty.toks, q1], q2⟩
    · obtain ⟨j, q1, q2⟩ := ihb h; exact ⟨j, by simp [Ty.toks, q1], q2⟩
  | tup t ih => intro k h; exact ih h
  | _ => intro k h; simp [Ty.ren, Ty.toks] at h
theorem Cell.toks_ren {c : Cell} {k : Nat} (h : k ∈ (c.ren ρ).toks) : ∃ j ∈ c.toks, k = ρ j := by
  cases c with
  | arr e l => simp [Cell.ren, Cell.toks] at h
  | box t x => exact Ty.toks_ren h
theorem renCell_eq {c : CTy} {x : c.D} : c.renCell ρ x = (c.cell x).ren ρ := by cases c <;> rfl

theorem unpack_ok : ∀ {l : List (Nat × CTy)} {x : SD l} {k : Nat} {c : Option Cell}, lk k (unpack ρ l x) = some c → ∃ p ∈ cellsOf l x, k = ρ p.1 ∧ c = some (p.2.ren ρ)
  | [], x, k, c, h => by simp [unpack, lk] at h
  | [(j, d)], x, k, c, h => by
    simp only [unpack, lk_cons] at h
    split at h
    · rename_i e; injection h with h; exact ⟨(j, d.cell x), by simp [cellsOf], e.symm, by rw [← h, renCell_eq]⟩
    · simp [lk] at h
  | (j, d) :: d2 :: r, x, k, c, h => by
    simp only [unpack, lk_cons] at h
    split at h
    · rename_i e; injection h with h; exact ⟨(j, d.cell x.1), by simp [cellsOf], e.symm, by rw [← h, renCell_eq]⟩
    · obtain ⟨p, q1, q2⟩ := unpack_ok h
      exact ⟨p, by simp [cellsOf, q1], q2⟩
theorem unpack_none : ∀ {l : List (Nat × CTy)} {x : SD l} {k : Nat}, lk k (unpack ρ l x) = none → ∀ p ∈ cellsOf l x, ρ p.1 ≠ k
  | [], x, k, h, p, hp => by simp [cellsOf] at hp
  | [(j, d)], x, k, h, p, hp => by
    simp only [unpack, lk_cons] at h
    split at h
    · cases h
    · rename_i e; simp only [cellsOf, List.mem_singleton] at hp; subst hp; exact e
  | (j, d) :: d2 :: r, x, k, h, p, hp => by
    simp only [unpack, lk_cons] at h
    split at h
    · cases h
    · rename_i e
      simp only [cellsOf, List.mem_cons] at hp
      rcases hp with rfl | hp
      · exact e
      · exact unpack_none h p hp
end

theorem ltAll_ok {n k : Nat} : ∀ {l : List Nat}, ltAll n l = true → k ∈ l → k < n
  | [], _, h => by simp at h
  | j :: r, h, hk => by
    have h := cond_true_of h
    rcases List.mem_cons.1 hk with rfl | hk
    · simpa [Nat.blt_eq] using h.1
    · exact ltAll_ok h.2 hk
theorem hasKey_ok {j : Nat} : ∀ {l : List (Nat × CTy)}, hasKey j l = true → ∀ (x : SD l), ∃ p ∈ cellsOf l x, p.1 = j
  | [], h, x => by cases h
  | [(i, c)], h, x => by
    simp only [hasKey] at h
    by_cases e : Nat.beq i j = true
    · exact ⟨_, by simp only [cellsOf]; exact List.mem_singleton.2 rfl, nbeq_eq e⟩
    · rw [Bool.eq_false_iff.2 e] at h; cases h
  | (i, c) :: d :: r, h, x => by
    rw [hasKey] at h
    by_cases e : Nat.beq i j = true
    · exact ⟨_, by simp only [cellsOf]; exact List.mem_cons_self, nbeq_eq e⟩
    · rw [Bool.eq_false_iff.2 e] at h
      obtain ⟨p, q1, q2⟩ := hasKey_ok (l := d :: r) h x.2
      exact ⟨p, by simp only [cellsOf]; exact List.mem_cons_of_mem _ q1, q2⟩
theorem keysIn_ok {l : List (Nat × CTy)} {j : Nat} {s : Src} : ∀ {m : List (Nat × Src)}, keysIn l m = true → lk j m = some s → hasKey j l = true
  | [], _, h => by simp [lk] at h
  | (i, t) :: r, h, hj => by
    have h := cond_true_of h
    rw [lk_cons] at hj
    split at hj
    · rename_i e; subst e; exact h.1
    · exact keysIn_ok h.2 hj
theorem cellsOf_key : ∀ {l : List (Nat × CTy)} {x : SD l} {p : Nat × Cell}, p ∈ cellsOf l x → hasKey p.1 l = true
  | [], x, p, h => by simp [cellsOf] at h
  | [(i, c)], x, p, h => by
    simp only [cellsOf, List.mem_singleton] at h; subst h
    simp [hasKey]
  | (i, c) :: d :: r, x, p, h => by
    simp only [cellsOf, List.mem_cons] at h
    rw [hasKey]
    rcases h with rfl | h
    · simp
    · rw [cellsOf_key h]; cases Nat.beq i p.1 <;> rfl
theorem goodN_rest {n : Nat} {i : Nat} {c : CTy} {r : List (Nat × CTy)} (hg : goodN n ((i, c) :: r) = true) : i < n ∧ c.goodN n = true ∧ goodN n r = true := by
  have g1 := cond_true_of hg
  have g2 := cond_true_of g1.2
  refine ⟨by simpa [Nat.blt_eq] using g1.1, g2.1, ?_⟩
  have := g2.2
  by_cases hh : hasKey i r = true
  · rw [hh] at this; cases this
  · rw [Bool.eq_false_iff.2 hh] at this; exact this
theorem goodN_cell {n : Nat} {c : CTy} {x : c.D} (h : c.goodN n = true) : ∀ k ∈ (c.cell x).toks, k < n := by
  cases c with
  | arr e => simp [CTy.cell, Cell.toks]
  | box t => exact fun k hk => ltAll_ok h hk
theorem goodN_ok {n : Nat} : ∀ {l : List (Nat × CTy)} {x : SD l}, goodN n l = true → ∀ p ∈ cellsOf l x, p.1 < n ∧ ∀ k ∈ p.2.toks, k < n
  | [], x, _, p, h => by simp [cellsOf] at h
  | [(i, c)], x, hg, p, h => by
    simp only [cellsOf, List.mem_singleton] at h; subst h
    obtain ⟨g1, g2, _⟩ := goodN_rest hg
    exact ⟨g1, goodN_cell g2⟩
  | (i, c) :: d :: r, x, hg, p, h => by
    obtain ⟨g1, g2, g3⟩ := goodN_rest hg
    simp only [cellsOf, List.mem_cons] at h
    rcases h with rfl | h
    · exact ⟨g1, goodN_cell g2⟩
    · exact goodN_ok (l := d :: r) g3 p h
theorem goodN_fine {n : Nat} : ∀ {l : List (Nat × CTy)}, goodN n l = true → fineAll l = true
  | [], _ => rfl
  | (i, c) :: r, hg => by
    obtain ⟨g1, g2, g3⟩ := goodN_rest hg
    have hc : c.fine = true := by
      cases c with
      | arr e => exact g2
      | box t => rfl
    simp only [fineAll, hc, cond_true]
    exact goodN_fine g3
theorem goodAll_ok {l : List (Nat × CTy)} {x : SD l} (h : goodAll l = true) : ∀ p ∈ cellsOf l x, p.1 < 64 ∧ ∀ k ∈ p.2.toks, k < 64 := goodN_ok h
theorem goodAll_fine {l : List (Nat × CTy)} (h : goodAll l = true) : fineAll l = true := goodN_fine h
theorem noBorAll_ok : ∀ {l : List (Nat × CTy)} {x : SD l}, noBorAll l = true → ∀ p ∈ cellsOf l x, p.2.noBor = true
  | [], x, _, p, h => by simp [cellsOf] at h
  | [(i, .box t)], x, hg, p, h => by
    simp only [cellsOf, List.mem_singleton] at h; subst h
    exact (cond_true_of hg).1
  | [(i, .arr e)], x, hg, p, h => by
    simp only [cellsOf, List.mem_singleton] at h; subst h; rfl
  | (i, .box t) :: d :: r, x, hg, p, h => by
    have g1 := cond_true_of hg
    simp only [cellsOf, List.mem_cons] at h
    rcases h with rfl | h
    · exact g1.1
    · exact noBorAll_ok (l := d :: r) g1.2 p h
  | (i, .arr e) :: d :: r, x, hg, p, h => by
    simp only [cellsOf, List.mem_cons] at h
    rcases h with rfl | h
    · rfl
    · exact noBorAll_ok (l := d :: r) hg p h

theorem toks_mem {j k : Nat} {s : Src} : ∀ {m : List (Nat × Src)}, lk j m = some s → srcTok s = some k → k ∈ Acc.toks m
  | [], h, _ => by simp [lk] at h
  | (i, t) :: r, h, hs => by
    rw [lk_cons] at h
    simp only [Acc.toks]
    split at h
    · injection h with h; subst h; rw [hs]; simp
    · have := toks_mem h hs
      cases srcTok t <;> simp [this]
theorem nodupN_ok {k : Nat} {r : List Nat} (h : nodupN (k :: r) = true) : k ∉ r ∧ nodupN r = true := by
  simp only [nodupN] at h
  by_cases e : elemN k r = true
  · rw [e] at h; cases h
  · rw [Bool.eq_false_iff.2 e] at h
    exact ⟨fun hm => e (elemN_of_mem hm), h⟩
theorem toks_inj {i j k : Nat} {s t : Src} : ∀ {m : List (Nat × Src)}, nodupN (Acc.toks m) = true → lk i m = some s → lk j m = some t → srcTok s = some k → srcTok t = some k → i = j
  | [], _, h, _, _, _ => by simp [lk] at h
  | (q, u) :: r, hn, hi, hj, hs, ht => by
    rw [lk_cons] at hi hj
    simp only [Acc.toks] at hn
    by_cases e1 : q = i <;> by_cases e2 : q = j
    · rw [← e1, ← e2]
    · rw [if_pos e1] at hi; rw [if_neg e2] at hj
      injection hi with hi; subst hi
      rw [hs] at hn
      exact absurd (toks_mem hj ht) (nodupN_ok hn).1
    · rw [if_neg e1] at hi; rw [if_pos e2] at hj
      injection hj with hj; subst hj
      rw [ht] at hn
      exact absurd (toks_mem hi hs) (nodupN_ok hn).1
    · rw [if_neg e1] at hi; rw [if_neg e2] at hj
      have hn' : nodupN (Acc.toks r) = true := by
        cases hu : srcTok u with
        | none => rw [hu] at hn; exact hn
        | some p => rw [hu] at hn; exact (nodupN_ok hn).2
      exact toks_inj hn' hi hj hs ht
theorem disjN_ok {k : Nat} : ∀ {l m : List Nat}, disjN l m = true → k ∈ l → k ∉ m
  | [], _, _, h => by simp at h
  | j :: r, m, h, hk => by
    simp only [disjN] at h
    by_cases e : elemN j m = true
    · rw [e] at h; cases h
    · rw [Bool.eq_false_iff.2 e] at h
      rcases List.mem_cons.1 hk with rfl | hk
      · exact fun hm => e (elemN_of_mem hm)
      · exact disjN_ok h hk
theorem mem_toks {k : Nat} : ∀ {m : List (Nat × Src)}, k ∈ Acc.toks m → ∃ p ∈ m, srcTok p.2 = some k
  | [], h => by simp [Acc.toks] at h
  | (i, s) :: r, h => by
    simp only [Acc.toks] at h
    cases hs : srcTok s with
    | none =>
      rw [hs] at h
      obtain ⟨p, q1, q2⟩ := mem_toks h
      exact ⟨p, by simp [q1], q2⟩
    | some j =>
      rw [hs] at h
      rcases List.mem_cons.1 h with rfl | h
      · exact ⟨(i, s), by simp, hs⟩
      · obtain ⟨p, q1, q2⟩ := mem_toks h
        exact ⟨p, by simp [q1], q2⟩

/-! ### what hangs on nothing frozen -/
section
variable {w : World} {fz bz fz2 bz2 : Nat → Prop} {φ : Nat → Value}
theorem RepC.flat : ∀ {t : Ty} {x : t.D} {cs : List Value}, t.flat = true → RepC w fz bz φ t x cs → RepC w fz2 bz2 φ t x cs := by
  intro t
  induction t with
  | unit => intro x cs _ h; exact h
  | int k => intro x cs _ h; exact h
  | bool => intro x cs _ h; exact h
  | str => intro x cs _ h; exact h
  | nilp => intro x cs _ h; exact h
  | ubool => intro x cs _ h; exact h
  | sl m e ih => intro x cs hf h; cases m <;> first | (cases hf; done) | exact h
  | ptr k p o => intro x cs _ h; exact h
  | ep k p o s => intro x cs _ h; exact h
  | rp t ih => intro x cs hf h; cases hf
  | fn f c ih =>
    intro x cs hf h; simp only [RepC] at h ⊢
    obtain ⟨vs, rfl, h⟩ := h
    exact ⟨vs, rfl, ih hf h⟩
  | agg t ih => intro x cs hf h; simp only [RepC] at h ⊢; exact ih hf h
  | pair a b iha ihb =>
    intro x cs hf h; simp only [RepC] at h ⊢
    have hf := cond_true_of hf
    obtain ⟨c, d, rfl, h1, h2⟩ := h
    exact ⟨c, d, rfl, iha hf.1 h1, ihb hf.2 h2⟩
  | tup t ih => intro x cs hf h; simp only [RepC] at h
theorem RepV0.flat {t : Ty} {x : t.D} {v : Value} (hf : t.flat = true) (h : RepV0 w fz bz φ t x v) : RepV0 w fz2 bz2 φ t x v := by
  cases t <;> simp only [RepV0] at h ⊢ <;> first
    | exact h
    | (obtain ⟨cs, rfl, h⟩ := h; exact ⟨cs, rfl, RepC.flat (t := .agg _) hf h⟩)
    | exact RepC.flat hf h
theorem RepL.flat : ∀ {t : Ty} {x : t.D} {vs : List Value}, t.flat = true → RepL w fz bz φ t x vs → RepL w fz2 bz2 φ t x vs := by
  intro t
  induction t with
  | unit => intro x vs hf h; exact h
  | pair a b iha ihb =>
    intro x vs hf h; simp only [RepL] at h ⊢
    have hf := cond_true_of hf
    obtain ⟨v, r, rfl, h1, h2⟩ := h
    exact ⟨v, r, rfl, RepV0.flat hf.1 h1, ihb hf.2 h2⟩
  | _ =>
    intro x vs hf h; simp only [RepL] at h ⊢
    obtain ⟨v, rfl, h1⟩ := h
    exact ⟨v, rfl, RepV0.flat hf h1⟩
theorem RepV.flat {t : Ty} {x : t.D} {v : Value} (hf : t.flat = true) (h : RepV w fz bz φ t x v) : RepV w fz2 bz2 φ t x v := by
  cases t <;> simp only [RepV] at h ⊢ <;> first
    | (obtain ⟨vs, rfl, h⟩ := h; exact ⟨vs, rfl, RepL.flat hf h⟩)
    | exact RepV0.flat hf h
theorem CellAt.flat {c : CTy} {x : c.D} {h : Value} (hf : c.flat = true) (hc : CellAt w fz bz φ h (c.cell x)) : CellAt w fz2 bz2 φ h (c.cell x) := by
  cases c with
  | arr e =>
    obtain ⟨h1, h2, A, c, rfl, h3, h4⟩ := hc
    refine ⟨h1, h2, A, c, rfl, h3, h4.imp id ?_⟩
    rintro ⟨B, off, ety, ar, rfl, h5, h6, h7⟩
    refine ⟨B, off, ety, ar, rfl, h5, h6, fun i y hi => ?_⟩
    obtain ⟨ys, h8, h9⟩ := h7 i y hi
    exact ⟨ys, RepC.flat hf h8, h9⟩
  | box t =>
    obtain ⟨B, off, ety, ar, ys, rfl, h5, h6, h7⟩ := hc
    exact ⟨B, off, ety, ar, ys, rfl, h5, RepC.flat hf h6, h7⟩
theorem flatAll_ok : ∀ {l : List (Nat × CTy)} {x : SD l}, flatAll l = true → ∀ p ∈ cellsOf l x, ∃ (c : CTy) (y : c.D), p.2 = c.cell y ∧ c.flat = true
  | [], x, _, p, h => by simp [cellsOf] at h
  | [(i, c)], x, hg, p, h => by
    simp only [cellsOf, List.mem_singleton] at h; subst h
    exact ⟨c, x, rfl, (cond_true_of hg).1⟩
  | (i, c) :: d :: r, x, hg, p, h => by
    have g := cond_true_of hg
    simp only [cellsOf, List.mem_cons] at h
    rcases h with rfl | h
    · exact ⟨c, x.1, rfl, g.1⟩
    · exact flatAll_ok (l := d :: r) g.2 p h
end

/-! ### entries -/
/-- What a call begins with. -/
structure Start (w : World) (fz bz W : Nat → Prop) (φ : Nat → Value) (par : Ty) (x : par.D) (cells : List (Nat × Cell)) (args : List Value) : Prop where
  rep : RepL w fz bz φ par x args
  cell : ∀ p ∈ cells, CellAt w fz bz φ (φ p.1) p.2
  inj : ∀ p ∈ cells, ∀ q ∈ cells, ∀ b, blkOf (φ p.1) = some b → blkOf (φ q.1) = some b → p.1 = q.1
  own : ∀ p ∈ cells, ∀ b, blkOf (φ p.1) = some b → ¬ fz b ∧ ¬ bz b ∧ W b
  fzlt : ∀ b, fz b → b < w.heap.size
  bzlt : ∀ b, bz b → b < w.heap.size
  one : ∀ j, (φ j).oneCell' = true
/-- What it ends with. -/
structure Finish (w0 : World) (fzs bz W : Nat → Prop) (φ0 : Nat → Value) (sto : List (Nat × CTy)) (res : Ty) (u : res.D) (cells : List (Nat × Cell)) (v : Value) (w : World) (fz : Nat → Prop) (φ : Nat → Value) : Prop where
  rep : RepV w fz bz φ res u v
  cell : ∀ p ∈ cells, CellAt w fz bz φ (φ p.1) p.2
  inj : ∀ p ∈ cells, ∀ q ∈ cells, ∀ b, blkOf (φ p.1) = some b → blkOf (φ q.1) = some b → p.1 = q.1
  own : ∀ p ∈ cells, ∀ b, blkOf (φ p.1) = some b → ¬ fz b ∧ ¬ bz b ∧ (W b ∨ w0.heap.size ≤ b)
  fz0 : ∀ b, fzs b → fz b
  fz1 : ∀ b, fz b → fzs b ∨ W b ∨ w0.heap.size ≤ b
  fzlt : ∀ b, fz b → b < w.heap.size
  kept : ∀ j, hasKey j sto = true → φ j = φ0 j
  one : ∀ j, (φ j).oneCell' = true
  size : w0.heap.size ≤ w.heap.size
  frame : ∀ b, b < w0.heap.size → ¬ W b → w.heap[b]? = w0.heap[b]?
  os : w.os = w0.os
  tape : w.tape = w0.tape
  output : w.output = w0.output

structure FnOk (P : Program) (f : Nat) : Prop where
  get : ∃ fn, P.funcs[f]? = some fn ∧ (fn.name == "runtime.NumGoroutine") = false ∧ fn.body.isSome = true
structure EntOk (P : Program) (e : Ent) : Prop where
  good : e.good = true
  fn : FnOk P e.f
  run : ∀ (x : e.par.D) (y : SD e.sto) u, e.fn x y = some u → ∀ (args : List Value) w fz bz W φ, Start w fz bz W φ e.par x (cellsOf e.sto y) args →
    Calls P e.f args.toArray w fun r w' => match r with
      | .returned v => ∃ fz' φ', Finish w fz bz W φ e.sto e.res u.1 (cellsOf e.osto u.2) v w' fz' φ'
      | _ => False
def TabOk (P : Program) (l : List Ent) : Prop := ∀ e ∈ l, EntOk P e

theorem entsOf_mem {f : Nat} {e : Ent} : ∀ {l : List Ent}, e ∈ entsOf f l → e ∈ l ∧ e.f = f
  | [], h => by simp [entsOf] at h
  | d :: r, h => by
    simp only [entsOf] at h
    by_cases hf : Nat.beq d.f f = true
    · rw [hf] at h
      rcases List.mem_cons.1 h with rfl | h
      · exact ⟨by simp, nbeq_eq hf⟩
      · have := entsOf_mem h; exact ⟨by simp [this.1], this.2⟩
    · rw [Bool.eq_false_iff.2 hf] at h
      have := entsOf_mem h; exact ⟨by simp [this.1], this.2⟩
theorem callWith_ok {R : Type} {r : R} {st : Sg} {nx : Nat} {v : PV} {K : Dl → Option R} : ∀ {l : List Ent}, callWith st nx v K l = some r → ∃ e ∈ l, ∃ x y a u, pack st e.par e.sto v Acc.nil = some (x, y, a) ∧ e.fn x y = some u ∧
    K ⟨⟨e.res.ren (newName a.m nx), e.res.renD (newName a.m nx) u.1⟩, unpack (newName a.m nx) e.osto u.2 ++ killed (Acc.toks a.m ++ e.gone a.f)⟩ = some r
  | [], h => by simp [callWith] at h
  | e :: l, h => by
    simp only [callWith] at h
    split at h
    · rename_i x y a hp
      split at h
      · rename_i u hu
        exact ⟨e, by simp, x, y, a, u, hp, hu, h⟩
      · cases h
    · obtain ⟨e', h1, h2⟩ := callWith_ok h
      exact ⟨e', by simp [h1], h2⟩

theorem storAll_ok : ∀ {l : List PV}, storAll l = true → ∀ v ∈ l, v.t.stor = true
  | [], _, v, h => by simp at h
  | u :: r, h, v, hv => by
    have h := cond_true_of h
    rcases List.mem_cons.1 hv with rfl | hv
    · exact h.1
    · exact storAll_ok h.2 v hv
theorem pvs_rep {w : World} {fz bz : Nat → Prop} {φ : Nat → Value} : ∀ {l : List PV} {vs : List Value}, (∀ v ∈ l, v.t.stor = true) → RepAll w fz bz φ l vs → RepL w fz bz φ (pvs l).t (pvs l).x vs ∧ ∀ k ∈ (pvs l).t.toks, ∃ v ∈ l, k ∈ v.t.toks
  | [], vs, _, h => by simp only [RepAll] at h; subst h; exact ⟨rfl, by simp [pvs, Ty.toks]⟩
  | [v], vs, hs, h => by
    simp only [RepAll] at h
    obtain ⟨u, us, rfl, h1, rfl⟩ := h
    have hv := hs v (by simp)
    refine ⟨?_, fun k hk => ⟨v, by simp, hk⟩⟩
    show RepL w fz bz φ v.t v.x [u]
    have h1 := h1.to0 hv
    obtain ⟨tv, xv⟩ := v
    cases tv <;> simp only [Ty.stor] at hv <;> first | (cases hv; done) | exact ⟨u, rfl, h1⟩
  | v :: v2 :: r, vs, hs, h => by
    rw [RepAll] at h
    obtain ⟨u, us, rfl, h1, h2⟩ := h
    obtain ⟨q1, q2⟩ := pvs_rep (l := v2 :: r) (fun v hv => hs v (by simp [List.mem_cons.1 hv])) h2
    refine ⟨⟨u, us, rfl, h1.to0 (hs v (by simp)), q1⟩, fun k hk => ?_⟩
    rw [pvs] at hk
    simp only [Ty.toks, List.mem_append] at hk
    rcases hk with hk | hk
    · exact ⟨v, by simp, hk⟩
    · obtain ⟨v', q3, q4⟩ := q2 k hk; exact ⟨v', by simp [List.mem_cons.1 q3], q4⟩
theorem RepAll.append {w : World} {fz bz : Nat → Prop} {φ : Nat → Value} : ∀ {l m : List PV} {vs us : List Value}, RepAll w fz bz φ l vs → RepAll w fz bz φ m us → RepAll w fz bz φ (l ++ m) (vs ++ us)
  | [], m, vs, us, h, g => by simp only [RepAll] at h; subst h; exact g
  | v :: l, m, vs, us, h, g => by
    simp only [RepAll] at h
    obtain ⟨u, q, rfl, h1, h2⟩ := h
    exact ⟨u, q ++ us, rfl, h1, RepAll.append h2 g⟩
theorem unpairs_rep {w : World} {fz bz : Nat → Prop} {φ : Nat → Value} : ∀ {t : Ty} {x : t.D} {cs : List Value}, ptrs (unpairs t x) = true → RepC w fz bz φ t x cs → RepAll w fz bz φ (unpairs t x) cs ∧ (∀ v ∈ unpairs t x, v.t.stor = true) ∧ ∀ v ∈ unpairs t x, ∀ k ∈ v.t.toks, k ∈ t.toks := by
  intro t
  induction t with
  | unit => intro x cs _ h; exact ⟨h, by simp [unpairs], by simp [unpairs]⟩
  | ptr k p o =>
    intro x cs _ h
    simp only [RepC] at h
    obtain ⟨B, off, h1, rfl⟩ := h
    refine ⟨⟨_, [], rfl, ⟨B, off, h1, rfl⟩, rfl⟩, by simp [unpairs, Ty.stor], by simp [unpairs]⟩
  | rp t _ =>
    intro x cs _ h
    have h0 := h
    simp only [RepC] at h
    obtain ⟨B, off, ys, rfl, h1⟩ := h
    exact ⟨⟨_, [], rfl, h0, rfl⟩, by simp [unpairs, Ty.stor], by simp [unpairs]⟩
  | pair a b iha ihb =>
    intro x cs hp h
    simp only [RepC] at h
    obtain ⟨c, d, rfl, h1, h2⟩ := h
    cases a <;> simp only [unpairs, ptrs] at hp <;> first | (cases hp; done) | skip
    · simp only [RepC] at h1
      obtain ⟨B, off, h3, rfl⟩ := h1
      obtain ⟨g1, g2, g3⟩ := ihb hp h2
      refine ⟨⟨_, d, rfl, ⟨B, off, h3, rfl⟩, g1⟩, ?_, ?_⟩
      · intro v hv
        simp only [unpairs] at hv
        rcases List.mem_cons.1 hv with rfl | hv
        · rfl
        · exact g2 v hv
      · intro v hv k hk
        simp only [unpairs] at hv
        rcases List.mem_cons.1 hv with rfl | hv
        · simp [Ty.toks] at hk ⊢; exact .inl hk
        · simp [Ty.toks]; exact .inr (g3 v hv k hk)
    · have h0 := h1
      simp only [RepC] at h1
      obtain ⟨B, off, ys, rfl, h3⟩ := h1
      obtain ⟨g1, g2, g3⟩ := ihb hp h2
      refine ⟨⟨_, d, rfl, h0, g1⟩, ?_, ?_⟩
      · intro v hv
        simp only [unpairs] at hv
        rcases List.mem_cons.1 hv with rfl | hv
        · rfl
        · exact g2 v hv
      · intro v hv k hk
        simp only [unpairs] at hv
        rcases List.mem_cons.1 hv with rfl | hv
        · simp [Ty.toks] at hk
        · simp [Ty.toks]; exact g3 v hv k hk
  | _ => intro x cs hp h; simp [unpairs, ptrs] at hp
end Go.Pv
