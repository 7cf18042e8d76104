/- Pv, second text: what a value of the evaluator stands for in a world of the machine. -/
import Derived.Test.YtdkinmgpclbedaaDoorPvCore
import Derived.Below
import Derived.RowKit3
set_option linter.unusedVariables false
namespace Go.Pv

/-- The block of a token's value; none if it has no cells. -/
def blkOf : Value → Option Nat
  | .slice (some a) _ c => if c = 0 then none else some a.block
  | .pointer (some a) => some a.block
  | _ => none

def CellsAt (w : World) (B o : Nat) (cs : List Value) : Prop := ∀ j v, cs[j]? = some v → w.cell? ⟨B, o + j, none⟩ = some v

/-- What a part of an owned slice looks like. -/
def SubHdr (h : Value) (sz o n : Nat) (v : Value) : Prop :=
  ∃ A N c A', h = .slice A N c ∧ o + n ≤ N ∧ v = .slice A' n (c - o) ∧ (c = o ∨ A' = A.map (·.add (o * sz)))

/-- What elements are told under: they have no tokens of their own. -/
def noTok : Nat → Value := fun _ => undef
/-- A value, by its cells. fz: blocks that nobody writes any more; bz: blocks that nobody writes while this call lasts; φ: what the tokens stand for. -/
def RepC (w : World) (fz bz : Nat → Prop) : (Nat → Value) → (t : Ty) → t.D → List Value → Prop
  | _, .unit, _, cs => cs = []
  | _, .int k, x, cs => cs = [.int k x]
  | _, .bool, x, cs => cs = [.bool x]
  | _, .str, x, cs => cs = [.string x]
  | _, .nilp, _, cs => cs = [.pointer none]
  | _, .ubool, _, cs => ∃ b, cs = [.bool b]
  | _, .sl .frz e, l, cs => ∃ A c, cs = [.slice A l.length c] ∧ l.length ≤ c ∧ (l.length = 0 ∨ ∃ B off, A = some ⟨B, off, none⟩ ∧ fz B ∧
      ∀ i x, l[i]? = some x → ∃ ys, RepC w fz bz noTok e x ys ∧ CellsAt w B (off + i * e.sz) ys)
  | _, .sl .bor e, l, cs => ∃ A c, cs = [.slice A l.length c] ∧ l.length ≤ c ∧ (l.length = 0 ∨ ∃ B off, A = some ⟨B, off, none⟩ ∧ (fz B ∨ bz B) ∧
      ∀ i x, l[i]? = some x → ∃ ys, RepC w fz bz noTok e x ys ∧ CellsAt w B (off + i * e.sz) ys)
  | φ, .sl (.own k) _, _, cs => cs = [φ k]
  | φ, .sl (.osub k) e, p, cs => ∃ v, cs = [v] ∧ SubHdr (φ k) e.sz p.1 p.2 v
  | _, .sl .emp _, _, cs => ∃ A, cs = [.slice A 0 0]
  | φ, .ptr k _ o, _, cs => ∃ B off, φ k = .pointer (some ⟨B, off, none⟩) ∧ cs = [.pointer (some ⟨B, off + o, none⟩)]
  | φ, .ep k _ o s, i, cs => ∃ B off N c, φ k = .slice (some ⟨B, off, none⟩) N c ∧ i < N ∧ cs = [.pointer (some ⟨B, off + i * s + o, none⟩)]
  | _, .rp t, x, cs => ∃ B off ys, cs = [.pointer (some ⟨B, off, none⟩)] ∧ (fz B ∨ bz B) ∧ RepC w fz bz noTok t x ys ∧ CellsAt w B off ys
  | φ, .fn f c, x, cs => ∃ vs, cs = [.func (.func f) #[] vs.toArray] ∧ RepC w fz bz φ c x vs
  | φ, .agg t, x, cs => RepC w fz bz φ t x cs
  | φ, .pair a b, x, cs => ∃ c d, cs = c ++ d ∧ RepC w fz bz φ a x.1 c ∧ RepC w fz bz φ b x.2 d
  | _, .tup _, _, _ => False

def RepV0 (w : World) (fz bz : Nat → Prop) (φ : Nat → Value) : (t : Ty) → t.D → Value → Prop
  | .agg t, x, v => ∃ cs, v = .agg cs.toArray ∧ RepC w fz bz φ t x cs
  | .unit, _, v => v = undef
  | .tup _, _, _ => False
  | .pair _ _, _, _ => False
  | t, x, v => RepC w fz bz φ t x [v]
/-- Values in a row. -/
def RepL (w : World) (fz bz : Nat → Prop) (φ : Nat → Value) : (t : Ty) → t.D → List Value → Prop
  | .unit, _, vs => vs = []
  | .pair a b, x, vs => ∃ v r, vs = v :: r ∧ RepV0 w fz bz φ a x.1 v ∧ RepL w fz bz φ b x.2 r
  | t, x, vs => ∃ v, vs = [v] ∧ RepV0 w fz bz φ t x v
def RepV (w : World) (fz bz : Nat → Prop) (φ : Nat → Value) (t : Ty) (x : t.D) (v : Value) : Prop :=
  match t, x with
  | .tup t, x => ∃ vs, v = .tuple vs.toArray ∧ RepL w fz bz φ t x vs
  | t, x => RepV0 w fz bz φ t x v

/-- What an owned token's memory holds. -/
def ArrAt (w : World) (fz bz : Nat → Prop) (h : Value) (e : Ty) (l : List e.D) : Prop :=
  ∃ A c, h = .slice A l.length c ∧ (l.length ≤ c ∧ c ≤ 9223372036854775807) ∧ (c = 0 ∨ ∃ B off ety ar, A = some ⟨B, off, none⟩ ∧ w.heap[B]? = some (.cells ar ety (0, 0)) ∧ off + c * e.sz ≤ ar.size ∧
    ∀ i x, l[i]? = some x → ∃ ys, RepC w fz bz noTok e x ys ∧ ∀ j v, ys[j]? = some v → ar[off + i * e.sz + j]? = some v)
def BoxAt (w : World) (fz bz : Nat → Prop) (φ : Nat → Value) (h : Value) (t : Ty) (x : t.D) : Prop :=
  ∃ B off ety ar ys, h = .pointer (some ⟨B, off, none⟩) ∧ w.heap[B]? = some (.cells ar ety (0, 0)) ∧ RepC w fz bz φ t x ys ∧ ∀ j v, ys[j]? = some v → ar[off + j]? = some v
def CellAt (w : World) (fz bz : Nat → Prop) (φ : Nat → Value) (h : Value) : Cell → Prop
  | .arr e l => e.closed = true ∧ 0 < e.sz ∧ ArrAt w fz bz h e l
  | .box t x => BoxAt w fz bz φ h t x

def Cell.toks : Cell → List Nat
  | .arr _ _ => []
  | .box t _ => t.toks

/-! ### lemmas -/
theorem RepC.len {w : World} {fz bz : Nat → Prop} : ∀ {φ : Nat → Value} {t : Ty} {x : t.D} {cs : List Value}, RepC w fz bz φ t x cs → cs.length = t.sz := by
  intro φ t
  induction t with
  | unit => intro x cs h; simp only [RepC] at h; subst h; rfl
  | int k => intro x cs h; simp only [RepC] at h; subst h; rfl
  | bool => intro x cs h; simp only [RepC] at h; subst h; rfl
  | str => intro x cs h; simp only [RepC] at h; subst h; rfl
  | nilp => intro x cs h; simp only [RepC] at h; subst h; rfl
  | ubool => intro x cs h; simp only [RepC] at h; obtain ⟨_, rfl⟩ := h; rfl
  | sl m e ih => intro x cs h; cases m <;> simp only [RepC] at h <;> first | (obtain ⟨_, _, rfl, _⟩ := h; rfl) | (subst h; rfl) | (obtain ⟨_, rfl, _⟩ := h; rfl) | (obtain ⟨_, rfl⟩ := h; rfl)
  | ptr k p o => intro x cs h; simp only [RepC] at h; obtain ⟨_, _, _, rfl⟩ := h; rfl
  | ep k p o s => intro x cs h; simp only [RepC] at h; obtain ⟨_, _, _, _, _, _, rfl⟩ := h; rfl
  | rp t ih => intro x cs h; simp only [RepC] at h; obtain ⟨_, _, _, rfl, _⟩ := h; rfl
  | fn f c ih => intro x cs h; simp only [RepC] at h; obtain ⟨_, rfl, _⟩ := h; rfl
  | agg t ih => intro x cs h; simp only [RepC] at h; exact ih h
  | pair a b iha ihb => intro x cs h; simp only [RepC] at h; obtain ⟨c, d, rfl, h1, h2⟩ := h; simp only [List.length_append, iha h1, ihb h2]; rfl
  | tup t ih => intro x cs h; simp only [RepC] at h

/-- Cells hold no aggregates. -/
theorem RepC.one {w : World} {fz bz : Nat → Prop} {φ : Nat → Value} : ∀ {t : Ty} {x : t.D} {cs : List Value}, (∀ k ∈ t.toks, (φ k).oneCell' = true) → RepC w fz bz φ t x cs → ∀ v ∈ cs, v.oneCell' = true := by
  intro t
  induction t with
  | unit => intro x cs hφ h; simp only [RepC] at h; subst h; simp
  | int k => intro x cs hφ h; simp only [RepC] at h; subst h; simp [Value.oneCell']
  | bool => intro x cs hφ h; simp only [RepC] at h; subst h; simp [Value.oneCell']
  | str => intro x cs hφ h; simp only [RepC] at h; subst h; simp [Value.oneCell']
  | nilp => intro x cs hφ h; simp only [RepC] at h; subst h; simp [Value.oneCell']
  | ubool => intro x cs hφ h; simp only [RepC] at h; obtain ⟨_, rfl⟩ := h; simp [Value.oneCell']
  | sl m e ih =>
    intro x cs hφ h
    cases m <;> simp only [RepC] at h
    · obtain ⟨_, _, rfl, _⟩ := h; simp [Value.oneCell']
    · obtain ⟨_, _, rfl, _⟩ := h; simp [Value.oneCell']
    · subst h; simpa using hφ _ (by simp [Ty.toks])
    · obtain ⟨v, rfl, A, N, c, A', h1, h2, rfl, _⟩ := h; simp [Value.oneCell']
    · obtain ⟨_, rfl⟩ := h; simp [Value.oneCell']
  | ptr k p o => intro x cs hφ h; simp only [RepC] at h; obtain ⟨_, _, _, rfl⟩ := h; simp [Value.oneCell']
  | ep k p o s => intro x cs hφ h; simp only [RepC] at h; obtain ⟨_, _, _, _, _, _, rfl⟩ := h; simp [Value.oneCell']
  | rp t ih => intro x cs hφ h; simp only [RepC] at h; obtain ⟨_, _, _, rfl, _⟩ := h; simp [Value.oneCell']
  | fn f c ih => intro x cs hφ h; simp only [RepC] at h; obtain ⟨_, rfl, _⟩ := h; simp [Value.oneCell']
  | agg t ih => intro x cs hφ h; simp only [RepC] at h; exact ih hφ h
  | pair a b iha ihb =>
    intro x cs hφ h; simp only [RepC] at h; obtain ⟨c, d, rfl, h1, h2⟩ := h
    intro v hv
    rcases List.mem_append.1 hv with hv | hv
    · exact iha (fun k hk => hφ k (by simp [Ty.toks, hk])) h1 v hv
    · exact ihb (fun k hk => hφ k (by simp [Ty.toks, hk])) h2 v hv
  | tup t ih => intro x cs hφ h; simp only [RepC] at h

theorem CellsAt.same {w w' : World} {B o : Nat} {cs : List Value} (h : CellsAt w B o cs) (hb : w'.heap[B]? = w.heap[B]?) : CellsAt w' B o cs := by
  intro j v hj
  have := h j v hj
  unfold World.cell? at this ⊢
  simpa only [hb] using this

theorem mem_toks_app {k : Nat} {a b : List Nat} : k ∈ a ++ b ↔ k ∈ a ∨ k ∈ b := List.mem_append

/-- What holds of a value lives on: nobody writes what it leads to, and its tokens stand for what they stood for. -/
theorem RepC.mono {w w' : World} {fz bz fz' bz' : Nat → Prop} (hw : ∀ b, fz b ∨ bz b → w'.heap[b]? = w.heap[b]?) (hf : ∀ b, fz b → fz' b) (hb : ∀ b, bz b → fz' b ∨ bz' b) :
    ∀ {φ φ' : Nat → Value} {t : Ty} {x : t.D} {cs : List Value}, (∀ k ∈ t.toks, φ' k = φ k) → RepC w fz bz φ t x cs → RepC w' fz' bz' φ' t x cs := by
  have hz : ∀ b, fz b ∨ bz b → fz' b ∨ bz' b := fun b h => h.elim (fun h => .inl (hf b h)) (hb b)
  intro φ φ' t
  induction t generalizing φ φ' with
  | unit => intro x cs _ h; exact h
  | int k => intro x cs _ h; exact h
  | bool => intro x cs _ h; exact h
  | str => intro x cs _ h; exact h
  | nilp => intro x cs _ h; exact h
  | ubool => intro x cs _ h; exact h
  | sl m e ih =>
    intro x cs hk h
    cases m <;> simp only [RepC] at h ⊢
    · obtain ⟨A, c, rfl, h1, h2⟩ := h
      refine ⟨A, c, rfl, h1, ?_⟩
      rcases h2 with h2 | ⟨B, off, rfl, hB, h3⟩
      · exact .inl h2
      · refine .inr ⟨B, off, rfl, hf _ hB, fun i y hi => ?_⟩
        obtain ⟨ys, h4, h5⟩ := h3 i y hi
        exact ⟨ys, ih (fun _ _ => rfl) h4, h5.same (hw _ (.inl hB))⟩
    · obtain ⟨A, c, rfl, h1, h2⟩ := h
      refine ⟨A, c, rfl, h1, ?_⟩
      rcases h2 with h2 | ⟨B, off, rfl, hB, h3⟩
      · exact .inl h2
      · refine .inr ⟨B, off, rfl, hz _ hB, fun i y hi => ?_⟩
        obtain ⟨ys, h4, h5⟩ := h3 i y hi
        exact ⟨ys, ih (fun _ _ => rfl) h4, h5.same (hw _ hB)⟩
    · rw [hk _ (by simp [Ty.toks])]; exact h
    · rw [hk _ (by simp [Ty.toks])]; exact h
    · exact h
  | ptr k p o => intro x cs hk h; simp only [RepC] at h ⊢; rw [hk _ (by simp [Ty.toks])]; exact h
  | ep k p o s => intro x cs hk h; simp only [RepC] at h ⊢; rw [hk _ (by simp [Ty.toks])]; exact h
  | rp t ih =>
    intro x cs hk h; simp only [RepC] at h ⊢
    obtain ⟨B, off, ys, rfl, hB, h4, h5⟩ := h
    exact ⟨B, off, ys, rfl, hz _ hB, ih (fun _ _ => rfl) h4, h5.same (hw _ hB)⟩
  | fn f c ih =>
    intro x cs hk h; simp only [RepC] at h ⊢
    obtain ⟨vs, rfl, h⟩ := h
    exact ⟨vs, rfl, ih hk h⟩
  | agg t ih => intro x cs hk h; simp only [RepC] at h ⊢; exact ih hk h
  | pair a b iha ihb =>
    intro x cs hk h; simp only [RepC] at h ⊢
    obtain ⟨c, d, rfl, h1, h2⟩ := h
    exact ⟨c, d, rfl, iha (fun k hk' => hk k (by simp [Ty.toks, hk'])) h1, ihb (fun k hk' => hk k (by simp [Ty.toks, hk'])) h2⟩
  | tup t ih => intro x cs hk h; simp only [RepC] at h

/-- Where only φ and the zones turn. -/
theorem RepC.zone {w : World} {fz bz fz' bz' : Nat → Prop} {φ φ' : Nat → Value} {t : Ty} {x : t.D} {cs : List Value} (h : RepC w fz bz φ t x cs) (hf : ∀ b, fz b → fz' b) (hb : ∀ b, bz b → fz' b ∨ bz' b)
    (hk : ∀ k ∈ t.toks, φ' k = φ k) : RepC w fz' bz' φ' t x cs := RepC.mono (fun _ _ => rfl) hf hb hk h
theorem RepC.toks {w : World} {fz bz : Nat → Prop} {φ φ' : Nat → Value} {t : Ty} {x : t.D} {cs : List Value} (h : RepC w fz bz φ t x cs) (hk : ∀ k ∈ t.toks, φ' k = φ k) : RepC w fz bz φ' t x cs :=
  h.zone (fun _ h => h) (fun _ h => .inr h) hk
theorem Ty.closed_toks : ∀ {t : Ty}, t.closed = true → t.toks = [] := by
  intro t
  induction t with
  | sl m e ih => intro h; cases m <;> simp_all [Ty.closed, Ty.toks]
  | agg t ih => intro h; simp only [Ty.closed] at h; simp only [Ty.toks]; exact ih h
  | pair a b iha ihb => intro h; have h := cond_true_of h; simp only [Ty.toks, iha h.1, ihb h.2]; rfl
  | _ => intro h; first | rfl | (simp [Ty.closed] at h; done)
/-- A closed value is told without bz. -/
theorem RepC.closed {w w' : World} {fz bz fz' bz' : Nat → Prop} (hw : ∀ b, fz b → w'.heap[b]? = w.heap[b]?) (hf : ∀ b, fz b → fz' b) :
    ∀ {φ φ' : Nat → Value} {t : Ty} {x : t.D} {cs : List Value}, t.closed = true → RepC w fz bz φ t x cs → RepC w' fz' bz' φ' t x cs := by
  intro φ φ' t
  induction t generalizing φ φ' with
  | int k => intro x cs _ h; exact h
  | bool => intro x cs _ h; exact h
  | str => intro x cs _ h; exact h
  | nilp => intro x cs _ h; exact h
  | ubool => intro x cs _ h; exact h
  | sl m e ih =>
    intro x cs hc h
    cases m <;> simp only [Ty.closed] at hc <;> first | (cases hc; done) | skip
    simp only [RepC] at h ⊢
    obtain ⟨A, c, rfl, h1, h2⟩ := h
    refine ⟨A, c, rfl, h1, ?_⟩
    rcases h2 with h2 | ⟨B, off, rfl, hB, h3⟩
    · exact .inl h2
    · refine .inr ⟨B, off, rfl, hf _ hB, fun i y hi => ?_⟩
      obtain ⟨ys, h4, h5⟩ := h3 i y hi
      exact ⟨ys, ih hc h4, h5.same (hw _ hB)⟩
  | agg t ih => intro x cs hc h; simp only [RepC, Ty.closed] at hc h ⊢; exact ih hc h
  | pair a b iha ihb =>
    intro x cs hc h; simp only [RepC] at h ⊢
    have hc := cond_true_of hc
    obtain ⟨c, d, rfl, h1, h2⟩ := h
    exact ⟨c, d, rfl, iha hc.1 h1, ihb hc.2 h2⟩
  | _ => intro x cs hc h; simp [Ty.closed] at hc

section
variable {w w' : World} {fz bz fz' bz' : Nat → Prop} {φ φ' : Nat → Value}
theorem RepV0.mono (hw : ∀ b, fz b ∨ bz b → w'.heap[b]? = w.heap[b]?) (hf : ∀ b, fz b → fz' b) (hb : ∀ b, bz b → fz' b ∨ bz' b) {t : Ty} {x : t.D} {v : Value}
    (hk : ∀ k ∈ t.toks, φ' k = φ k) (h : RepV0 w fz bz φ t x v) : RepV0 w' fz' bz' φ' t x v := by
  cases t <;> simp only [RepV0] at h ⊢ <;> first
    | exact h
    | exact RepC.mono hw hf hb hk h
    | (obtain ⟨cs, rfl, h⟩ := h; exact ⟨cs, rfl, RepC.mono hw hf hb hk h⟩)
theorem RepL.mono (hw : ∀ b, fz b ∨ bz b → w'.heap[b]? = w.heap[b]?) (hf : ∀ b, fz b → fz' b) (hb : ∀ b, bz b → fz' b ∨ bz' b) : ∀ {t : Ty} {x : t.D} {vs : List Value},
    (∀ k ∈ t.toks, φ' k = φ k) → RepL w fz bz φ t x vs → RepL w' fz' bz' φ' t x vs := by
  intro t
  induction t with
  | unit => intro x vs hk h; exact h
  | pair a b iha ihb =>
    intro x vs hk h; simp only [RepL] at h ⊢
    obtain ⟨v, r, rfl, h1, h2⟩ := h
    exact ⟨v, r, rfl, RepV0.mono hw hf hb (fun k hk' => hk k (by simp [Ty.toks, hk'])) h1, ihb (fun k hk' => hk k (by simp [Ty.toks, hk'])) h2⟩
  | _ =>
    intro x vs hk h; simp only [RepL] at h ⊢
    obtain ⟨v, rfl, h1⟩ := h
    exact ⟨v, rfl, RepV0.mono hw hf hb hk h1⟩
theorem RepV.mono (hw : ∀ b, fz b ∨ bz b → w'.heap[b]? = w.heap[b]?) (hf : ∀ b, fz b → fz' b) (hb : ∀ b, bz b → fz' b ∨ bz' b) {t : Ty} {x : t.D} {v : Value}
    (hk : ∀ k ∈ t.toks, φ' k = φ k) (h : RepV w fz bz φ t x v) : RepV w' fz' bz' φ' t x v := by
  cases t <;> simp only [RepV] at h ⊢ <;> first
    | exact RepV0.mono hw hf hb hk h
    | (obtain ⟨vs, rfl, h⟩ := h; exact ⟨vs, rfl, RepL.mono hw hf hb hk h⟩)
end

theorem blkOf_ptr {B off : Nat} : blkOf (.pointer (some ⟨B, off, none⟩)) = some B := rfl

/-- What an owned token's memory holds lives on: its own block is as it was, and what its elements lead to. -/
theorem CellAt.mono {w w' : World} {fz bz fz' bz' : Nat → Prop} {φ φ' : Nat → Value} {h : Value} {c : Cell} (hh : ∀ b, blkOf h = some b → w'.heap[b]? = w.heap[b]?)
    (hw : ∀ b, fz b ∨ bz b → w'.heap[b]? = w.heap[b]?) (hf : ∀ b, fz b → fz' b) (hb : ∀ b, bz b → fz' b ∨ bz' b) (hk : ∀ k ∈ c.toks, φ' k = φ k) (hc : CellAt w fz bz φ h c) : CellAt w' fz' bz' φ' h c := by
  cases c with
  | arr e l =>
    obtain ⟨h1, h2, A, c, rfl, h3, h4⟩ := hc
    refine ⟨h1, h2, A, c, rfl, h3, ?_⟩
    rcases h4 with h4 | ⟨B, off, ety, ar, rfl, h5, h6, h7⟩
    · exact .inl h4
    · by_cases hc0 : c = 0
      · exact .inl hc0
      · refine .inr ⟨B, off, ety, ar, rfl, ?_, h6, fun i x hi => ?_⟩
        · rw [hh B (by simp [blkOf, hc0])]; exact h5
        · obtain ⟨ys, h8, h9⟩ := h7 i x hi
          exact ⟨ys, RepC.closed (fun b hb => hw b (.inl hb)) hf h1 h8, h9⟩
  | box t x =>
    obtain ⟨B, off, ety, ar, ys, rfl, h5, h6, h7⟩ := hc
    exact ⟨B, off, ety, ar, ys, rfl, by rw [hh B rfl]; exact h5, RepC.mono hw hf hb hk h6, h7⟩
theorem CellAt.lt {w : World} {fz bz : Nat → Prop} {φ : Nat → Value} {h : Value} {c : Cell} (hc : CellAt w fz bz φ h c) {b : Nat} (hb : blkOf h = some b) : b < w.heap.size := by
  cases c with
  | arr e l =>
    obtain ⟨h1, h2, A, c, rfl, h3, h4⟩ := hc
    rcases h4 with rfl | ⟨B, off, ety, ar, rfl, h5, h6, h7⟩
    · cases A <;> simp [blkOf] at hb
    · simp only [blkOf] at hb
      split at hb
      · cases hb
      · cases hb; exact (Array.getElem?_eq_some_iff.1 h5).1
  | box t x =>
    obtain ⟨B, off, ety, ar, ys, rfl, h5, h6, h7⟩ := hc
    cases hb
    exact (Array.getElem?_eq_some_iff.1 h5).1
theorem CellAt.hdr {w : World} {fz bz : Nat → Prop} {φ : Nat → Value} {h : Value} {c : Cell} (hc : CellAt w fz bz φ h c) : h.oneCell' = true := by
  cases c with
  | arr e l => obtain ⟨_, _, A, c, rfl, _⟩ := hc; rfl
  | box t x => obtain ⟨B, off, ety, ar, ys, rfl, _⟩ := hc; rfl
end Go.Pv
