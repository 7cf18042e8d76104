/- Pv, third text: what holds while a call is run, and how a step hands it on. -/
import Derived.Test.YtdkinmgpclbedaaDoorPvRep
import Derived.Laws.NewBlocks
import Derived.Tactics
set_option linter.unusedVariables false
namespace Go.Pv

/-- What stays the same while a call lasts. -/
structure Fix where
  w0 : World
  W : Nat → Prop
  fz : Nat → Prop
  bz : Nat → Prop
  φ : Nat → Value
  np : Nat
  nt : Nat

abbrev Rd := Nat → Option PV
abbrev Sg := Nat → Option Cell
def rdOf (ρ : Rd) : Operand → Option PV
  | .tmp t => ρ t
  | .const c => constPV c
  | .func f => some ⟨.fn f .unit, ()⟩
  | .global _ => none
def upd (ρ : Rd) (dst : Option Nat) (v : PV) : Rd := fun t => if dst = some t then some v else ρ t
def updS (σ : Sg) (l : List (Nat × Option Cell)) : Sg := fun k => match lk k l with | some c => c | none => σ k
def bornTo (born : Nat → Prop) (nx : Nat) : Nat → Prop := fun k => born k ∨ (nx ≤ k ∧ k < nx + 64)

structure Inv (F : Fix) (ρ : Rd) (σ : Sg) (born : Nat → Prop) (a : Act) (w : World) (φ : Nat → Value) (fz : Nat → Prop) : Prop where
  siz : a.tmps.size = F.nt
  tmps : ∀ t v, ρ t = some v → ∃ cv, a.tmps[t]? = some cv ∧ RepV w fz F.bz φ v.t v.x cv
  bt : ∀ t v, ρ t = some v → ∀ k ∈ v.t.toks, born k
  sto : ∀ k c, σ k = some c → CellAt w fz F.bz φ (φ k) c
  bs : ∀ k c, σ k = some c → born k ∧ ∀ j ∈ c.toks, born j
  inj : ∀ j k c d b, σ j = some c → σ k = some d → blkOf (φ j) = some b → blkOf (φ k) = some b → j = k
  own : ∀ k c b, σ k = some c → blkOf (φ k) = some b → ¬ fz b ∧ ¬ F.bz b ∧ (F.W b ∨ F.w0.heap.size ≤ b)
  fzlt : ∀ b, fz b → b < w.heap.size
  bzlt : ∀ b, F.bz b → b < w.heap.size
  fz0 : ∀ b, F.fz b → fz b
  fz1 : ∀ b, fz b → F.fz b ∨ F.W b ∨ F.w0.heap.size ≤ b
  par : ∀ j, j < F.np → φ j = F.φ j
  pb : ∀ j, j < F.np → born j
  one : ∀ k, born k → (φ k).oneCell' = true
  size : F.w0.heap.size ≤ w.heap.size
  frame : ∀ b, b < F.w0.heap.size → ¬ F.W b → w.heap[b]? = F.w0.heap[b]?
  os : w.os = F.w0.os
  tape : w.tape = F.w0.tape
  output : w.output = F.w0.output
  def_ : a.defers = []

theorem getD_of {a : Act} {t : Nat} {cv : Value} (h : a.tmps[t]? = some cv) : a.eval (.tmp t) = cv := by
  unfold Act.eval
  simp only [Array.getD_eq_getD_getElem?, h, Option.getD_some]

theorem Inv.rd {F : Fix} {ρ : Rd} {σ : Sg} {born : Nat → Prop} {a : Act} {w : World} {φ : Nat → Value} {fz : Nat → Prop} (hI : Inv F ρ σ born a w φ fz) {x : Operand} {v : PV} (h : rdOf ρ x = some v) :
    RepV w fz F.bz φ v.t v.x (a.eval x) := by
  cases x with
  | tmp t => obtain ⟨cv, h1, h2⟩ := hI.tmps t v h; rw [getD_of h1]; exact h2
  | const c =>
    simp only [rdOf] at h
    unfold constPV at h
    split at h <;> first | (cases h; done) | (injection h with h; subst h)
    · simp [RepV, RepV0, RepC, Act.eval]
    · simp [RepV, RepV0, RepC, Act.eval]
    · simp [RepV, RepV0, RepC, Act.eval]
    · exact ⟨none, rfl⟩
    · simp [RepV, RepV0, RepC, Act.eval]
  | func f =>
    simp only [rdOf] at h
    injection h with h; subst h
    exact ⟨[], rfl, rfl⟩
  | global g => cases h

theorem constPV_toks {c : Value} {v : PV} (h : constPV c = some v) : v.t.toks = [] := by
  unfold constPV at h
  split at h <;> first | (cases h; done) | (injection h with h; subst h; rfl)
theorem Inv.rdb {F : Fix} {ρ : Rd} {σ : Sg} {born : Nat → Prop} {a : Act} {w : World} {φ : Nat → Value} {fz : Nat → Prop} (hI : Inv F ρ σ born a w φ fz) {x : Operand} {v : PV} (h : rdOf ρ x = some v) :
    ∀ k ∈ v.t.toks, born k := by
  cases x with
  | tmp t => exact hI.bt t v h
  | const c => rw [constPV_toks h]; simp
  | func f => simp only [rdOf] at h; injection h with h; subst h; simp [Ty.toks]
  | global g => cases h

theorem put_get {a : Act} {d : Nat} {v : Value} {t : Nat} : (a.put (some d) v).tmps[t]? = if d = t then (if d < a.tmps.size then some v else none) else a.tmps[t]? := by
  simp only [Act.put, Array.getElem?_setIfInBounds]
theorem put_size {a : Act} {dst : Option Nat} {v : Value} : (a.put dst v).tmps.size = a.tmps.size := by
  cases dst <;> simp [Act.put]
theorem put_defers {a : Act} {dst : Option Nat} {v : Value} : (a.put dst v).defers = a.defers := by
  cases dst <;> rfl

section
variable {F : Fix} {ρ : Rd} {σ : Sg} {born : Nat → Prop} {a : Act} {w : World} {φ : Nat → Value} {fz : Nat → Prop}

/-- What a step of the machine may do to the world. -/
structure Moved (σ : Sg) (φ : Nat → Value) (w w' : World) : Prop where
  size : w.heap.size ≤ w'.heap.size
  os : w'.os = w.os
  tape : w'.tape = w.tape
  output : w'.output = w.output
  keep : ∀ b, b < w.heap.size → (∀ k c, σ k = some c → blkOf (φ k) ≠ some b) → w'.heap[b]? = w.heap[b]?

theorem Moved.refl : Moved σ φ w w := ⟨Nat.le_refl _, rfl, rfl, rfl, fun _ _ _ => rfl⟩

theorem Inv.step (hI : Inv F ρ σ born a w φ fz) {σ' : Sg} {born' : Nat → Prop} {w' : World} {φ' : Nat → Value} {fz' : Nat → Prop} (hm : Moved σ φ w w')
    (hφ : ∀ k, born k → φ' k = φ k) (hbb : ∀ k, born k → born' k) (hf : ∀ b, fz b → fz' b)
    (hf1 : ∀ b, fz' b → fz b ∨ (∃ k c, σ k = some c ∧ blkOf (φ k) = some b) ∨ (w.heap.size ≤ b ∧ b < w'.heap.size))
    (hsto : ∀ k c, σ' k = some c → CellAt w' fz' F.bz φ' (φ' k) c) (hbs : ∀ k c, σ' k = some c → born' k ∧ ∀ j ∈ c.toks, born' j)
    (hinj : ∀ j k c d b, σ' j = some c → σ' k = some d → blkOf (φ' j) = some b → blkOf (φ' k) = some b → j = k)
    (hown : ∀ k c b, σ' k = some c → blkOf (φ' k) = some b → ¬ fz' b ∧ ((∃ j d, σ j = some d ∧ blkOf (φ j) = some b) ∨ w.heap.size ≤ b))
    (hone : ∀ k, born' k → (φ' k).oneCell' = true)
    {dst : Option Nat} (hd : ∀ d, dst = some d → d < F.nt) {d : PV} {v : Value} (hv : RepV w' fz' F.bz φ' d.t d.x v) (hvb : ∀ k ∈ d.t.toks, born' k) :
    Inv F (upd ρ dst d) σ' born' (a.put dst v) w' φ' fz' := by
  have hw : ∀ b, fz b ∨ F.bz b → w'.heap[b]? = w.heap[b]? := by
    intro b hb
    refine hm.keep b (hb.elim (hI.fzlt b) (hI.bzlt b)) fun k c hk he => ?_
    have := hI.own k c b hk he
    exact hb.elim this.1 this.2.1
  have hownlt : ∀ k c b, σ k = some c → blkOf (φ k) = some b → b < w.heap.size := fun k c b h1 h2 => (hI.sto k c h1).lt h2
  refine ⟨by rw [put_size]; exact hI.siz, ?_, ?_, hsto, hbs, hinj, ?_, ?_, ?_, fun b hb => hf b (hI.fz0 b hb), ?_, ?_, fun j hj => hbb j (hI.pb j hj), hone, Nat.le_trans hI.size hm.size, ?_,
    hm.os.trans hI.os, hm.tape.trans hI.tape, hm.output.trans hI.output, by rw [put_defers]; exact hI.def_⟩
  · intro t u hu
    unfold upd at hu
    split at hu
    · rename_i hdt
      injection hu with hu; subst hu
      refine ⟨v, ?_, hv⟩
      rw [hdt, put_get, if_pos rfl, if_pos (by rw [hI.siz]; exact hd t hdt)]
    · rename_i hdt
      obtain ⟨cv, h1, h2⟩ := hI.tmps t u hu
      refine ⟨cv, ?_, RepV.mono hw hf (fun b h => .inr h) (fun k hk => hφ k (hI.bt t u hu k hk)) h2⟩
      cases dst with
      | none => exact h1
      | some d0 => rw [put_get, if_neg (fun e => hdt (by rw [e]))]; exact h1
  · intro t u hu
    unfold upd at hu
    split at hu
    · injection hu with hu; subst hu; exact hvb
    · exact fun k hk => hbb k (hI.bt t u hu k hk)
  · intro k c b hk hb
    obtain ⟨h1, h2⟩ := hown k c b hk hb
    refine ⟨h1, ?_, ?_⟩
    · rcases h2 with ⟨j, d, hj, hjb⟩ | h2
      · exact (hI.own j d b hj hjb).2.1
      · exact fun hbz => Nat.lt_irrefl _ (Nat.lt_of_lt_of_le (hI.bzlt b hbz) h2)
    · rcases h2 with ⟨j, d, hj, hjb⟩ | h2
      · exact (hI.own j d b hj hjb).2.2
      · exact .inr (Nat.le_trans hI.size h2)
  · intro b hb
    rcases hf1 b hb with h | ⟨k, c, hk, hkb⟩ | h
    · exact Nat.lt_of_lt_of_le (hI.fzlt b h) hm.size
    · exact Nat.lt_of_lt_of_le (hownlt k c b hk hkb) hm.size
    · exact h.2
  · exact fun b hb => Nat.lt_of_lt_of_le (hI.bzlt b hb) hm.size
  · intro b hb
    rcases hf1 b hb with h | ⟨k, c, hk, hkb⟩ | h
    · exact hI.fz1 b h
    · exact .inr (hI.own k c b hk hkb).2.2
    · exact .inr (.inr (Nat.le_trans hI.size h.1))
  · intro j hj
    rw [hφ j (hI.pb j hj), hI.par j hj]
  · intro b hb hW
    rw [← hI.frame b hb hW]
    refine hm.keep b (Nat.lt_of_lt_of_le hb hI.size) fun k c hk he => ?_
    rcases (hI.own k c b hk he).2.2 with h | h
    · exact hW h
    · omega

/-- A value, and no more. -/
theorem Inv.put (hI : Inv F ρ σ born a w φ fz) {dst : Option Nat} (hd : ∀ d, dst = some d → d < F.nt) {d : PV} {v : Value} (hv : RepV w fz F.bz φ d.t d.x v) (hvb : ∀ k ∈ d.t.toks, born k) :
    Inv F (upd ρ dst d) σ born (a.put dst v) w φ fz :=
  hI.step Moved.refl (fun _ _ => rfl) (fun _ h => h) (fun _ h => h) (fun _ h => .inl h) hI.sto hI.bs hI.inj
    (fun k c b hk hb => ⟨(hI.own k c b hk hb).1, .inl ⟨k, c, hk, hb⟩⟩) hI.one hd hv hvb

/-- More tokens may have been born. -/
theorem Inv.bornMono (hI : Inv F ρ σ born a w φ fz) {born' : Nat → Prop} (hbb : ∀ k, born k → born' k) : ∃ φ', (∀ k, born k → φ' k = φ k) ∧ Inv F ρ σ born' a w φ' fz := by
  classical
  refine ⟨fun k => if born k then φ k else .slice none 0 0, fun k hk => if_pos hk, ?_⟩
  have e : ∀ k, born k → (if born k then φ k else Value.slice none 0 0) = φ k := fun k hk => if_pos hk
  refine ⟨hI.siz, ?_, fun t v h k hk => hbb k (hI.bt t v h k hk), ?_, fun k c h => ⟨hbb k (hI.bs k c h).1, fun j hj => hbb j ((hI.bs k c h).2 j hj)⟩, ?_, ?_, hI.fzlt, hI.bzlt, hI.fz0, hI.fz1, ?_, fun j hj => hbb j (hI.pb j hj), ?_, hI.size, hI.frame, hI.os, hI.tape, hI.output, hI.def_⟩
  · intro t v h
    obtain ⟨cv, h1, h2⟩ := hI.tmps t v h
    exact ⟨cv, h1, RepV.mono (fun _ _ => rfl) (fun _ h => h) (fun _ h => .inr h) (fun k hk => e k (hI.bt t v h k hk)) h2⟩
  · intro k c h
    rw [e k (hI.bs k c h).1]
    exact CellAt.mono (fun _ _ => rfl) (fun _ _ => rfl) (fun _ h => h) (fun _ h => .inr h) (fun j hj => e j ((hI.bs k c h).2 j hj)) (hI.sto k c h)
  · intro j k c d b hj hk
    rw [e j (hI.bs j c hj).1, e k (hI.bs k d hk).1]
    exact hI.inj j k c d b hj hk
  · intro k c b hk
    rw [e k (hI.bs k c hk).1]
    exact hI.own k c b hk
  · intro j hj
    rw [e j (hI.pb j hj)]
    exact hI.par j hj
  · intro k hk
    by_cases h : born k
    · rw [e k h]; exact hI.one k h
    · simp only [if_neg h]; rfl
end
end Go.Pv
