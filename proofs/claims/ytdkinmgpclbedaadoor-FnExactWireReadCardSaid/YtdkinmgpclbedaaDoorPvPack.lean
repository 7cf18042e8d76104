/- Pv, eleventh text: values in a row, and what their tokens hold, handed over. -/
import Derived.Test.YtdkinmgpclbedaaDoorPvConv
set_option linter.unusedVariables false
set_option linter.unusedSimpArgs false
namespace Go.Pv
open Go Go.RowKit

def Ty.leaf : Ty → Bool
  | .unit | .agg _ | .pair _ _ | .tup _ => false
  | _ => true
section
variable {w : World} {fz bz : Nat → Prop} {φ : Nat → Value} {σ st : Sg}

theorem repV0_leaf {t : Ty} (h : t.leaf = true) {x : t.D} {v : Value} : RepV0 w fz bz φ t x v ↔ RepC w fz bz φ t x [v] := by
  cases t <;> simp_all [Ty.leaf, RepV0]
theorem repL_one {t : Ty} (h : t ≠ .unit) (h2 : ∀ a b, t ≠ .pair a b) {x : t.D} {vs : List Value} : RepL w fz bz φ t x vs ↔ ∃ v, vs = [v] ∧ RepV0 w fz bz φ t x v := by
  cases t <;> simp_all [RepL]

theorem conv_leaf {t : Ty} {v : PV} {a : Acc} {p : t.D × Acc} (h : conv st t v a = some p) (hl : t.leaf = true) : v.t.leaf = true := by
  obtain ⟨tv, xv⟩ := v
  cases t with
  | sl m e =>
    cases tv <;> first | rfl | skip
    all_goals (cases m <;> simp [conv, lst] at h)
  | _ => first
    | (simp [Ty.leaf] at hl; done)
    | (cases tv <;> first | rfl | (simp [conv] at h; done))

theorem convV0_ok (hst : ∀ k c, st k = some c → σ k = some c) (hsto : ∀ k c, σ k = some c → CellAt w fz bz φ (φ k) c) {t : Ty} {v : PV} {a a' : Acc} {x : t.D} (h : conv st t v a = some (x, a'))
    {hs : List (Nat × Value)} {cv : Value} (hH : Hdrs φ a.m hs) (hr : RepV0 w fz bz φ v.t v.x cv) :
    ∃ hs', Hdrs φ a'.m hs' ∧ Ext a a' hs hs' ∧ Told w fz bz σ φ a' hs' (fun fz' bz' φ' => RepV0 w fz' bz' φ' t x cv) ∧ ∀ j ∈ t.toks, ∃ v, lk j hs' = some v := by
  cases hl : t.leaf with
  | true =>
    have hr := (repV0_leaf (conv_leaf h hl)).1 hr
    obtain ⟨hs', q1, q2, q3, q4⟩ := conv_ok hst hsto h hH hr
    exact ⟨hs', q1, q2, fun fz' bz' φ' hz hφ => (repV0_leaf hl).2 (q3 fz' bz' φ' hz hφ), q4⟩
  | false =>
    obtain ⟨tv, xv⟩ := v
    cases t <;> first | (simp [Ty.leaf] at hl; done) | skip
    · cases tv <;> simp only [conv] at h <;> first | (cases h; done) | skip
      injection h with h; injection h with h1 h2; subst h1; subst h2
      exact ⟨hs, hH, Ext.refl _ _, fun _ _ _ _ _ => hr, by simp [Ty.toks]⟩
    · cases tv <;> simp only [conv] at h <;> first | (cases h; done) | skip
      simp only [RepV0] at hr
      obtain ⟨cs, rfl, hr⟩ := hr
      split at h
      · rename_i y a2 hc
        injection h with h; injection h with h1 h2; subst h1; subst h2
        obtain ⟨hs', q1, q2, q3, q4⟩ := conv_ok hst hsto hc hH hr
        exact ⟨hs', q1, q2, fun fz' bz' φ' hz hφ => ⟨cs, rfl, q3 fz' bz' φ' hz hφ⟩, q4⟩
      · cases h
    · cases tv <;> simp only [conv] at h <;> first | (cases h; done) | skip
      simp only [RepV0] at hr
    · cases tv <;> simp only [conv] at h <;> first | (cases h; done) | skip
      simp only [RepV0] at hr

theorem convL_ok (hst : ∀ k c, st k = some c → σ k = some c) (hsto : ∀ k c, σ k = some c → CellAt w fz bz φ (φ k) c) : ∀ {t : Ty} {v : PV} {a a' : Acc} {x : t.D}, conv st t v a = some (x, a') →
    ∀ {hs : List (Nat × Value)} {vs : List Value}, Hdrs φ a.m hs → RepL w fz bz φ v.t v.x vs →
    ∃ hs', Hdrs φ a'.m hs' ∧ Ext a a' hs hs' ∧ Told w fz bz σ φ a' hs' (fun fz' bz' φ' => RepL w fz' bz' φ' t x vs) ∧ ∀ j ∈ t.toks, ∃ v, lk j hs' = some v := by
  intro t
  induction t with
  | unit =>
    intro v a a' x h hs vs hH hr
    obtain ⟨tv, xv⟩ := v
    cases tv <;> simp only [conv] at h <;> first | (cases h; done) | skip
    injection h with h; injection h with h1 h2; subst h1; subst h2
    exact ⟨hs, hH, Ext.refl _ _, fun _ _ _ _ _ => hr, by simp [Ty.toks]⟩
  | pair b c ihb ihc =>
    intro v a a' x h hs vs hH hr
    obtain ⟨tv, xv⟩ := v
    cases tv <;> simp only [conv] at h <;> first | (cases h; done) | skip
    split at h
    · rename_i y a2 h1
      split at h
      · rename_i z a3 h2
        injection h with h; injection h with g1 g2; subst g1; subst g2
        simp only [RepL] at hr
        obtain ⟨c1, d1, rfl, r1, r2⟩ := hr
        obtain ⟨hs1, q1, q2, q3, q4⟩ := convV0_ok hst hsto h1 hH r1
        obtain ⟨hs2, p1, p2, p3, p4⟩ := ihc h2 q1 r2
        refine ⟨hs2, p1, q2.trans p2, fun fz' bz' φ' hz hφ => ⟨c1, d1, rfl, q3 fz' bz' φ' (hz.back p2) (fun j v hj => hφ j v (p2.h j v hj)), p3 fz' bz' φ' hz hφ⟩, fun j hj => ?_⟩
        simp only [Ty.toks, List.mem_append] at hj
        rcases hj with hj | hj
        · obtain ⟨v, hv⟩ := q4 j hj; exact ⟨v, p2.h j v hv⟩
        · exact p4 j hj
      · cases h
    · cases h
  | _ =>
    intro v a a' x h hs vs hH hr
    have hv : v.t ≠ .unit ∧ ∀ a b, v.t ≠ .pair a b := by
      obtain ⟨tv, xv⟩ := v
      first
        | (have hl := conv_leaf h rfl
           cases tv <;> simp_all [Ty.leaf])
        | (cases tv <;> simp [conv] at h <;> simp)
    obtain ⟨cv, rfl, hr0⟩ := (repL_one hv.1 hv.2).1 hr
    obtain ⟨hs', q1, q2, q3, q4⟩ := convV0_ok hst hsto h hH hr0
    exact ⟨hs', q1, q2, fun fz' bz' φ' hz hφ => (repL_one (by simp) (by simp)).2 ⟨cv, rfl, q3 fz' bz' φ' hz hφ⟩, q4⟩

theorem convV_ok (hst : ∀ k c, st k = some c → σ k = some c) (hsto : ∀ k c, σ k = some c → CellAt w fz bz φ (φ k) c) {t : Ty} {v : PV} {a a' : Acc} {x : t.D} (h : conv st t v a = some (x, a'))
    {hs : List (Nat × Value)} {cv : Value} (hH : Hdrs φ a.m hs) (hr : RepV w fz bz φ v.t v.x cv) :
    ∃ hs', Hdrs φ a'.m hs' ∧ Ext a a' hs hs' ∧ Told w fz bz σ φ a' hs' (fun fz' bz' φ' => RepV w fz' bz' φ' t x cv) ∧ ∀ j ∈ t.toks, ∃ v, lk j hs' = some v := by
  by_cases ht : ∃ t', t = .tup t'
  · obtain ⟨t', rfl⟩ := ht
    obtain ⟨tv, xv⟩ := v
    cases tv <;> simp only [conv] at h <;> first | (cases h; done) | skip
    simp only [RepV] at hr
    obtain ⟨vs, rfl, hr⟩ := hr
    split at h
    · rename_i y a2 hc
      injection h with h; injection h with h1 h2; subst h1; subst h2
      obtain ⟨hs', q1, q2, q3, q4⟩ := convL_ok hst hsto hc hH hr
      exact ⟨hs', q1, q2, fun fz' bz' φ' hz hφ => ⟨vs, rfl, q3 fz' bz' φ' hz hφ⟩, q4⟩
    · cases h
  · have hv : ∀ t', v.t ≠ .tup t' := by
      intro t' e
      obtain ⟨tv, xv⟩ := v
      simp only [] at e; subst e
      cases t <;> first | (exact ht ⟨_, rfl⟩) | (simp [conv] at h; done) | skip
      rename_i m e
      cases m <;> simp [conv, lst] at h
    have hr : RepV0 w fz bz φ v.t v.x cv := by
      obtain ⟨tv, xv⟩ := v
      cases tv <;> first | exact hr | exact absurd rfl (hv _)
    obtain ⟨hs', q1, q2, q3, q4⟩ := convV0_ok hst hsto h hH hr
    refine ⟨hs', q1, q2, fun fz' bz' φ' hz hφ => RepV.of0 (q3 fz' bz' φ' hz hφ), q4⟩

/-! ### contents -/
/-- Where a token's header comes from. -/
def Srcd (σ : Sg) (φ : Nat → Value) (a : Acc) (hs : List (Nat × Value)) (j : Nat) : Prop :=
  ∃ s v, lk j a.m = some s ∧ lk j hs = some v ∧ v.oneCell' = true ∧ (∀ k, srcTok s = some k → ∃ c, σ k = some c) ∧ ∀ b, blkOf v = some b → ∃ k c, srcTok s = some k ∧ σ k = some c ∧ blkOf (φ k) = some b
theorem Srcd.mono {a a' : Acc} {hs hs' : List (Nat × Value)} {j : Nat} (h : Srcd σ φ a hs j) (e : Ext a a' hs hs') : Srcd σ φ a' hs' j :=
  let ⟨s, v, h1, h2, h3, h4, h5⟩ := h
  ⟨s, v, e.m j s h1, e.h j v h2, h3, h4, h5⟩
/-- What is told of a token's memory under its new name. -/
def ToldCell (w : World) (fz bz : Nat → Prop) (σ : Sg) (φ : Nat → Value) (a : Acc) (hs : List (Nat × Value)) (j : Nat) (c : Cell) : Prop :=
  (∀ fz' bz' φ', Zone σ φ fz bz a fz' bz' → (∀ j v, lk j hs = some v → φ' j = v) → CellAt w fz' bz' φ' (φ' j) c) ∧ (∀ i ∈ c.toks, ∃ v, lk i hs = some v) ∧ Srcd σ φ a hs j
theorem ToldCell.mono {a a' : Acc} {hs hs' : List (Nat × Value)} {j : Nat} {c : Cell} (h : ToldCell w fz bz σ φ a hs j c) (e : Ext a a' hs hs') : ToldCell w fz bz σ φ a' hs' j c :=
  ⟨fun fz' bz' φ' hz hφ => h.1 fz' bz' φ' (hz.back e) (fun j v hj => hφ j v (e.h j v hj)), fun i hi => let ⟨v, hv⟩ := h.2.1 i hi; ⟨v, e.h i v hv⟩, h.2.2.mono e⟩

theorem ArrAt.zone {fz' bz' : Nat → Prop} {h : Value} {e : Ty} {l : List e.D} (hcl : e.closed = true) (hf : ∀ b, fz b → fz' b) (ha : ArrAt w fz bz h e l) : ArrAt w fz' bz' h e l := by
  obtain ⟨A, c, rfl, h1, h2⟩ := ha
  refine ⟨A, c, rfl, h1, h2.imp id ?_⟩
  rintro ⟨B, off, ety, ar, q1, q2, q3, q4⟩
  exact ⟨B, off, ety, ar, q1, q2, q3, fun i x hi => let ⟨ys, g1, g2⟩ := q4 i x hi; ⟨ys, RepC.closed (fun _ _ => rfl) hf hcl g1, g2⟩⟩

/-- Codes of elements that may be owned. -/
def CTy.fine : CTy → Bool
  | .arr e => cond e.closed (Nat.blt 0 e.sz) false
  | .box _ => true

theorem content_ok (hst : ∀ k c, st k = some c → σ k = some c) (hsto : ∀ k c, σ k = some c → CellAt w fz bz φ (φ k) c) {c : CTy} {j : Nat} {a a' : Acc} {x : c.D} (hfine : c.fine = true) (h : content st j c a = some (x, a'))
    {hs : List (Nat × Value)} (hH : Hdrs φ a.m hs) : ∃ hs', Hdrs φ a'.m hs' ∧ Ext a a' hs hs' ∧ ToldCell w fz bz σ φ a' hs' j (c.cell x) := by
  cases c with
  | arr e =>
    have hf := cond_true_of hfine
    have hpos : 0 < e.sz := by simpa [Nat.blt_eq] using hf.2
    simp only [content] at h
    cases hl : lk j a.m with
    | none => rw [hl] at h; cases h
    | some s =>
      rw [hl] at h
      obtain ⟨v, hv, hsrc⟩ := hH.some hl
      cases s with
      | tok k =>
        simp only [] at h
        split at h
        · rename_i e' l hk
          split at h
          · rename_i l' hc
            injection h with h; injection h with h1 h2; subst h1; subst h2
            obtain ⟨rfl, hc⟩ := castL_ok hc
            cases hc
            obtain ⟨q1, q2, q3⟩ := hsto k _ (hst _ _ hk)
            simp only [SrcHdr] at hsrc
            refine ⟨hs, hH, Ext.refl _ _, fun fz' bz' φ' hz hφ => ⟨q1, q2, ?_⟩, by simp [Cell.toks, CTy.cell], ⟨_, v, hl, hv, ?_, ?_, ?_⟩⟩
            rotate_left
            · rw [hsrc]; exact (hsto k _ (hst _ _ hk)).hdr
            · intro k' hk'; simp only [srcTok] at hk'; injection hk' with hk'; subst hk'; exact ⟨_, hst _ _ hk⟩
            · intro b hb; exact ⟨k, _, rfl, hst _ _ hk, by rw [← hsrc]; exact hb⟩
            rw [hφ j v hv, hsrc]
            exact q3.zone q1 hz.fz
          · cases h
        · cases h
      | sub k o n z =>
        simp only [] at h
        split at h
        · rename_i e' l hk
          obtain ⟨hz, h⟩ := cond_some h
          split at h
          · rename_i l' hc
            injection h with h; injection h with h1 h2; subst h1; subst h2
            obtain ⟨rfl, hc⟩ := castL_ok hc
            cases hc
            have hc := hsto k _ (hst _ _ hk)
            simp only [SrcHdr] at hsrc
            rw [← nbeq_eq hz] at hsrc
            obtain ⟨g1, g2, g3⟩ := sub_arr hc hsrc
            refine ⟨hs, hH, Ext.refl _ _, fun fz' bz' φ' hz hφ => ⟨hc.1, hc.2.1, ?_⟩, by simp [Cell.toks, CTy.cell], ⟨_, v, hl, hv, ?_, ?_, ?_⟩⟩
            rotate_left
            · obtain ⟨A, c0, q, _⟩ := g2; rw [q]; rfl
            · intro k' hk'; simp only [srcTok] at hk'; injection hk' with hk'; subst hk'; exact ⟨_, hst _ _ hk⟩
            · intro b hb; exact ⟨k, _, rfl, hst _ _ hk, g3 b hb⟩
            rw [hφ j v hv]
            exact g2.zone hc.1 hz.fz
          · cases h
        · cases h
      | emp =>
        simp only [] at h
        injection h with h; injection h with h1 h2; subst h1; subst h2
        obtain ⟨A, rfl⟩ := hsrc
        refine ⟨hs, hH, Ext.refl _ _, fun fz' bz' φ' hz hφ => ⟨hf.1, hpos, ?_⟩, by simp [Cell.toks, CTy.cell], ⟨_, _, hl, hv, rfl, (fun k hk => by cases hk), (fun b hb => by cases A <;> simp [blkOf] at hb)⟩⟩
        rw [hφ j _ hv]
        exact ⟨A, 0, rfl, ⟨Nat.le_refl _, Nat.zero_le _⟩, .inl rfl⟩
  | box t =>
    simp only [content] at h
    cases hl : lk j a.m with
    | none => rw [hl] at h; cases h
    | some s =>
      rw [hl] at h
      obtain ⟨v, hv, hsrc⟩ := hH.some hl
      cases s <;> simp only [] at h <;> first | (cases h; done) | skip
      rename_i k
      split at h
      · rename_i t' x' hk
        obtain ⟨B, off, ety, ar, ys, hφk, hg, hr, hat⟩ := hsto k _ (hst _ _ hk)
        obtain ⟨hs', q1, q2, q3, q4⟩ := conv_ok hst hsto h hH hr
        simp only [SrcHdr] at hsrc
        refine ⟨hs', q1, q2, fun fz' bz' φ' hz hφ => ?_, q4, ⟨_, v, q2.m j _ hl, q2.h j v hv, ?_, ?_, ?_⟩⟩
        rotate_left
        · rw [hsrc, hφk]; rfl
        · intro k' hk'; simp only [srcTok] at hk'; injection hk' with hk'; subst hk'; exact ⟨_, hst _ _ hk⟩
        · intro b hb; exact ⟨k, _, rfl, hst _ _ hk, by rw [← hsrc]; exact hb⟩
        rw [hφ j v (q2.h j v hv), hsrc]
        exact ⟨B, off, ety, ar, ys, hφk, hg, q3 fz' bz' φ' hz hφ, hat⟩
      · cases h

/-- The contents, as cells. -/
def cellsOf : (l : List (Nat × CTy)) → SD l → List (Nat × Cell)
  | [], _ => []
  | [(j, c)], x => [(j, c.cell x)]
  | (j, c) :: d :: r, x => (j, c.cell x.1) :: cellsOf (d :: r) x.2
def fineAll : List (Nat × CTy) → Bool
  | [] => true
  | (_, c) :: r => cond c.fine (fineAll r) false

theorem contents_ok (hst : ∀ k c, st k = some c → σ k = some c) (hsto : ∀ k c, σ k = some c → CellAt w fz bz φ (φ k) c) : ∀ {l : List (Nat × CTy)} {a a' : Acc} {x : SD l}, fineAll l = true → contents st l a = some (x, a') →
    ∀ {hs : List (Nat × Value)}, Hdrs φ a.m hs → ∃ hs', Hdrs φ a'.m hs' ∧ Ext a a' hs hs' ∧ ∀ p ∈ cellsOf l x, ToldCell w fz bz σ φ a' hs' p.1 p.2
  | [], a, a', x, _, h, hs, hH => by
    simp only [contents] at h
    injection h with h; injection h with h1 h2; subst h1; subst h2
    exact ⟨hs, hH, Ext.refl _ _, by simp [cellsOf]⟩
  | [(j, c)], a, a', x, hfa, h, hs, hH => by
    simp only [contents] at h
    obtain ⟨hs', q1, q2, q3⟩ := content_ok hst hsto (cond_true_of hfa).1 h hH
    refine ⟨hs', q1, q2, fun p hp => ?_⟩
    simp only [cellsOf, List.mem_singleton] at hp
    subst hp; exact q3
  | (j, c) :: d :: r, a, a', x, hfa, h, hs, hH => by
    simp only [contents] at h
    split at h
    · rename_i y a2 h1
      split at h
      · rename_i z a3 h2
        injection h with h; injection h with g1 g2; subst g1; subst g2
        obtain ⟨hs1, q1, q2, q3⟩ := content_ok hst hsto (cond_true_of hfa).1 h1 hH
        obtain ⟨hs2, p1, p2, p3⟩ := contents_ok hst hsto (cond_true_of hfa).2 h2 q1
        refine ⟨hs2, p1, q2.trans p2, fun p hp => ?_⟩
        simp only [cellsOf, List.mem_cons] at hp
        rcases hp with rfl | hp
        · exact q3.mono p2
        · exact p3 p hp
      · cases h
    · cases h
end
end Go.Pv
