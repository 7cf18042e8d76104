/- Pv, tenth text: what is handed over stands for what it stood for. -/
import Derived.Test.YtdkinmgpclbedaaDoorPvMem
set_option linter.unusedVariables false
set_option linter.unusedSimpArgs false
namespace Go.Pv
open Go Go.RowKit

def SrcHdr (φ : Nat → Value) : Src → Value → Prop
  | .tok k, h => h = φ k
  | .sub k o n z, h => SubHdr (φ k) z o n h
  | .emp, h => ∃ A, h = .slice A 0 0
/-- The values of the tokens that have been met. -/
def Hdrs (φ : Nat → Value) : List (Nat × Src) → List (Nat × Value) → Prop
  | [], hs => hs = []
  | (j, s) :: m, hs => ∃ h r, hs = (j, h) :: r ∧ SrcHdr φ s h ∧ Hdrs φ m r

theorem lk_cons {α : Type} {k j : Nat} {v : α} {r : List (Nat × α)} : lk k ((j, v) :: r) = if j = k then some v else lk k r := by
  simp only [lk]
  by_cases h : j = k
  · subst h; rw [show Nat.beq j j = true from Nat.beq_refl j, if_pos rfl]; rfl
  · have : Nat.beq j k = false := by cases hb : Nat.beq j k with
      | false => rfl
      | true => exact absurd (nbeq_eq hb) h
    rw [this, if_neg h]; rfl

theorem Hdrs.lk {φ : Nat → Value} : ∀ {m : List (Nat × Src)} {hs : List (Nat × Value)} {j : Nat}, Hdrs φ m hs → match Pv.lk j m, Pv.lk j hs with
    | some s, some h => SrcHdr φ s h
    | none, none => True
    | _, _ => False
  | [], hs, j, h => by simp only [Hdrs] at h; subst h; trivial
  | (i, s) :: m, hs, j, h => by
    obtain ⟨h0, r, rfl, h1, h2⟩ := h
    rw [lk_cons, lk_cons]
    by_cases hij : i = j
    · rw [if_pos hij, if_pos hij]; exact h1
    · rw [if_neg hij, if_neg hij]; exact h2.lk
theorem Hdrs.some {φ : Nat → Value} {m : List (Nat × Src)} {hs : List (Nat × Value)} {j : Nat} {s : Src} (h : Hdrs φ m hs) (hj : Pv.lk j m = some s) : ∃ v, Pv.lk j hs = some v ∧ SrcHdr φ s v := by
  have := h.lk (j := j)
  rw [hj] at this
  cases hv : Pv.lk j hs with
  | none => rw [hv] at this; exact this.elim
  | some v => rw [hv] at this; exact ⟨v, rfl, this⟩

/-- More has been met. -/
structure Ext (a a' : Acc) (hs hs' : List (Nat × Value)) : Prop where
  h : ∀ j v, lk j hs = some v → lk j hs' = some v
  m : ∀ j s, lk j a.m = some s → lk j a'.m = some s
  f : ∀ k, k ∈ a.f → k ∈ a'.f
  b : ∀ k, k ∈ a.b → k ∈ a'.b
theorem Ext.refl (a : Acc) (hs : List (Nat × Value)) : Ext a a hs hs := ⟨fun _ _ h => h, fun _ _ h => h, fun _ h => h, fun _ h => h⟩
theorem Ext.trans {a b c : Acc} {x y z : List (Nat × Value)} (h : Ext a b x y) (g : Ext b c y z) : Ext a c x z :=
  ⟨fun j v q => g.h j v (h.h j v q), fun j v q => g.m j v (h.m j v q), fun k q => g.f k (h.f k q), fun k q => g.b k (h.b k q)⟩

theorem add_ok {φ : Nat → Value} {a a' : Acc} {j : Nat} {s : Src} {hs : List (Nat × Value)} {v : Value} (h : a.add j s = some a') (hH : Hdrs φ a.m hs) (hv : SrcHdr φ s v) :
    ∃ hs', Hdrs φ a'.m hs' ∧ Ext a a' hs hs' ∧ lk j hs' = some v ∧ a'.f = a.f ∧ a'.b = a.b := by
  unfold Acc.add at h
  cases hl : lk j a.m with
  | none =>
    rw [hl] at h; simp only [] at h; injection h with h; subst h
    have hn : lk j hs = none := by
      have := hH.lk (j := j); rw [hl] at this
      cases hh : lk j hs with
      | none => rfl
      | some v => rw [hh] at this; exact this.elim
    refine ⟨(j, v) :: hs, ⟨v, hs, rfl, hv, hH⟩, ⟨?_, ?_, fun _ h => h, fun _ h => h⟩, by rw [lk_cons, if_pos rfl], rfl, rfl⟩
    · intro i u hi
      rw [lk_cons, if_neg (fun e => by subst e; rw [hn] at hi; cases hi)]; exact hi
    · intro i u hi
      rw [lk_cons, if_neg (fun e => by subst e; rw [hl] at hi; cases hi)]; exact hi
  | some s0 =>
    rw [hl] at h
    cases s0 <;> simp only [] at h <;> first | (cases h; done) | skip
    cases s <;> simp only [] at h <;> first | (cases h; done) | skip
    obtain ⟨e, h⟩ := cond_some h
    injection h with h; subst h
    have e := nbeq_eq e
    subst e
    obtain ⟨v0, h1, h2⟩ := hH.some hl
    simp only [SrcHdr] at h2 hv
    exact ⟨hs, hH, Ext.refl _ _, by rw [h1, h2, hv], rfl, rfl⟩

section
variable {w : World} {fz bz : Nat → Prop} {φ : Nat → Value} {σ st : Sg}

/-- What may be said of the zones behind. -/
structure Zone (σ : Sg) (φ : Nat → Value) (fz bz : Nat → Prop) (a : Acc) (fz' bz' : Nat → Prop) : Prop where
  fz : ∀ b, fz b → fz' b
  bz : ∀ b, bz b → fz' b ∨ bz' b
  f : ∀ k ∈ a.f, ∀ c b, σ k = some c → blkOf (φ k) = some b → fz' b
  b : ∀ k ∈ a.b, ∀ c b, σ k = some c → blkOf (φ k) = some b → fz' b ∨ bz' b
theorem Zone.back {a a' : Acc} {hs hs' : List (Nat × Value)} {fz' bz' : Nat → Prop} (h : Zone σ φ fz bz a' fz' bz') (e : Ext a a' hs hs') : Zone σ φ fz bz a fz' bz' :=
  ⟨h.fz, h.bz, fun k hk => h.f k (e.f k hk), fun k hk => h.b k (e.b k hk)⟩

theorem arr_slc {e : Ty} {l : List e.D} {k : Nat} {z : Nat → Prop} {fz' bz' : Nat → Prop} (hc : CellAt w fz bz φ (φ k) (.arr e l)) (hf : ∀ b, fz b → fz' b) (hz : ∀ b, blkOf (φ k) = some b → z b) :
    ∃ A c, φ k = .slice A l.length c ∧ l.length ≤ c ∧ (l.length = 0 ∨ ∃ B off, A = some ⟨B, off, none⟩ ∧ z B ∧ ∀ i x, l[i]? = some x → ∃ ys, RepC w fz' bz' noTok e x ys ∧ CellsAt w B (off + i * e.sz) ys) := by
  obtain ⟨hcl, hpos, A, c, hφ, hl, h⟩ := hc
  refine ⟨A, c, hφ, hl.1, ?_⟩
  rcases h with rfl | ⟨B, off, ety, ar, rfl, hg, _, hat⟩
  · left; omega
  · by_cases h0 : l.length = 0
    · exact .inl h0
    · refine .inr ⟨B, off, rfl, hz B (by rw [hφ]; simp only [blkOf]; rw [if_neg (by omega)]), fun i x hi => ?_⟩
      obtain ⟨ys, h1, h2⟩ := hat i x hi
      exact ⟨ys, RepC.closed (fun _ _ => rfl) hf hcl h1, cells_cellsAt hg (by intro j v hj; rw [Nat.add_assoc]; simpa [Nat.add_assoc] using h2 j v hj)⟩

theorem drop_take_get {α : Type} {l : List α} {o n i : Nat} {x : α} (hx : ((l.drop o).take n)[i]? = some x) : l[o + i]? = some x ∧ i < n := by
  rw [List.getElem?_take] at hx
  split at hx
  · rename_i h; rw [List.getElem?_drop] at hx; exact ⟨hx, h⟩
  · cases hx
theorem drop_take_len {α : Type} {l : List α} {o n : Nat} (h : o + n ≤ l.length) : ((l.drop o).take n).length = n := by
  rw [List.length_take, List.length_drop]; omega

/-- A part of an owned slice, as a slice of its own. -/
theorem sub_arr {e : Ty} {l : List e.D} {k o n : Nat} {v : Value} (hc : CellAt w fz bz φ (φ k) (.arr e l)) (hs : SubHdr (φ k) e.sz o n v) : o + n ≤ l.length ∧ ArrAt w fz bz v e ((l.drop o).take n) ∧ (∀ b, blkOf v = some b → blkOf (φ k) = some b) := by
  obtain ⟨hcl, hpos, A, c, hφ, hl, h⟩ := hc
  obtain ⟨A0, N, c0, A', hφ', hN, rfl, hA⟩ := hs
  rw [hφ] at hφ'; injection hφ' with e1 e2 e3
  subst e1; subst e3
  have hlen : ((l.drop o).take n).length = n := drop_take_len (by omega)
  refine ⟨by omega, ⟨A', c - o, by rw [hlen], by rw [hlen]; omega, ?_⟩, ?_⟩
  · by_cases hco : c - o = 0
    · exact .inl hco
    · right
      rcases hA with hA | hA
      · omega
      · rcases h with rfl | ⟨B, off, ety, ar, rfl, hg, hsz, hat⟩
        · omega
        · refine ⟨B, off + o * e.sz, ety, ar, by rw [hA]; simp [Addr.add_lit], hg, ?_, fun i x hi => ?_⟩
          · have : off + o * e.sz + (c - o) * e.sz = off + c * e.sz := by rw [Nat.add_assoc, ← Nat.add_mul]; congr 2; omega
            omega
          · obtain ⟨g1, g2⟩ := drop_take_get hi
            obtain ⟨ys, h1, h2⟩ := hat _ x g1
            refine ⟨ys, h1, fun j v hj => ?_⟩
            have := h2 j v hj
            rw [Nat.add_mul] at this
            rw [show off + o * e.sz + i * e.sz + j = off + (o * e.sz + i * e.sz) + j by omega]; exact this
  · intro b hb
    cases A with
    | none =>
      rcases hA with hA | hA
      · have : c - o = 0 := by omega
        cases A' <;> simp [blkOf, this] at hb
      · rw [hA] at hb; simp [blkOf] at hb
    | some ad =>
      rcases hA with hA | hA
      · have : c - o = 0 := by omega
        cases A' <;> simp [blkOf, this] at hb
      · rw [hA] at hb
        simp only [blkOf, Option.map_some] at hb
        split at hb
        · cases hb
        · injection hb with hb
          rw [hφ]
          simp only [blkOf]
          rw [if_neg (by omega)]
          rw [← hb]
          congr 1
          unfold Addr.add; split <;> rfl

theorem lst_ok {e : Ty} {v : PV} {l : List e.D} {cs : List Value} {fz' bz' : Nat → Prop} (h : lst st e v = some l) (hst : ∀ k c, st k = some c → σ k = some c) (hsto : ∀ k c, σ k = some c → CellAt w fz bz φ (φ k) c)
    (hr : RepC w fz bz φ v.t v.x cs) (hf : ∀ b, fz b → fz' b) (hbz : ∀ b, bz b → fz' b ∨ bz' b) (hb : ∀ k ∈ v.t.toks, ∀ c b, σ k = some c → blkOf (φ k) = some b → fz' b ∨ bz' b) :
    RepC w fz' bz' noTok (.sl .bor e) l cs := by
  obtain ⟨t, x⟩ := v
  unfold lst at h
  cases t with
  | sl m e' =>
    cases m with
    | frz =>
      simp only [] at h
      obtain ⟨rfl, h⟩ := castL_ok h
      cases h
      exact RepC.mono (fun _ _ => rfl) hf hbz (fun _ _ => rfl) (by
        simp only [RepC] at hr ⊢
        obtain ⟨A, c, he, h1, h2⟩ := hr
        refine ⟨A, c, he, h1, h2.imp id ?_⟩
        rintro ⟨B, off, q1, q2, q3⟩
        exact ⟨B, off, q1, .inl q2, q3⟩)
    | bor =>
      simp only [] at h
      obtain ⟨rfl, h⟩ := castL_ok h
      cases h
      exact RepC.mono (fun _ _ => rfl) hf hbz (fun _ _ => rfl) (by simp only [RepC] at hr ⊢; exact hr)
    | own k =>
      simp only [] at h
      split at h
      · rename_i e2 l2 hk
        obtain ⟨rfl, h⟩ := castL_ok h
        cases h
        simp only [RepC] at hr
        subst hr
        have hc := hsto k _ (hst _ _ hk)
        obtain ⟨A, c, q1, q2, q3⟩ := arr_slc (z := fun b => fz' b ∨ bz' b) (fz' := fz') (bz' := bz') hc hf (fun b hb' => hb k (by simp [Ty.toks]) _ b (hst _ _ hk) hb')
        simp only [RepC]
        exact ⟨A, c, by rw [q1], q2, q3⟩
      · cases h
    | osub k =>
      simp only [] at h
      split at h
      · rename_i e2 l2 hk
        obtain ⟨hz, h⟩ := cond_some h
        obtain ⟨rfl, h⟩ := castL_ok h
        cases h
        simp only [RepC] at hr
        obtain ⟨v, rfl, hs⟩ := hr
        have hc := hsto k _ (hst _ _ hk)
        rw [nbeq_eq hz] at hs
        obtain ⟨q1, q2, q3⟩ := sub_arr hc hs
        have hcl := hc.1
        obtain ⟨A, c, rfl, h3, h4⟩ := q2
        simp only [RepC]
        refine ⟨A, c, rfl, h3.1, ?_⟩
        rcases h4 with rfl | ⟨B, off, ety, ar, rfl, hg, _, hat⟩
        · left; omega
        · by_cases h0 : ((l2.drop x.1).take x.2).length = 0
          · exact .inl h0
          · refine .inr ⟨B, off, rfl, hb k (by simp [Ty.toks]) _ B (hst _ _ hk) (q3 B (by simp only [blkOf]; rw [if_neg (by omega)])), fun i y hi => ?_⟩
            obtain ⟨ys, g1, g2⟩ := hat i y hi
            exact ⟨ys, RepC.closed (fun _ _ => rfl) hf hcl g1, cells_cellsAt hg g2⟩
      · cases h
    | emp =>
      simp only [] at h
      injection h with h; subst h
      simp only [RepC] at hr ⊢
      obtain ⟨A, rfl⟩ := hr
      exact ⟨A, 0, rfl, Nat.le_refl _, .inl rfl⟩
  | _ => simp only [] at h; cases h

/-- Told under the new names. -/
def Told (w : World) (fz bz : Nat → Prop) (σ : Sg) (φ : Nat → Value) (a : Acc) (hs : List (Nat × Value)) (H : (Nat → Prop) → (Nat → Prop) → (Nat → Value) → Prop) : Prop :=
  ∀ fz' bz' φ', Zone σ φ fz bz a fz' bz' → (∀ j v, lk j hs = some v → φ' j = v) → H fz' bz' φ'

theorem conv_ok (hst : ∀ k c, st k = some c → σ k = some c) (hsto : ∀ k c, σ k = some c → CellAt w fz bz φ (φ k) c) : ∀ {t : Ty} {v : PV} {a a' : Acc} {x : t.D}, conv st t v a = some (x, a') →
    ∀ {hs : List (Nat × Value)} {cs : List Value}, Hdrs φ a.m hs → RepC w fz bz φ v.t v.x cs →
    ∃ hs', Hdrs φ a'.m hs' ∧ Ext a a' hs hs' ∧ Told w fz bz σ φ a' hs' (fun fz' bz' φ' => RepC w fz' bz' φ' t x cs) ∧ ∀ j ∈ t.toks, ∃ v, lk j hs' = some v := by
  intro t
  induction t with
  | unit =>
    intro v a a' x h hs cs hH hr
    obtain ⟨tv, xv⟩ := v
    cases tv <;> simp only [conv] at h <;> first | (cases h; done) | skip
    injection h with h; injection h with h1 h2; subst h1; subst h2
    exact ⟨hs, hH, Ext.refl _ _, fun _ _ _ _ _ => hr, by simp [Ty.toks]⟩
  | ubool => intro v a a' x h hs cs hH hr; obtain ⟨tv, xv⟩ := v; cases tv <;> simp only [conv] at h <;> cases h
  | nilp =>
    intro v a a' x h hs cs hH hr
    obtain ⟨tv, xv⟩ := v
    cases tv <;> simp only [conv] at h <;> first | (cases h; done) | skip
    injection h with h; injection h with h1 h2; subst h1; subst h2
    exact ⟨hs, hH, Ext.refl _ _, fun _ _ _ _ _ => hr, by simp [Ty.toks]⟩
  | int k =>
    intro v a a' x h hs cs hH hr
    obtain ⟨tv, xv⟩ := v
    cases tv <;> simp only [conv] at h <;> first | (cases h; done) | skip
    obtain ⟨hk, h⟩ := cond_some h
    cases kbeq_eq hk
    injection h with h; injection h with h1 h2; subst h1; subst h2
    exact ⟨hs, hH, Ext.refl _ _, fun _ _ _ _ _ => hr, by simp [Ty.toks]⟩
  | bool =>
    intro v a a' x h hs cs hH hr
    obtain ⟨tv, xv⟩ := v
    cases tv <;> simp only [conv] at h <;> first | (cases h; done) | skip
    injection h with h; injection h with h1 h2; subst h1; subst h2
    exact ⟨hs, hH, Ext.refl _ _, fun _ _ _ _ _ => hr, by simp [Ty.toks]⟩
  | str =>
    intro v a a' x h hs cs hH hr
    obtain ⟨tv, xv⟩ := v
    cases tv <;> simp only [conv] at h <;> first | (cases h; done) | skip
    injection h with h; injection h with h1 h2; subst h1; subst h2
    exact ⟨hs, hH, Ext.refl _ _, fun _ _ _ _ _ => hr, by simp [Ty.toks]⟩
  | sl m e ih =>
    intro v a a' x h hs cs hH hr
    cases m with
    | bor =>
      simp only [conv] at h
      split at h
      · rename_i l hl
        injection h with h; injection h with h1 h2; subst h1; subst h2
        refine ⟨hs, hH, ⟨fun _ _ h => h, fun _ _ h => h, fun _ h => h, fun k hk => by simp [hk]⟩, fun fz' bz' φ' hz _ => ?_, by simp [Ty.toks]⟩
        have := lst_ok hl hst hsto hr hz.fz hz.bz (fun k hk => hz.b k (by simp [hk]))
        exact RepC.toks this (by simp [Ty.toks])
      · cases h
    | frz =>
      obtain ⟨tv, xv⟩ := v
      cases tv <;> first | (simp only [conv] at h; cases h; done) | skip
      rename_i m' e'
      cases m' <;> simp only [conv] at h <;> first | (cases h; done) | skip
      · split at h
        · rename_i l hl
          injection h with h; injection h with h1 h2; subst h1; subst h2
          obtain ⟨rfl, hl⟩ := castL_ok hl
          cases hl
          exact ⟨hs, hH, Ext.refl _ _, fun fz' bz' φ' hz _ => hr.zone hz.fz hz.bz (by simp [Ty.toks]), by simp [Ty.toks]⟩
        · cases h
      · rename_i k
        split at h
        · rename_i e2 l2 hk
          split at h
          · rename_i l hl
            injection h with h; injection h with h1 h2; subst h1; subst h2
            obtain ⟨rfl, hl⟩ := castL_ok hl
            cases hl
            refine ⟨hs, hH, ⟨fun _ _ h => h, fun _ _ h => h, fun k hk => by simp [hk], fun _ h => h⟩, fun fz' bz' φ' hz _ => ?_, by simp [Ty.toks]⟩
            simp only [RepC] at hr ⊢
            subst hr
            have hc := hsto k _ (hst _ _ hk)
            obtain ⟨A, c, q1, q2, q3⟩ := arr_slc (z := fz') (fz' := fz') (bz' := bz') hc hz.fz (fun b hb' => hz.f k (by simp) _ b (hst _ _ hk) hb')
            exact ⟨A, c, by rw [q1], q2, q3⟩
          · cases h
        · cases h
      · injection h with h; injection h with h1 h2; subst h1; subst h2
        refine ⟨hs, hH, Ext.refl _ _, fun fz' bz' φ' hz _ => ?_, by simp [Ty.toks]⟩
        simp only [RepC] at hr ⊢
        obtain ⟨A, rfl⟩ := hr
        exact ⟨A, 0, rfl, Nat.le_refl _, .inl rfl⟩
    | own j =>
      obtain ⟨tv, xv⟩ := v
      cases tv <;> first | (simp only [conv] at h; cases h; done) | skip
      rename_i m' e'
      cases m' <;> simp only [conv] at h <;> first | (cases h; done) | skip
      · rename_i k
        split at h
        · rename_i a2 ha
          injection h with h; injection h with h1 h2; subst h1; subst h2
          simp only [RepC] at hr
          obtain ⟨hs', q1, q2, q3, q4, q5⟩ := add_ok (v := φ k) ha hH rfl
          refine ⟨hs', q1, q2, fun fz' bz' φ' hz hφ => ?_, fun i hi => ?_⟩
          · simp only [RepC]; rw [hφ j _ q3]; exact hr
          · have : i = j := by simpa [Ty.toks] using hi
            subst this; exact ⟨_, q3⟩
        · cases h
      · rename_i k
        split at h
        · rename_i a2 ha
          injection h with h; injection h with h1 h2; subst h1; subst h2
          simp only [RepC] at hr
          obtain ⟨v, rfl, hsub⟩ := hr
          obtain ⟨hs', q1, q2, q3, q4, q5⟩ := add_ok (v := v) ha hH hsub
          refine ⟨hs', q1, q2, fun fz' bz' φ' hz hφ => ?_, fun i hi => ?_⟩
          · simp only [RepC]; rw [hφ j _ q3]
          · have : i = j := by simpa [Ty.toks] using hi
            subst this; exact ⟨_, q3⟩
        · cases h
      · split at h
        · rename_i a2 ha
          injection h with h; injection h with h1 h2; subst h1; subst h2
          simp only [RepC] at hr
          obtain ⟨A, rfl⟩ := hr
          obtain ⟨hs', q1, q2, q3, q4, q5⟩ := add_ok (v := .slice A 0 0) ha hH ⟨A, rfl⟩
          refine ⟨hs', q1, q2, fun fz' bz' φ' hz hφ => ?_, fun i hi => ?_⟩
          · simp only [RepC]; rw [hφ j _ q3]
          · have : i = j := by simpa [Ty.toks] using hi
            subst this; exact ⟨_, q3⟩
        · cases h
    | osub j => simp only [conv] at h; cases h
    | emp =>
      obtain ⟨tv, xv⟩ := v
      cases tv <;> first | (simp only [conv] at h; cases h; done) | skip
      rename_i m' e'
      cases m' <;> simp only [conv] at h <;> first | (cases h; done) | skip
      injection h with h; injection h with h1 h2; subst h1; subst h2
      exact ⟨hs, hH, Ext.refl _ _, fun fz' bz' φ' hz _ => hr, by simp [Ty.toks]⟩
  | ptr j p o =>
    intro v a a' x h hs cs hH hr
    obtain ⟨tv, xv⟩ := v
    cases tv <;> simp only [conv] at h <;> first | (cases h; done) | skip
    rename_i k q r
    obtain ⟨_, h1⟩ := cond_some h
    obtain ⟨ho, h2⟩ := cond_some h1
    clear h h1
    have ho := nbeq_eq ho
    subst ho
    have h := h2
    clear h2
    split at h
    · rename_i a2 ha
      injection h with h; injection h with h1 h2; subst h1; subst h2
      obtain ⟨hs', q1, q2, q3, q4, q5⟩ := add_ok (v := φ k) ha hH rfl
      refine ⟨hs', q1, q2, fun fz' bz' φ' hz hφ => ?_, fun i hi => ?_⟩
      · simp only [RepC] at hr ⊢; rw [hφ j _ q3]; exact hr
      · have : i = j := by simpa [Ty.toks] using hi
        subst this; exact ⟨_, q3⟩
    · cases h
  | ep k p o s => intro v a a' x h hs cs hH hr; simp only [conv] at h; cases h
  | rp t ih =>
    intro v a a' x h hs cs hH hr
    obtain ⟨tv, xv⟩ := v
    cases tv <;> simp only [conv] at h <;> first | (cases h; done) | skip
    · rename_i k p q
      split at h
      · rename_i bt bx hk
        split at h
        · rename_i q' u hq hu
          obtain ⟨hqq, h⟩ := cond_some h
          obtain ⟨hnt, h⟩ := cond_some h
          have hnt := Ty.noToks_eq hnt
          split at h
          · rename_i y a2 hy
            injection h with h; injection h with h1 h2; subst h1; subst h2
            simp only [RepC] at hr
            obtain ⟨B, off, hφ, rfl⟩ := hr
            have hσk := hst _ _ hk
            obtain ⟨B', off', ety, ar, ys, hφ', hg, hc, hat⟩ := hsto _ _ hσk
            rw [hφ] at hφ'; injection hφ' with e; injection e with e; injection e with e1 e2 _; subst e1; subst e2
            obtain ⟨c, d, e, rfl, hcl, hdr, htt⟩ := getP_spec hu hq hc
            obtain ⟨hs', g1, g2, g3, g4⟩ := ih hy (hs := hs) (cs := d) hH hdr
            refine ⟨hs', g1, ⟨g2.h, g2.m, g2.f, fun j hj => g2.b j (List.mem_cons_of_mem _ hj)⟩, fun fz' bz' φ' hz hn => ?_, by simp [Ty.toks]⟩
            have hz2 := hz.b k (g2.b k (by simp)) _ B hσk (by rw [hφ]; rfl)
            have hr2 := g3 fz' bz' φ' hz hn
            refine ⟨B, off + q, d, rfl, hz2, hr2.toks (by rw [hnt]; simp), ?_⟩
            intro j v hj
            have := hat (c.length + j) v (by rw [List.getElem?_append_right (by omega), Nat.add_sub_cancel_left, List.getElem?_append_left (List.getElem?_eq_some_iff.1 hj).1]; exact hj)
            rw [hcl, ← nbeq_eq hqq, ← Nat.add_assoc] at this
            simp only [World.cell?, hg, Option.isSome_none, Bool.false_eq_true, if_false]
            exact this
          · cases h
        · cases h
      · cases h
    · split at h
      · rename_i y hy
        injection h with h; injection h with h1 h2; subst h1; subst h2
        obtain ⟨rfl, hy⟩ := castD_ok hy
        cases hy
        exact ⟨hs, hH, Ext.refl _ _, fun fz' bz' φ' hz _ => hr.zone hz.fz hz.bz (by simp [Ty.toks]), by simp [Ty.toks]⟩
      · cases h
  | fn f c ih =>
    intro v a a' x h hs cs hH hr
    obtain ⟨tv, xv⟩ := v
    cases tv <;> simp only [conv] at h <;> first | (cases h; done) | skip
    obtain ⟨hf, h⟩ := cond_some h
    have hf := nbeq_eq hf
    subst hf
    split at h
    · rename_i y a2 hc
      injection h with h; injection h with h1 h2; subst h1; subst h2
      simp only [RepC] at hr
      obtain ⟨vs, rfl, hr⟩ := hr
      obtain ⟨hs', q1, q2, q3, q4⟩ := ih hc hH hr
      refine ⟨hs', q1, q2, fun fz' bz' φ' hz hφ => ⟨vs, rfl, q3 fz' bz' φ' hz hφ⟩, q4⟩
    · cases h
  | agg t ih =>
    intro v a a' x h hs cs hH hr
    obtain ⟨tv, xv⟩ := v
    cases tv <;> simp only [conv] at h <;> first | (cases h; done) | skip
    split at h
    · rename_i y a2 hc
      injection h with h; injection h with h1 h2; subst h1; subst h2
      simp only [RepC] at hr
      obtain ⟨hs', q1, q2, q3, q4⟩ := ih hc hH hr
      exact ⟨hs', q1, q2, fun fz' bz' φ' hz hφ => q3 fz' bz' φ' hz hφ, q4⟩
    · cases h
  | pair b c ihb ihc =>
    intro v a a' x h hs cs hH hr
    obtain ⟨tv, xv⟩ := v
    cases tv <;> simp only [conv] at h <;> first | (cases h; done) | skip
    split at h
    · rename_i y a2 h1
      split at h
      · rename_i z a3 h2
        injection h with h; injection h with g1 g2; subst g1; subst g2
        simp only [RepC] at hr
        obtain ⟨c1, d1, rfl, r1, r2⟩ := hr
        obtain ⟨hs1, q1, q2, q3, q4⟩ := ihb h1 hH r1
        obtain ⟨hs2, p1, p2, p3, p4⟩ := ihc h2 q1 r2
        refine ⟨hs2, p1, q2.trans p2, fun fz' bz' φ' hz hφ => ⟨c1, d1, rfl, q3 fz' bz' φ' (hz.back p2) (fun j v hj => hφ j v (p2.h j v hj)), p3 fz' bz' φ' hz hφ⟩, fun j hj => ?_⟩
        simp only [Ty.toks, List.mem_append] at hj
        rcases hj with hj | hj
        · obtain ⟨v, hv⟩ := q4 j hj; exact ⟨v, p2.h j v hv⟩
        · exact p4 j hj
      · cases h
    · cases h
  | tup t ih =>
    intro v a a' x h hs cs hH hr
    obtain ⟨tv, xv⟩ := v
    cases tv <;> simp only [conv] at h <;> first | (cases h; done) | skip
    simp only [RepC] at hr
end
end Go.Pv
