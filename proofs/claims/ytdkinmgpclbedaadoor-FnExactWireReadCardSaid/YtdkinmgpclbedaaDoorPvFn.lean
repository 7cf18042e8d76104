/- Pv, twenty-second text: functions. -/
import Derived.Test.YtdkinmgpclbedaaDoorPvCode
set_option linter.unusedVariables false
set_option linter.unusedSimpArgs false
namespace Go.Pv
open Go Go.RowKit

section
variable {P : Program} {C : Cx}

/-- What is packed, told under other names. -/
structure Packed (w : World) (σ : Sg) (φ : Nat → Value) (fz bz : Nat → Prop) (sto : List (Nat × CTy)) (a : Acc) (hs : List (Nat × Value)) (y : SD sto) (T : (Nat → Prop) → (Nat → Prop) → (Nat → Value) → Prop) : Prop where
  told : ∀ fz' bz' φ', Zone σ φ fz bz a fz' bz' → (∀ j v, lk j hs = some v → φ' j = v) → T fz' bz' φ'
  cell : ∀ fz' bz' φ', Zone σ φ fz bz a fz' bz' → (∀ j v, lk j hs = some v → φ' j = v) → ∀ p ∈ cellsOf sto y, CellAt w fz' bz' φ' (φ' p.1) p.2
  src : ∀ j v, lk j hs = some v → ∃ s, lk j a.m = some s ∧ SrcHdr φ s v
  key : ∀ j s, lk j a.m = some s → hasKey j sto = true
  one : ∀ j v, lk j hs = some v → v.oneCell' = true
  blk : ∀ p ∈ cellsOf sto y, ∃ v, lk p.1 hs = some v ∧ ∀ b, blkOf v = some b → ∃ s k c, lk p.1 a.m = some s ∧ srcTok s = some k ∧ σ k = some c ∧ blkOf (φ k) = some b
  ok : a.ok = true

theorem packed_of {F : Fix} {ρ : Rd} {σ : Sg} {born : Nat → Prop} {act : Act} {w : World} {φ : Nat → Value} {fz : Nat → Prop} (hI : Inv F ρ σ born act w φ fz) {wt : Ty} {sto : List (Nat × CTy)} (hg : fineAll sto = true) {v : PV} {x : wt.D} {y : SD sto} {a0 a : Acc} (hp : pack σ wt sto v a0 = some (x, y, a))
    {T : wt.D → (Nat → Prop) → (Nat → Prop) → (Nat → Value) → Prop}
    (hT : ∀ x a', conv σ wt v a0 = some (x, a') → ∃ hs', Hdrs φ a'.m hs' ∧ Told w fz F.bz σ φ a' hs' (T x)) :
    ∃ hs, Packed w σ φ fz F.bz sto a hs y (T x) := by
  unfold pack at hp
  split at hp
  · rename_i x1 a1 hconv
    split at hp
    · rename_i y1 a2 hcont
      obtain ⟨hok, hp⟩ := cond_some hp
      obtain ⟨hkeys, hp⟩ := cond_some hp
      injection hp with hp; injection hp with e1 hp; injection hp with e2 e3
      subst e1; subst e2; subst e3
      obtain ⟨hs1, p1, p3⟩ := hT x1 a1 hconv
      obtain ⟨hs2, q1, q2, q3⟩ := contents_ok (fun _ _ h => h) hI.sto hg hcont p1
      have hsrc : ∀ j s, lk j a2.m = some s → Srcd σ φ a2 hs2 j := by
        intro j s h
        obtain ⟨p, h1, h2⟩ := hasKey_ok (keysIn_ok hkeys h) y1
        have := (q3 p h1).2.2
        rw [h2] at this; exact this
      have hsm : ∀ j v, lk j hs2 = some v → ∃ s, lk j a2.m = some s ∧ SrcHdr φ s v := by
        intro j v hj
        have := q1.lk (j := j)
        rw [hj] at this
        cases hm : lk j a2.m with
        | none => rw [hm] at this; exact this.elim
        | some s => rw [hm] at this; exact ⟨s, rfl, this⟩
      refine ⟨hs2, fun fz' bz' φ' hz hφ => p3 fz' bz' φ' (hz.back q2) (fun j v hj => hφ j v (q2.h j v hj)), fun fz' bz' φ' hz hφ p hp => (q3 p hp).1 fz' bz' φ' hz hφ, hsm, fun j s h => keysIn_ok hkeys h, ?_, ?_, hok⟩
      · intro j v hj
        obtain ⟨s, h1, _⟩ := hsm j v hj
        obtain ⟨s', v', _, h2, h3, _⟩ := hsrc j s h1
        rw [hj] at h2; injection h2 with h2; subst h2; exact h3
      · intro p hp
        obtain ⟨s, v, h1, h2, h3, h4, h5⟩ := (q3 p hp).2.2
        exact ⟨v, h2, fun b hb => let ⟨k, c, h6, h7, h8⟩ := h5 b hb; ⟨s, k, c, h1, h6, h7, h8⟩⟩
    · cases hp
  · cases hp

def selfH (φ : Nat → Value) : List (Nat × Src) → List (Nat × Value)
  | [] => []
  | (j, _) :: r => (j, φ j) :: selfH φ r
def selfSrc : List (Nat × Src) → Prop
  | [] => True
  | (j, s) :: r => s = .tok j ∧ selfSrc r
theorem selfH_ok {φ : Nat → Value} : ∀ {m : List (Nat × Src)}, selfSrc m → Hdrs φ m (selfH φ m)
  | [], _ => rfl
  | (j, s) :: r, h => ⟨φ j, selfH φ r, rfl, by rw [h.1]; rfl, selfH_ok h.2⟩
theorem seedLt_self {n : Nat} : ∀ {l : List (Nat × CTy)}, selfSrc (seedLt n l)
  | [] => trivial
  | (j, _) :: r => by
    simp only [seedLt]
    cases Nat.blt j n
    · exact seedLt_self (l := r)
    · exact ⟨rfl, seedLt_self (l := r)⟩
theorem seedOf_self {k : List (Nat × CTy)} : ∀ {l : List (Nat × CTy)}, selfSrc (seedOf k l)
  | [] => trivial
  | (j, _) :: r => by
    simp only [seedOf]
    cases hasKey j k
    · exact seedOf_self (l := r)
    · exact ⟨rfl, seedOf_self (l := r)⟩

/-- The zones of what is handed on within the same call. -/
theorem zone_of {σ : Sg} {φ : Nat → Value} {fz bz : Nat → Prop} {a : Acc} (hb : nilN a.b = true) : Zone σ φ fz bz a (fun b => fz b ∨ ∃ k c, k ∈ a.f ∧ σ k = some c ∧ blkOf (φ k) = some b) bz := by
  have hb : a.b = [] := by cases h : a.b with
    | nil => rfl
    | cons x y => rw [h] at hb; cases hb
  exact ⟨fun b h => .inl h, fun b h => .inr h, fun k hk c b h1 h2 => .inr ⟨k, c, hk, h1, h2⟩, by rw [hb]; simp⟩

theorem cellsSt_lk : ∀ {l : List (Nat × CTy)} {x : SD l} {k : Nat} {c : Cell}, (match lk k (cellsSt l x) with | some c => c | none => none) = some c → (k, c) ∈ cellsOf l x
  | [], x, k, c, h => by simp [cellsSt, lk] at h
  | [(j, d)], x, k, c, h => by
    simp only [cellsSt, lk_cons] at h
    split at h
    · rename_i o ho
      split at ho
      · rename_i e; injection ho with ho; subst ho; subst e; injection h with h; subst h; simp [cellsOf]
      · simp [lk] at ho
    · cases h
  | (j, d) :: d2 :: r, x, k, c, h => by
    simp only [cellsSt, lk_cons] at h
    by_cases e : j = k
    · rw [if_pos e] at h
      simp only [] at h; injection h with h; subst h; subst e
      simp [cellsOf]
    · rw [if_neg e] at h
      have := cellsSt_lk (l := d2 :: r) (x := x.2) h
      simp [cellsOf, this]

/-- Values in a row, one by one. -/
theorem unpairs_all {w : World} {fz bz : Nat → Prop} {φ : Nat → Value} : ∀ {t : Ty} {x : t.D} {vs : List Value}, RepL w fz bz φ t x vs → RepAll w fz bz φ (unpairs t x) vs ∧ ∀ v ∈ unpairs t x, ∀ k ∈ v.t.toks, k ∈ t.toks := by
  intro t
  induction t with
  | unit => intro x vs h; exact ⟨h, by simp [unpairs]⟩
  | pair a b iha ihb =>
    intro x vs h
    simp only [RepL] at h
    obtain ⟨v, r, rfl, h1, h2⟩ := h
    obtain ⟨g1, g2⟩ := ihb h2
    refine ⟨⟨v, r, rfl, RepV.of0 h1, g1⟩, ?_⟩
    intro u hu k hk
    simp only [unpairs] at hu
    rcases List.mem_cons.1 hu with rfl | hu
    · simp [Ty.toks]; exact .inl hk
    · simp [Ty.toks]; exact .inr (g2 u hu k hk)
  | _ =>
    intro x vs h
    simp only [RepL] at h
    obtain ⟨v, rfl, h1⟩ := h
    exact ⟨⟨v, [], rfl, RepV.of0 h1, rfl⟩, by simp [unpairs]⟩
theorem unpairs_len : ∀ {t : Ty} {x : t.D}, (unpairs t x).length = parLen t := by
  intro t
  induction t with
  | pair a b iha ihb => intro x; simp [unpairs, parLen, ihb]
  | _ => intro x; rfl
theorem repAll_len {w : World} {fz bz : Nat → Prop} {φ : Nat → Value} : ∀ {l : List PV} {vs : List Value}, RepAll w fz bz φ l vs → vs.length = l.length
  | [], vs, h => by simp only [RepAll] at h; subst h; rfl
  | v :: l, vs, h => by
    simp only [RepAll] at h
    obtain ⟨u, us, rfl, _, h⟩ := h
    simp [repAll_len h]
theorem repAll_get {w : World} {fz bz : Nat → Prop} {φ : Nat → Value} : ∀ {l : List PV} {vs : List Value} {i : Nat} {v : PV}, RepAll w fz bz φ l vs → l[i]? = some v → ∃ u, vs[i]? = some u ∧ RepV w fz bz φ v.t v.x u
  | [], vs, i, v, h, hi => by simp at hi
  | v0 :: l, vs, i, v, h, hi => by
    simp only [RepAll] at h
    obtain ⟨u, us, rfl, h1, h⟩ := h
    cases i with
    | zero => simp at hi; subst hi; exact ⟨u, rfl, h1⟩
    | succ i => obtain ⟨u', g1, g2⟩ := repAll_get h (by simpa using hi); exact ⟨u', by simpa using g1, g2⟩
theorem number_lk : ∀ {l : List PV} {i t : Nat} {v : PV}, lk t (number i l) = some v → ∃ j, t = i + j ∧ l[j]? = some v
  | [], i, t, v, h => by simp [number, lk] at h
  | u :: l, i, t, v, h => by
    simp only [number, lk_cons] at h
    split at h
    · rename_i e; injection h with h; subst h; exact ⟨0, by omega, rfl⟩
    · obtain ⟨j, h1, h2⟩ := number_lk h
      exact ⟨j + 1, by omega, by simpa using h2⟩

/-- What holds as a call begins. -/
theorem begin_of {e : Ent} (hg : e.good = true) {nt : Nat} (hn : Nat.ble (parLen e.par) nt = true) {x : e.par.D} {y : SD e.sto} {args : List Value} {w : World} {fz bz W : Nat → Prop} {φ : Nat → Value} (hS : Start w fz bz W φ e.par x (cellsOf e.sto y) args) :
    StInv ⟨w, W, fz, bz, φ, 64, nt⟩ (e.start x y) { tmps := args.toArray ++ Array.replicate (nt - args.toArray.size) undef, defers := [] } w := by
  have g1 := cond_true_of hg
  have g2 := cond_true_of g1.2
  obtain ⟨u1, u2⟩ := unpairs_all hS.rep
  have hlen : args.length = parLen e.par := by rw [repAll_len u1, unpairs_len]
  have hle : parLen e.par ≤ nt := Nat.le_of_ble_eq_true hn
  have hst : ∀ k c, (e.start x y).st k = some c → (k, c) ∈ cellsOf e.sto y := fun k c h => cellsSt_lk h
  refine ⟨fun k => k < 64, φ, fz, ⟨?_, ?_, ?_, ?_, ?_, ?_, ?_, hS.fzlt, hS.bzlt, fun b h => h, fun b h => .inl h, fun j _ => rfl, fun j h => h, fun k _ => hS.one k, Nat.le_refl _, fun b _ _ => rfl, rfl, rfl, rfl, rfl⟩, fun k h => h⟩
  · simp only [Array.size_append, List.size_toArray, Array.size_replicate]; omega
  · intro t v ht
    obtain ⟨j, rfl, hj⟩ := number_lk ht
    obtain ⟨u, h1, h2⟩ := repAll_get u1 hj
    refine ⟨u, ?_, h2⟩
    have hjl := (List.getElem?_eq_some_iff.1 h1).1
    rw [Nat.zero_add, Array.getElem?_append_left (by simpa using hjl)]
    simpa using h1
  · intro t v ht k hk
    obtain ⟨j, rfl, hj⟩ := number_lk ht
    exact ltAll_ok g1.1 (u2 v (List.mem_of_getElem? hj) k hk)
  · intro k c h; exact hS.cell _ (hst k c h)
  · intro k c h; exact goodAll_ok g2.1 _ (hst k c h)
  · intro j k c d b hj hk h1 h2; exact hS.inj _ (hst j c hj) _ (hst k d hk) b h1 h2
  · intro k c b hk hb
    obtain ⟨h1, h2, h3⟩ := hS.own _ (hst k c hk) b hb
    exact ⟨h1, h2, .inl h3⟩

/-! ### results -/
theorem resV_ok (hC : CxOk P C) {F : Fix} {s : St} {born : Nat → Prop} {a : Act} {w : World} {φ : Nat → Value} {fz : Nat → Prop} (hI : Inv F s.rho s.st born a w φ fz) {x : ResultVar} {v : PV} (h : resV C s x = some v) :
    ∃ cv, (match x with | .tmp t => pure (a.tmps.getD t undef) | .cell b t => do loadVar t (← asAddr (a.tmps.getD b undef)) : Sem Value).run P w = .ok cv w ∧ RepV w fz F.bz φ v.t v.x cv := by
  cases x with
  | tmp t =>
    simp only [resV] at h
    obtain ⟨cv, h1, h2⟩ := hI.tmps t v h
    exact ⟨cv, by simp [h1], h2⟩
  | cell b t =>
    simp only [resV] at h
    split at h
    · rename_i k p o _ i hb hi
      split at h
      · rename_i t' x' hk
        obtain ⟨_, h⟩ := cond_some h
        obtain ⟨e2, h⟩ := cond_some h
        obtain ⟨h, f1, f2, f3⟩ := fitK_ok h
        injection h with h; subst h
        have e2 := nbeq_eq e2
        subst e2
        obtain ⟨cv, h1, h2⟩ := hI.tmps b _ hb
        simp only [RepV, RepV0, RepC] at h2
        obtain ⟨B, off, h3, h4⟩ := h2
        injection h4 with h4
        subst h4
        obtain ⟨B', off', ety, ar, ys, g1, g2, g3, g4⟩ := hI.sto k _ hk
        rw [h3] at g1
        injection g1 with g1; injection g1 with g1; injection g1 with g1 g1'
        subst g1; subst g1'
        obtain ⟨v, r1, r2⟩ := run_load_rep (hC.tt _ _ hi) g3 f2 f1 f3 (cells_cellsAt g2 g4)
        refine ⟨v, ?_, r2⟩
        simp only [Instr.loadAt, Instr.sureAddr, Sem.run_bind, Sem.run_pure, Result.andThen_ok] at r1
        simp [h1, asAddr, r1]
      · cases h
    · cases h

theorem resVs_ok (hC : CxOk P C) {F : Fix} {s : St} {born : Nat → Prop} {a : Act} {w : World} {φ : Nat → Value} {fz : Nat → Prop} (hI : Inv F s.rho s.st born a w φ fz) : ∀ {xs : List ResultVar} {l : List PV}, resVs C s xs = some l →
    ∃ vs, (xs.mapM fun | .tmp t => pure (a.tmps.getD t undef) | .cell b t => do loadVar t (← asAddr (a.tmps.getD b undef)) : Sem (List Value)).run P w = .ok vs w ∧ RepAll w fz F.bz φ l vs ∧ ∀ v ∈ l, v.t.stor = true
  | [], l, h => by simp only [resVs] at h; injection h with h; subst h; exact ⟨[], by simp, rfl, by simp⟩
  | x :: xs, l, h => by
    simp only [resVs] at h
    split at h
    · rename_i v hv
      split at h
      · rename_i l' hl
        obtain ⟨hs, h⟩ := cond_some h
        injection h with h; subst h
        obtain ⟨cv, h1, h2⟩ := resV_ok hC hI hv
        obtain ⟨vs, h3, h4, h5⟩ := resVs_ok hC hI hl
        refine ⟨cv :: vs, ?_, ⟨cv, vs, rfl, h2, h4⟩, ?_⟩
        · simp only [List.mapM_cons, Sem.run_bind, h1, Result.andThen_ok, h3, Sem.run_pure]
        · intro u hu
          rcases List.mem_cons.1 hu with rfl | hu
          · exact hs
          · exact h5 u hu
      · cases h
    · cases h

theorem resPV_ok {w : World} {fz bz : Nat → Prop} {φ : Nat → Value} {l : List PV} {vs : List Value} (h : RepAll w fz bz φ l vs) (hs : ∀ v ∈ l, v.t.stor = true) : RepV w fz bz φ (resPV l).t (resPV l).x (if h : vs.toArray.size = 1 then vs.toArray[0] else .tuple vs.toArray) := by
  match l, h, hs with
  | [], h, hs =>
    simp only [RepAll] at h; subst h
    exact ⟨[], rfl, rfl⟩
  | [v], h, hs =>
    simp only [RepAll] at h
    obtain ⟨u, us, rfl, h1, rfl⟩ := h
    exact h1
  | v :: v2 :: r, h, hs =>
    have hlen := repAll_len h
    simp only [List.length_cons] at hlen
    rw [dif_neg (by simp; omega)]
    exact ⟨vs, rfl, (pvs_rep hs h).1⟩
theorem keepOf_ok {l : List (Nat × CTy)} {j : Nat} {s : Src} : ∀ {m : List (Nat × Src)}, keepOf l m = true → lk j m = some s → hasKey j l = true → s = .tok j
  | [], _, h, _ => by simp [lk] at h
  | (i, t) :: r, h, hj, hk => by
    have h := cond_true_of h
    rw [lk_cons] at hj
    split at hj
    · rename_i e; subst e
      injection hj with hj; subst hj
      have h1 := h.1
      rw [hk] at h1
      cases t <;> simp at h1
      rw [h1]
    · exact keepOf_ok h.2 hj hk
theorem keepLt_ok {n : Nat} {j : Nat} {s : Src} : ∀ {m : List (Nat × Src)}, keepLt n m = true → lk j m = some s → j < n → s = .tok j
  | [], _, h, _ => by simp [lk] at h
  | (i, t) :: r, h, hj, hk => by
    have h := cond_true_of h
    rw [lk_cons] at hj
    split at hj
    · rename_i e; subst e
      injection hj with hj; subst hj
      have h1 := h.1
      rw [show Nat.blt i n = true by simpa [Nat.blt_eq] using hk] at h1
      cases t <;> simp at h1
      rw [h1]
    · exact keepLt_ok h.2 hj hk

/-- What is handed over within one call. -/
theorem packed_inj {F : Fix} {ρ : Rd} {σ : Sg} {born : Nat → Prop} {act : Act} {w : World} {φ : Nat → Value} {fz : Nat → Prop} (hI : Inv F ρ σ born act w φ fz) {sto : List (Nat × CTy)} {a : Acc} {hs : List (Nat × Value)} {y : SD sto} {T : (Nat → Prop) → (Nat → Prop) → (Nat → Value) → Prop}
    (hP : Packed w σ φ fz F.bz sto a hs y T) {φ' : Nat → Value} (hφ : ∀ j v, lk j hs = some v → φ' j = v) :
    (∀ p ∈ cellsOf sto y, ∀ q ∈ cellsOf sto y, ∀ b, blkOf (φ' p.1) = some b → blkOf (φ' q.1) = some b → p.1 = q.1) ∧
    (∀ p ∈ cellsOf sto y, ∀ b, blkOf (φ' p.1) = some b → ¬ (fz b ∨ ∃ k c, k ∈ a.f ∧ σ k = some c ∧ blkOf (φ k) = some b) ∧ ¬ F.bz b ∧ (F.W b ∨ F.w0.heap.size ≤ b)) := by
  obtain ⟨k1, k2, k3⟩ := Acc.ok_of hP.ok
  have blk : ∀ p ∈ cellsOf sto y, ∀ b, blkOf (φ' p.1) = some b → ∃ s k c, lk p.1 a.m = some s ∧ srcTok s = some k ∧ σ k = some c ∧ blkOf (φ k) = some b := by
    intro p hp b hb
    obtain ⟨v, h1, h2⟩ := hP.blk p hp
    rw [hφ _ _ h1] at hb
    exact h2 b hb
  refine ⟨fun p hp q hq b hb hb' => ?_, fun p hp b hb => ?_⟩
  · obtain ⟨s, k, c, h1, h2, h3, h4⟩ := blk p hp b hb
    obtain ⟨s', k', c', h1', h2', h3', h4'⟩ := blk q hq b hb'
    have := hI.inj k k' c c' b h3 h3' h4 h4'
    subst this
    exact toks_inj k1 h1 h1' h2 h2'
  · obtain ⟨s, k, c, h1, h2, h3, h4⟩ := blk p hp b hb
    obtain ⟨g1, g2, g3⟩ := hI.own k c b h3 h4
    refine ⟨?_, g2, g3⟩
    rintro (h | ⟨k', c', hk', h3', h4'⟩)
    · exact g1 h
    · have := hI.inj k k' c c' b h3 h3' h4 h4'
      subst this; exact disjN_ok k2 hk' (toks_mem h1 h2)

theorem fzF_lt {F : Fix} {ρ : Rd} {σ : Sg} {born : Nat → Prop} {act : Act} {w : World} {φ : Nat → Value} {fz : Nat → Prop} (hI : Inv F ρ σ born act w φ fz) {f : List Nat} {b : Nat} (h : fz b ∨ ∃ k c, k ∈ f ∧ σ k = some c ∧ blkOf (φ k) = some b) : b < w.heap.size := by
  rcases h with h | ⟨k, c, _, h1, h2⟩
  · exact hI.fzlt b h
  · exact (hI.sto k c h1).lt h2
theorem fzF_from {F : Fix} {ρ : Rd} {σ : Sg} {born : Nat → Prop} {act : Act} {w : World} {φ : Nat → Value} {fz : Nat → Prop} (hI : Inv F ρ σ born act w φ fz) {f : List Nat} {b : Nat} (h : fz b ∨ ∃ k c, k ∈ f ∧ σ k = some c ∧ blkOf (φ k) = some b) : F.fz b ∨ F.W b ∨ F.w0.heap.size ≤ b := by
  rcases h with h | ⟨k, c, _, h1, h2⟩
  · exact hI.fz1 b h
  · exact .inr (hI.own k c b h1 h2).2.2

/-- A function's end. -/
theorem ret_ok (hC : CxOk P C) {e : Ent} (hg : e.good = true) {w0 : World} {W fz0 bz : Nat → Prop} {φ0 : Nat → Value} {nt : Nat} (hone : ∀ j, (φ0 j).oneCell' = true) {fn : Func} {s : St} {a : Act} {w : World} (hI : StInv ⟨w0, W, fz0, bz, φ0, 64, nt⟩ s a w)
    {u : e.res.D × SD e.osto} (h : retS C e fn.results.toList s = some u) :
    ∃ v, (results fn a.tmps).run P w = .ok v w ∧ ∃ fz' φ', Finish w0 fz0 bz W φ0 e.sto e.res u.1 (cellsOf e.osto u.2) v w fz' φ' := by
  have g1 := cond_true_of hg
  have g2 := cond_true_of g1.2
  have g3 := cond_true_of g2.2
  have g4 := cond_true_of g3.2
  have g5 := cond_true_of g4.2
  obtain ⟨born, φ, fz, hI, hb⟩ := hI
  unfold retS at h
  split at h
  · rename_i l hl
    obtain ⟨vs, r1, r2, r3⟩ := resVs_ok hC hI hl
    split at h
    · rename_i x y ac hp
      obtain ⟨hnb, h⟩ := cond_some h
      obtain ⟨hkp, h⟩ := cond_some h
      injection h with h; subst h
      have hv := resPV_ok r2 r3
      obtain ⟨hs, hP⟩ := packed_of hI (goodAll_fine g5.2) hp (T := fun x fz' bz' φ' => RepV w fz' bz' φ' e.res x (if h : vs.toArray.size = 1 then vs.toArray[0] else .tuple vs.toArray)) (by
        intro x a' hc
        obtain ⟨hs', q1, q2, q3, q4⟩ := convV_ok (fun _ _ h => h) hI.sto hc (selfH_ok (φ := φ) (m := seedOf e.sto e.osto) seedOf_self) hv
        exact ⟨hs', q1, q3⟩)
      let φ' : Nat → Value := fun j => if hasKey j e.sto = true then φ0 j else (lk j hs).getD (.slice none 0 0)
      have eφ : ∀ j v, lk j hs = some v → φ' j = v := by
        intro j v hj
        simp only [φ']
        by_cases hk : hasKey j e.sto = true
        · rw [if_pos hk]
          obtain ⟨s', h1, h2⟩ := hP.src j v hj
          have := keepOf_ok hkp h1 hk
          subst this
          simp only [SrcHdr] at h2
          obtain ⟨p, hp1, hp2⟩ := hasKey_ok hk (show SD e.sto from Classical.choice (by
            have : ∀ l : List (Nat × CTy), Nonempty (SD l) := by
              intro l
              induction l with
              | nil => exact ⟨()⟩
              | cons p r ih =>
                obtain ⟨j, c⟩ := p
                have hc : Nonempty c.D := by cases c with | box t => exact ⟨t.dflt⟩ | arr e => exact ⟨[]⟩
                obtain ⟨x⟩ := hc
                obtain ⟨y⟩ := ih
                cases r with
                | nil => exact ⟨x⟩
                | cons q r => exact ⟨(x, y)⟩
            exact this _))
          have hlt := (goodAll_ok g2.1 p hp1).1
          rw [hp2] at hlt
          have := hI.par j hlt
          rw [h2, this]
        · rw [if_neg hk, hj]; rfl
      have hz := zone_of (σ := s.st) (φ := φ) (fz := fz) (bz := bz) hnb
      obtain ⟨i1, i2⟩ := packed_inj hI hP eφ
      refine ⟨_, ?_, (fun b => fz b ∨ ∃ k c, k ∈ ac.f ∧ s.st k = some c ∧ blkOf (φ k) = some b), φ', ⟨hP.told _ _ _ hz eφ, hP.cell _ _ _ hz eφ, i1, i2, fun b h => .inl (hI.fz0 b h), fun b h => fzF_from hI h, fun b h => fzF_lt hI h, ?_, ?_, hI.size, hI.frame, hI.os, hI.tape, hI.output⟩⟩
      · unfold results
        rw [Array.mapM_eq_mapM_toList]
        simp only [Sem.run_bind, Sem.run_map, Result.andThen_ok, Sem.run_pure]
        refine (congrArg (fun z => Result.andThen (Result.andThen z _) _) r1).trans ?_
        simp only [Result.andThen_ok]
      · intro j hj; simp only [φ']; rw [if_pos hj]
      · intro j
        simp only [φ']
        by_cases hk : hasKey j e.sto = true
        · rw [if_pos hk]; exact hone j
        · rw [if_neg hk]
          cases hj : lk j hs with
          | none => rfl
          | some v => exact hP.one j v hj
    · cases h
  · cases h

/-! ### loops -/
theorem rdEnv_ok {F : Fix} {s : St} {born : Nat → Prop} {a : Act} {w : World} {φ : Nat → Value} {fz : Nat → Prop} (hI : Inv F s.rho s.st born a w φ fz) : ∀ {env : List (Nat × Ty)} {l : List PV}, rdEnv s env = some l →
    ∃ vs, vs.length = env.length ∧ (∀ (i t : Nat) (ty : Ty), env[i]? = some (t, ty) → ∃ v, vs[i]? = some v ∧ a.tmps[t]? = some v) ∧ RepAll w fz F.bz φ l vs ∧ ∀ v ∈ l, v.t.stor = true
  | [], l, h => by simp only [rdEnv] at h; injection h with h; subst h; exact ⟨[], rfl, by simp, rfl, by simp⟩
  | (t, ty) :: r, l, h => by
    simp only [rdEnv] at h
    split at h
    · rename_i v hv
      split at h
      · rename_i l' hl
        obtain ⟨hs, h⟩ := cond_some h
        injection h with h; subst h
        obtain ⟨vs, h1, h2, h3, h4⟩ := rdEnv_ok hI hl
        obtain ⟨cv, q1, q2⟩ := hI.tmps t v hv
        refine ⟨cv :: vs, by simp [h1], ?_, ⟨cv, vs, rfl, q2, h3⟩, ?_⟩
        · intro i t' ty' hi
          cases i with
          | zero => simp at hi; obtain ⟨rfl, rfl⟩ := hi; exact ⟨cv, rfl, q1⟩
          | succ i => obtain ⟨v', g1, g2⟩ := h2 i t' ty' (by simpa using hi); exact ⟨v', by simpa using g1, g2⟩
        · intro u hu
          rcases List.mem_cons.1 hu with rfl | hu
          · exact hs
          · exact h4 u hu
      · cases h
    · cases h
theorem withTmps_lk : ∀ {env : List (Nat × Ty)} {l : List PV} {t : Nat} {v : PV}, lk t (withTmps env l) = some v → ∃ (i : Nat) (ty : Ty), env[i]? = some (t, ty) ∧ l[i]? = some v
  | [], l, t, v, h => by cases l <;> simp [withTmps, lk] at h
  | (u, ty) :: r, [], t, v, h => by simp [withTmps, lk] at h
  | (u, ty) :: r, p :: l, t, v, h => by
    simp only [withTmps, lk_cons] at h
    split at h
    · rename_i e; subst e; injection h with h; subst h; exact ⟨0, ty, rfl, rfl⟩
    · obtain ⟨i, ty', h1, h2⟩ := withTmps_lk h
      exact ⟨i + 1, ty', by simpa using h1, by simpa using h2⟩

/-- From one round to the next. -/
theorem jump_ok {F : Fix} (hF : F.np = 64) {l : Lp} (hg : l.good = true) {s : St} {x : (parOf l.env).D} {y : SD l.sto} (h : jumpS l s = some (x, y)) {a : Act} {w : World} (hI : StInv F s a w) : StInv F (l.start x y) a w := by
  have g1 := cond_true_of hg
  have g2 := cond_true_of g1.2
  have g3 := cond_true_of g2.2
  have hnx : 64 ≤ l.nx := Nat.le_of_ble_eq_true g1.1
  obtain ⟨born, φ, fz, hI, hb⟩ := hI
  unfold jumpS at h
  split at h
  · rename_i vals hvals
    split at h
    · rename_i x' y' ac hp
      obtain ⟨hnb, h⟩ := cond_some h
      obtain ⟨hkp, h⟩ := cond_some h
      injection h with h; injection h with e1 e2; subst e1; subst e2
      obtain ⟨vs, f1, f2, f3, f4⟩ := rdEnv_ok hI hvals
      obtain ⟨hL, _⟩ := pvs_rep f4 f3
      obtain ⟨hs, hP⟩ := packed_of hI (goodN_fine g3.2) hp (T := fun x fz' bz' φ' => RepL w fz' bz' φ' (parOf l.env) x vs) (by
        intro x a' hc
        obtain ⟨hs', q1, q2, q3, q4⟩ := convL_ok (fun _ _ h => h) hI.sto hc (selfH_ok (φ := φ) (m := seedLt 64 l.sto) seedLt_self) hL
        exact ⟨hs', q1, q3⟩)
      let φ' : Nat → Value := fun j => if j < 64 then F.φ j else (lk j hs).getD (.slice none 0 0)
      have epar : ∀ j, j < 64 → φ j = F.φ j := fun j hj => hI.par j (by rw [hF]; exact hj)
      have eφ : ∀ j v, lk j hs = some v → φ' j = v := by
        intro j v hj
        simp only [φ']
        by_cases hk : j < 64
        · rw [if_pos hk]
          obtain ⟨s', h1, h2⟩ := hP.src j v hj
          have := keepLt_ok hkp h1 hk
          subst this
          simp only [SrcHdr] at h2
          rw [h2, epar j hk]
        · rw [if_neg hk, hj]; rfl
      have hz := zone_of (σ := s.st) (φ := φ) (fz := fz) (bz := F.bz) hnb
      obtain ⟨i1, i2⟩ := packed_inj hI hP eφ
      obtain ⟨u1, u2⟩ := unpairs_all (hP.told _ _ _ hz eφ)
      have hst : ∀ k c, (l.start x' y').st k = some c → (k, c) ∈ cellsOf l.sto y' := fun k c h => cellsSt_lk h
      refine ⟨fun k => k < l.nx, φ', (fun b => fz b ∨ ∃ k c, k ∈ ac.f ∧ s.st k = some c ∧ blkOf (φ k) = some b), ⟨hI.siz, ?_, ?_, ?_, ?_, ?_, ?_, fun b h => fzF_lt hI h, hI.bzlt, fun b h => .inl (hI.fz0 b h), fun b h => fzF_from hI h, ?_, ?_, ?_, hI.size, hI.frame, hI.os, hI.tape, hI.output, hI.def_⟩, fun k h => h⟩
      · intro t v ht
        obtain ⟨i, ty, h1, h2⟩ := withTmps_lk ht
        obtain ⟨v', h3, h4⟩ := f2 i t ty h1
        obtain ⟨u, h5, h6⟩ := repAll_get u1 h2
        rw [h3] at h5; injection h5 with h5; subst h5
        exact ⟨v', h4, h6⟩
      · intro t v ht k hk
        obtain ⟨i, ty, h1, h2⟩ := withTmps_lk ht
        exact ltAll_ok g2.1 (u2 v (List.mem_of_getElem? h2) k hk)
      · intro k c h; exact hP.cell _ _ _ hz eφ _ (hst k c h)
      · intro k c h; exact goodN_ok g3.2 _ (hst k c h)
      · intro j k c d b hj hk h1 h2; exact i1 _ (hst j c hj) _ (hst k d hk) b h1 h2
      · intro k c b hk hb; exact i2 _ (hst k c hk) b hb
      · intro j hj; rw [hF] at hj; simp only [φ']; rw [if_pos hj]
      · intro j hj; rw [hF] at hj; show j < l.nx; omega
      · intro k hk
        simp only [φ']
        by_cases h64 : k < 64
        · rw [if_pos h64, ← epar k h64]
          exact hI.one k (hI.pb k (by rw [hF]; exact h64))
        · rw [if_neg h64]
          cases hj : lk k hs with
          | none => rfl
          | some v => exact hP.one k v hj
    · cases h
  · cases h

/-! ### where the loops stand -/
theorem loopAt_suffix {R : Type} {J : Jx R} {q : List Nat} {res : Bool × Code × Kn R} : ∀ {c : Code} {p : List Nat} {κ : Kn R}, loopAt C J c p κ q = some res → ∃ t, q = t ++ p := by
  intro c
  induction c with
  | seq a b iha ihb =>
    intro p κ h
    simp only [loopAt] at h
    split at h
    · rename_i x hx; injection h with h; subst h
      obtain ⟨t, rfl⟩ := iha hx; exact ⟨t ++ [0], by simp⟩
    · split at h
      · rename_i x hx; injection h with h; subst h
        obtain ⟨t, rfl⟩ := ihb hx; exact ⟨t ++ [1], by simp⟩
      · obtain ⟨h1, _⟩ := cond_some h
        have h2 := cond_true_of h1
        exact ⟨[1], by rw [← nsbeq_eq h2.2]; rfl⟩
  | cond c a b iha ihb =>
    intro p κ h
    simp only [loopAt] at h
    split at h
    · rename_i x hx; injection h with h; subst h
      obtain ⟨t, rfl⟩ := iha hx; exact ⟨t ++ [0], by simp⟩
    · obtain ⟨t, rfl⟩ := ihb h; exact ⟨t ++ [1], by simp⟩
  | block id c ih =>
    intro p κ h
    simp only [loopAt] at h
    obtain ⟨t, rfl⟩ := ih h; exact ⟨t ++ [0], by simp⟩
  | loop c ih =>
    intro p κ h
    simp only [loopAt] at h
    by_cases e : nsbeq p q = true
    · exact ⟨[], by rw [nsbeq_eq e]; rfl⟩
    · rw [Bool.eq_false_iff.2 e] at h
      obtain ⟨t, rfl⟩ := ih h; exact ⟨t ++ [0], by simp⟩
  | _ => intro p κ h; simp [loopAt] at h
theorem loopAt_self {R : Type} {J : Jx R} {res : Bool × Code × Kn R} {c : Code} {p : List Nat} {κ : Kn R} (h : loopAt C J c p κ p = some res) : notLoop c = false := by
  have key : ∀ {t : List Nat} {i : Nat}, p ≠ t ++ i :: p := by
    intro t i e
    have := congrArg List.length e
    simp at this
    omega
  cases c with
  | seq a b =>
    simp only [loopAt] at h
    split at h
    · rename_i x hx; obtain ⟨t, e⟩ := loopAt_suffix hx; exact absurd e key
    · split at h
      · rename_i x hx; obtain ⟨t, e⟩ := loopAt_suffix hx; exact absurd e key
      · obtain ⟨h1, _⟩ := cond_some h
        have h2 := cond_true_of h1
        exact absurd (nsbeq_eq h2.2).symm (key (t := []))
  | cond cc a b =>
    simp only [loopAt] at h
    split at h
    · rename_i x hx; obtain ⟨t, e⟩ := loopAt_suffix hx; exact absurd e key
    · obtain ⟨t, e⟩ := loopAt_suffix h; exact absurd e key
  | block id a =>
    simp only [loopAt] at h
    obtain ⟨t, e⟩ := loopAt_suffix h; exact absurd e key
  | loop a => rfl
  | _ => simp [loopAt] at h
theorem suffix_not {t u p : List Nat} : t ++ 0 :: p ≠ u ++ 1 :: p := by
  intro h
  have h' : (t ++ [0]) ++ p = (u ++ [1]) ++ p := by simpa using h
  have := List.append_cancel_right h'
  have := congrArg List.getLast? this
  simp at this

theorem nsbeq_refl : ∀ p : List Nat, nsbeq p p = true
  | [] => rfl
  | a :: r => by simp only [nsbeq, show Nat.beq a a = true from Nat.beq_refl a, cond_true]; exact nsbeq_refl r

theorem jumpTo_ok {R : Type} {r : R} {k : Nat} {p : List Nat} {s : St} : ∀ {l : List (LpE R)}, jumpTo k p s l = some r → ∃ q ∈ l, q.path = p ∧ ∃ x y, jumpS q.L s = some (x, y) ∧ q.fn k x y = some r
  | [], h => by simp [jumpTo] at h
  | q :: l, h => by
    simp only [jumpTo] at h
    by_cases e : nsbeq q.path p = true
    · rw [e] at h
      simp only [cond_true] at h
      split at h
      · rename_i x y hj
        exact ⟨q, by simp, nsbeq_eq e, x, y, hj, h⟩
      · cases h
    · rw [Bool.eq_false_iff.2 e] at h
      obtain ⟨q', h1, h2⟩ := jumpTo_ok h
      exact ⟨q', by simp [h1], h2⟩

/-- A function does what its entry says. -/
theorem ent_ok (hC : CxOk P C) (hmix : P.follows .mixedOrders = true) {e : Ent} {fn : Func} {c : Code} (hf : P.funcs[e.f]? = some fn) (hb : fn.body = some c) (hname : (fn.name == "runtime.NumGoroutine") = false) (hg : e.good = true) (hd : dstOk fn.ntmps c = true)
    (hn : Nat.ble (parLen e.par) fn.ntmps = true) (lps : List (LpE (e.res.D × SD e.osto))) (N : Nat) (hfn : ∀ x y, e.fn x y = e.eval C fn c lps N x y) (hlg : ∀ l ∈ lps, l.L.good = true) (h0 : ∀ l ∈ lps, ∀ x y, l.fn 0 x y = none)
    (hs : ∀ l ∈ lps, ∀ k x y, l.fn (k + 1) x y = e.round C fn c lps l k x y) : EntOk P e := by
  refine ⟨hg, ⟨⟨fn, hf, hname, by rw [hb]; rfl⟩⟩, ?_⟩
  intro x y u hu args w fz bz W φ hS
  rw [hfn] at hu
  have hI := begin_of hg hn hS
  have hF : (⟨w, W, fz, bz, φ, 64, fn.ntmps⟩ : Fix).np = 64 := rfl
  generalize hFF : (⟨w, W, fz, bz, φ, 64, fn.ntmps⟩ : Fix) = F at hI hF
  have hnt : F.nt = fn.ntmps := by rw [← hFF]
  have hloops : ∀ (c' : Code) (p : List Nat) (κ : Nat → Kn (e.res.D × SD e.osto)), (∀ k q res, loopAt C (e.jx C fn.results.toList lps k) c' p (κ k) q = some res → loopAt C (e.jx C fn.results.toList lps k) c [] (e.kn C fn.results.toList) q = some res) →
      LoopsOk C F (fun k => e.jx C fn.results.toList lps k) u c' p κ := by
    intro c'
    induction c' with
    | seq a b iha ihb =>
      intro p κ h
      refine ⟨iha _ _ fun k q res hq => h k q res ?_, ihb _ _ fun k q res hq => h k q res ?_, fun hc k s hk => ?_⟩
      · simp only [loopAt]; rw [hq]
      · simp only [loopAt]
        split
        · rename_i z hz
          obtain ⟨t, h1⟩ := loopAt_suffix hz
          obtain ⟨t', h2⟩ := loopAt_suffix hq
          rw [h1] at h2; exact absurd h2 suffix_not
        · rw [hq]
      · obtain ⟨l, hl, hlp, x', y', hj, hr⟩ := jumpTo_ok hk
        cases k with
        | zero => rw [h0 l hl] at hr; cases hr
        | succ k =>
          rw [hs l hl] at hr
          unfold Ent.round at hr
          have hat : loopAt C (e.jx C fn.results.toList lps k) (.seq a b) p (κ k) (1 :: p) = some (false, b, κ k) := by
            simp only [loopAt]
            split
            · rename_i z hz
              obtain ⟨t, h1⟩ := loopAt_suffix hz
              exact absurd (show t ++ 0 :: p = [] ++ 1 :: p from h1.symm) suffix_not
            · split
              · rename_i z hz
                have := loopAt_self hz
                have hc' := (cond_true_of hc).2
                rw [this] at hc'; cases hc'
              · rw [hc, nsbeq_refl]; rfl
          have := h k (1 :: p) (false, b, κ k) hat
          rw [hlp, this] at hr
          exact ⟨k, l.L.start x' y', rfl, hr, fun a w hI => jump_ok hF (hlg l hl) hj hI⟩
    | cond cc a b iha ihb =>
      intro p κ h
      refine ⟨iha _ _ fun k q res hq => h k q res ?_, ihb _ _ fun k q res hq => h k q res ?_⟩
      · simp only [loopAt]; rw [hq]
      · simp only [loopAt]
        split
        · rename_i z hz
          obtain ⟨t, h1⟩ := loopAt_suffix hz
          obtain ⟨t', h2⟩ := loopAt_suffix hq
          rw [h1] at h2; exact absurd h2 suffix_not
        · exact hq
    | block id a ih =>
      intro p κ h
      exact ih _ _ fun k q res hq => h k q res (by simp only [loopAt]; exact hq)
    | loop a ih =>
      intro p κ h
      refine ⟨fun k s hk => ?_, ih _ _ fun k q res hq => h k q res ?_⟩
      · obtain ⟨l, hl, hlp, x', y', hj, hr⟩ := jumpTo_ok hk
        cases k with
        | zero => rw [h0 l hl] at hr; cases hr
        | succ k =>
          rw [hs l hl] at hr
          unfold Ent.round at hr
          have := h k p (true, a, κ k) (by simp only [loopAt]; rw [nsbeq_refl]; rfl)
          rw [hlp, this] at hr
          exact ⟨k, l.L.start x' y', rfl, hr, fun a w hI => jump_ok hF (hlg l hl) hj hI⟩
      · simp only [loopAt]
        have : nsbeq p q = false := by
          cases hb : nsbeq p q with
          | false => rfl
          | true =>
            obtain ⟨t, h1⟩ := loopAt_suffix hq
            have h2 := nsbeq_eq hb
            rw [h1] at h2
            have := congrArg List.length h2
            simp at this
            omega
        rw [this]; exact hq
    | _ => intro p κ h; trivial
  refine calls_of_wp hf hb ?_
  have hret : ∀ s a w', retS C e fn.results.toList s = some u → StInv F s a w' → a.defers = [] ∧ ∃ v, (results fn a.tmps).run P w' = .ok v w' ∧ ∃ fz' φ', Finish w fz bz W φ e.sto e.res u.1 (cellsOf e.osto u.2) v w' fz' φ' := by
    intro s a w' hr hI
    have hdf : a.defers = [] := by obtain ⟨_, _, _, h, _⟩ := hI; exact h.def_
    rw [← hFF] at hI
    obtain ⟨v, h1, h2⟩ := ret_ok hC hg hS.one hI hr
    exact ⟨hdf, v, h1, h2⟩
  exact code_ok hC hmix c [] (fun k => e.kn C fn.results.toList) (by rw [hnt]; exact hd) (hloops c [] _ fun k q res hq => hq) N _ (fun k _ s a w hk hI => hret s a w hk hI) (fun k _ id s a w hk hI => by cases hk) (fun k _ s a w hk hI => hret s a w hk hI) _ _ _ hu hI
end
end Go.Pv
