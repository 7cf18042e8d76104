/- Pv, sixth text: more operations that only reckon. -/
import Derived.Test.YtdkinmgpclbedaaDoorPvParts
set_option linter.unusedVariables false
set_option linter.unusedSimpArgs false
namespace Go.Pv
open Go

def TTOk (P : Program) (tt : List (Nat × TInfo)) : Prop := ∀ t i, lk t tt = some i → TOk P t i

section
variable {P : Program} {R : Type} {r : R} {o : Oper} {rd : Operand → Option PV} {st : Sg} {nx : Nat} {K : Dl → Option R}

abbrev Res (P : Program) (o : Oper) (rd : Operand → Option PV) (st : Sg) (nx : Nat) (K : Dl → Option R) (r : R) : Prop := ∃ d, K d = some r ∧ OpOk P o rd st nx d

theorem split_ok {x : Int} {K : Nat → Option R} : ∀ {n i : Nat}, split x K none n i = some r → ∃ j, i ≤ j ∧ j < i + n ∧ x = (j : Int) ∧ K j = some r
  | 0, i, h => by simp [split] at h
  | n + 1, i, h => by
    simp only [split] at h
    by_cases hx : x = (i : Int)
    · rw [decide_eq_true hx] at h; exact ⟨i, Nat.le_refl _, by omega, hx, h⟩
    · rw [decide_eq_false hx] at h
      obtain ⟨j, h1, h2, h3, h4⟩ := split_ok (n := n) (i := i + 1) h
      exact ⟨j, by omega, by omega, h3, h4⟩

theorem castD_ok {a b : Ty} {x : a.D} {y : b.D} (h : castD a b x = some y) : a = b ∧ HEq x y := by
  unfold castD at h
  split at h
  · rename_i hb
    have e := Ty.beq_eq hb
    subst e
    injection h with h
    exact ⟨rfl, heq_of_eq h⟩
  · cases h
theorem castL_ok {a b : Ty} {x : List a.D} {y : List b.D} (h : castL a b x = some y) : a = b ∧ HEq x y := by
  unfold castL at h
  split at h
  · rename_i hb
    have e := Ty.beq_eq hb
    subst e
    injection h with h
    exact ⟨rfl, heq_of_eq h⟩
  · cases h

theorem ok_pick {c x y : Operand} {b : Bool} {u v : PV} (ho : o.op = .pick c x y) (hc : rd c = some ⟨.bool, b⟩) (hx : rd x = some u) (hy : rd y = some v)
    (h : (match castD v.t u.t v.x with | some y => K ⟨⟨u.t, cond b u.x y⟩, []⟩ | none => cond b (K ⟨u, []⟩) (K ⟨v, []⟩)) = some r) : Res P o rd st nx K r := by
  have hmc : c ∈ o.op.operands.toList := by rw [ho]; simp [Op.operands]
  have hmx : x ∈ o.op.operands.toList := by rw [ho]; simp [Op.operands]
  have hmy : y ∈ o.op.operands.toList := by rw [ho]; simp [Op.operands]
  have base : ∀ z : PV, (b = true → z = u) → (b = false → z = v) → OpOk P o rd st nx ⟨z, []⟩ := by
    intro z h1 h2
    refine OpOk.pure fun F ρ σ born a w φ fz hI hrd hst => ?_
    have e := rep_bool.1 (hI.rd (hrd c _ hmc hc))
    cases b with
    | true => cases h1 rfl; exact ⟨a.eval x, by simp [execOp, ho, e, asBool], hI.rd (hrd x _ hmx hx), hI.rdb (hrd x _ hmx hx)⟩
    | false => cases h2 rfl; exact ⟨a.eval y, by simp [execOp, ho, e, asBool], hI.rd (hrd y _ hmy hy), hI.rdb (hrd y _ hmy hy)⟩
  obtain ⟨tu, xu⟩ := u
  obtain ⟨tv, xv⟩ := v
  split at h
  · rename_i q hq
    obtain ⟨e1, e2⟩ := castD_ok hq
    simp only [] at e1 e2
    subst e1
    cases e2
    refine ⟨_, h, base _ (fun e => by subst e; rfl) (fun e => by subst e; rfl)⟩
  · cases b with
    | true => exact ⟨_, h, base _ (fun _ => rfl) (fun e => by cases e)⟩
    | false => exact ⟨_, h, base _ (fun e => by cases e) (fun _ => rfl)⟩

theorem ok_nilCheck {x : Operand} {v : PV} (ho : o.op = .nilCheck x) (hx : rd x = some v)
    (h : (match v.t with | .ptr _ _ _ => K ⟨v, []⟩ | .ep _ _ _ _ => K ⟨v, []⟩ | .rp _ => K ⟨v, []⟩ | .fn _ _ => K ⟨v, []⟩ | _ => none) = some r) : Res P o rd st nx K r := by
  have hm : x ∈ o.op.operands.toList := by rw [ho]; simp [Op.operands]
  obtain ⟨t, y⟩ := v
  cases t <;> simp only [] at h <;> first | (cases h; done) | skip
  all_goals
    refine ⟨_, h, OpOk.pure fun F ρ σ born a w φ fz hI hrd hst => ?_⟩
    have hr := hI.rd (hrd x _ hm hx)
    refine ⟨a.eval x, ?_, hr, hI.rdb (hrd x _ hm hx)⟩
    simp only [RepV, RepV0, RepC] at hr
  · obtain ⟨B, off, _, he⟩ := hr
    injection he with he; simp [execOp, ho, he]
  · obtain ⟨B, off, N, c, _, _, he⟩ := hr
    injection he with he; simp [execOp, ho, he]
  · obtain ⟨B, off, ys, he, _⟩ := hr
    injection he with he; simp [execOp, ho, he]
  · obtain ⟨vs, he, _⟩ := hr
    injection he with he; simp [execOp, ho, he]

theorem ok_neg {x : Operand} {k : IntKind} {n : Int} {t : Nat} (ho : o.op = .unOp .neg t x) (hx : rd x = some ⟨.int k, n⟩) : OpOk P o rd st nx ⟨⟨.int k, k.wrap (0 - n)⟩, []⟩ := by
  have hm : x ∈ o.op.operands.toList := by rw [ho]; simp [Op.operands]
  refine OpOk.pure fun F ρ σ born a w φ fz hI hrd hst => ?_
  have e := rep_int.1 (hI.rd (hrd x _ hm hx))
  exact ⟨.int k (k.wrap (0 - n)), by simp [execOp, ho, e, Op.unary, Op.intArith], rep_int.2 rfl, by simp [Ty.toks]⟩
theorem ok_not {x : Operand} {b : Bool} {t : Nat} (ho : o.op = .unOp .not t x) (hx : rd x = some ⟨.bool, b⟩) : OpOk P o rd st nx ⟨⟨.bool, !b⟩, []⟩ := by
  have hm : x ∈ o.op.operands.toList := by rw [ho]; simp [Op.operands]
  refine OpOk.pure fun F ρ σ born a w φ fz hI hrd hst => ?_
  have e := rep_bool.1 (hI.rd (hrd x _ hm hx))
  exact ⟨.bool (!b), by simp [execOp, ho, e, Op.unary], rep_bool.2 rfl, by simp [Ty.toks]⟩
theorem ok_convert {x : Operand} {j k : IntKind} {n : Int} {s t : Nat} {i : TInfo} (ho : o.op = .convert s t x) (ht : TOk P t i) (hk : i.k = .int k) (hx : rd x = some ⟨.int j, n⟩) (hs : ∃ d, P.underlying s = some d) : OpOk P o rd st nx ⟨⟨.int k, k.wrap n⟩, []⟩ := by
  have hm : x ∈ o.op.operands.toList := by rw [ho]; simp [Op.operands]
  refine OpOk.pure fun F ρ σ born a w φ fz hI hrd hst => ?_
  have e := rep_int.1 (hI.rd (hrd x _ hm hx))
  obtain ⟨d, hd⟩ := hs
  refine ⟨.int k (k.wrap n), ?_, rep_int.2 rfl, by simp [Ty.toks]⟩
  simp [execOp, ho, e, convert, run_underlying hd, run_underlying (ht.int hk), Conv.intToInt]
theorem run_equal_bool {t : Nat} (ht : P.underlying t = some .bool) (p q : Bool) (w : World) : (Op.equal t (.bool p) (.bool q)).run P w = .ok (p == q) w := by
  unfold Op.equal
  rw [show Op.maxDepth = 9999 + 1 from rfl]
  generalize 9999 = d
  simp only [Op.equalIn, Sem.run_bind, run_underlying ht, Result.andThen_ok, Sem.run_pure]
theorem ok_boolEq {op : BinOp} {x y : Operand} {p q : Bool} {t t' : Nat} {i : TInfo} (ho : o.op = .binOp op t x y t') (ht : TOk P t i) (hk : i.k = .bool) (hx : rd x = some ⟨.bool, p⟩) (hy : rd y = some ⟨.bool, q⟩)
    (h : (match (generalizing := false) op with | .eql => K ⟨⟨.bool, p == q⟩, []⟩ | .neq => K ⟨⟨.bool, !(p == q)⟩, []⟩ | _ => none) = some r) : Res P o rd st nx K r := by
  have hmx : x ∈ o.op.operands.toList := by rw [ho]; simp [Op.operands]
  have hmy : y ∈ o.op.operands.toList := by rw [ho]; simp [Op.operands]
  cases op <;> simp only [] at h <;> first | (cases h; done) | skip
  all_goals
    refine ⟨_, h, OpOk.pure fun F ρ σ born a w φ fz hI hrd hst => ?_⟩
    have e1 := rep_bool.1 (hI.rd (hrd x _ hmx hx))
    have e2 := rep_bool.1 (hI.rd (hrd y _ hmy hy))
    refine ⟨_, ?_, rep_bool.2 rfl, by simp [Ty.toks]⟩
    simp only [execOp, ho, e1, e2, Sem.run_bind]
    simp [eqGuard, binOp, run_equal_bool (ht.bool hk)]

theorem RepL.nth {w : World} {fz bz : Nat → Prop} {φ : Nat → Value} : ∀ {t : Ty} {x : t.D} {n : Nat} {u : PV} {vs : List Value}, t.nth n x = some u → u.t.stor = true → RepL w fz bz φ t x vs →
    (∃ v, vs[n]? = some v ∧ RepV0 w fz bz φ u.t u.x v) ∧ ∀ k ∈ u.t.toks, k ∈ t.toks := by
  intro t
  induction t with
  | pair a b iha ihb =>
    intro x n u vs h1 hs h
    simp only [RepL] at h
    obtain ⟨v, r, rfl, ha, hb⟩ := h
    cases n with
    | zero =>
      simp only [Ty.nth] at h1; injection h1 with h1; subst h1
      exact ⟨⟨v, rfl, ha⟩, fun k hk => by simp [Ty.toks, hk]⟩
    | succ n =>
      simp only [Ty.nth] at h1
      obtain ⟨⟨v', h2, h4⟩, h3⟩ := ihb h1 hs hb
      exact ⟨⟨v', by simpa using h2, h4⟩, fun k hk => by simp [Ty.toks, h3 k hk]⟩
  | _ =>
    intro x n u vs h1 hs h
    cases n with
    | zero =>
      simp only [Ty.nth] at h1; injection h1 with h1; subst h1
      first
        | (simp only [RepL] at h
           obtain ⟨v, rfl, h⟩ := h
           exact ⟨⟨v, rfl, h⟩, fun k hk => hk⟩)
        | (simp [Ty.stor] at hs; done)
    | succ n => simp [Ty.nth] at h1
theorem RepV.of0 {w : World} {fz bz : Nat → Prop} {φ : Nat → Value} {t : Ty} {x : t.D} {v : Value} (h : RepV0 w fz bz φ t x v) : RepV w fz bz φ t x v := by
  cases t <;> first | exact h | (simp only [RepV0] at h; done)
theorem RepV.to0 {w : World} {fz bz : Nat → Prop} {φ : Nat → Value} {t : Ty} {x : t.D} {v : Value} (hs : t.stor = true) (h : RepV w fz bz φ t x v) : RepV0 w fz bz φ t x v := by
  cases t <;> first | exact h | (simp [Ty.stor] at hs; done)

theorem ok_extract {x : Operand} {t : Ty} {y : t.D} {j : Nat} {u : PV} (ho : o.op = .extract x j) (hx : rd x = some ⟨.tup t, y⟩) (hn : t.nth j y = some u) (hs : u.t.stor = true) : OpOk P o rd st nx ⟨u, []⟩ := by
  have hm : x ∈ o.op.operands.toList := by rw [ho]; simp [Op.operands]
  refine OpOk.pure fun F ρ σ born a w φ fz hI hrd hst => ?_
  have hr := hI.rd (hrd x _ hm hx)
  have hb := hI.rdb (hrd x _ hm hx)
  simp only [RepV] at hr
  obtain ⟨vs, he, hl⟩ := hr
  obtain ⟨⟨v, h1, h2⟩, h3⟩ := RepL.nth hn hs hl
  refine ⟨v, ?_, RepV.of0 h2, fun k hk => hb k (by simpa [Ty.toks] using h3 k hk)⟩
  have h1' : vs.toArray[j]? = some v := by simpa using h1
  simp [execOp, ho, he, Instr.extract, h1']

theorem toks_append {k : Nat} {u : PV} {t : Ty} (h : k ∈ u.t.toks → k ∈ t.toks) : k ∈ u.t.toks → k ∈ (Ty.agg t).toks := h

/-- The part of an aggregate, as a value. -/
theorem run_part {t : Nat} {i : TInfo} (h : TOk P t i) {w : World} {fz bz : Nat → Prop} {φ : Nat → Value} {u : PV} {c d e : List Value} (hd : RepC w fz bz φ u.t u.x d) (hs : u.t.stor = true) (hsz : u.t.sz = i.sz)
    (hag : u.t.isAgg = i.k.agg) (w' : World) :
    ∃ v, (Go.part t (c ++ (d ++ e)).toArray c.length).run P w' = .ok v w' ∧ RepV w fz bz φ u.t u.x v := by
  have hl : d.length = i.sz := by rw [hd.len, hsz]
  rcases run_sliceStruct_part h (cs := c ++ (d ++ e)) rfl hl w' with h1 | ⟨h1, h2⟩
  · refine ⟨_, h1, ?_⟩
    rw [← hag]
    have := RepV.ofCells hs hd
    cases ha : u.t.isAgg with
    | true => rw [ha] at this; exact this
    | false =>
      rw [ha] at this
      have h1' := RepV.store hs ha
      have : d ≠ [] := by intro e0; subst e0; rw [h1'] at hsz; simp at hl; omega
      obtain ⟨v, r, rfl⟩ := List.exists_cons_of_ne_nil this
      simpa using ‹RepV w fz bz φ u.t u.x _›
  · exfalso
    have h1' := RepV.store hs (by rw [hag, h1])
    have : d = [] := by simp at h2; exact h2.1
    subst this; rw [h1'] at hsz; simp at hl; omega

theorem fitK_ok {i : TInfo} {u : PV} {K : PV → Option R} (h : fitK i u K = some r) : K u = some r ∧ u.t.sz = i.sz ∧ u.t.stor = true ∧ u.t.isAgg = i.k.agg := by
  unfold fitK at h
  obtain ⟨h1, h⟩ := cond_some h
  obtain ⟨h2, h⟩ := cond_some h
  obtain ⟨h3, h⟩ := cond_some h
  refine ⟨h, nbeq_eq h1, h2, ?_⟩
  revert h3
  unfold beqB
  cases u.t.isAgg <;> cases i.k.agg <;> simp

theorem ok_field {s f ft fo q : Nat} {i fi : TInfo} {x : Operand} {t : Ty} {y : t.D} {u : PV} (ho : o.op = .field s x f) (hs : TOk P s i) {fs : List (Nat × Nat)} (hk : i.k = .st fs) (hf : fieldOf fs f = some (ft, fo)) (hi : TOk P ft fi)
    (hx : rd x = some ⟨.agg t, y⟩) (hn : t.nth f y = some u) (hno : t.nthOff f = some q) (hq : Nat.beq q fo = true) (hsz : u.t.sz = fi.sz) (hst' : u.t.stor = true)
    (hag : u.t.isAgg = fi.k.agg) : OpOk P o rd st nx ⟨u, []⟩ := by
  have hm : x ∈ o.op.operands.toList := by rw [ho]; simp [Op.operands]
  refine OpOk.pure fun F ρ σ born a w φ fz hI hrd hst => ?_
  have hr := hI.rd (hrd x _ hm hx)
  have hb := hI.rdb (hrd x _ hm hx)
  simp only [RepV, RepV0] at hr
  obtain ⟨cs, he, hc⟩ := hr
  obtain ⟨c, d, e, rfl, hcl, hd, ht⟩ := nth_spec hn hno hc
  obtain ⟨v, h1, h2⟩ := run_part (P := P) (c := c) (e := e) hi hd hst' hsz hag w
  refine ⟨v, ?_, h2, fun k hk => hb k (by simpa [Ty.toks] using ht k hk)⟩
  obtain ⟨fields, hu, hfs⟩ := hs.struct hk
  have g1 := fieldOf_ok hf
  rw [hfs] at g1
  simp only [List.getElem?_map, Array.getElem?_toList, Option.map_eq_some_iff] at g1
  obtain ⟨fl, hfl, ge⟩ := g1
  injection ge with ge1 ge2
  have hqq := nbeq_eq hq
  rw [hcl, hqq] at h1
  simp only [execOp, ho, he, Instr.field, Sem.run_bind, run_underlying hu, Result.andThen_ok, hfl, asAgg, Sem.run_pure, ge1, ge2, h1]
end
end Go.Pv
