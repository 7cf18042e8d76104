/- Pv, fourth text: the operations that only reckon. -/
import Derived.Test.YtdkinmgpclbedaaDoorPvInv
import Derived.Laws.Entries
set_option linter.unusedVariables false
set_option linter.unusedSimpArgs false
namespace Go.Pv
open Go

/-- An operation does what the evaluator says it does. -/
def OpOk (P : Program) (o : Oper) (rd : Operand → Option PV) (st : Sg) (nx : Nat) (d : Dl) : Prop :=
  ∀ (F : Fix) (ρ : Rd) (σ : Sg) (born : Nat → Prop) (a : Act) (w : World) (φ : Nat → Value) (fz : Nat → Prop), Inv F ρ σ born a w φ fz →
    (∀ x v, x ∈ o.op.operands.toList → rd x = some v → rdOf ρ x = some v) → (∀ k c, st k = some c → σ k = some c) →
    (∀ k, nx ≤ k → k < nx + 64 → ¬ born k) → (∀ t, o.dst = some t → t < F.nt) →
    ∀ (next : Act → World → Prop) (Q : Exit → Act → World → Prop),
      (∀ v w' φ' fz', Inv F (upd ρ o.dst d.val) (updS σ d.sets) (bornTo born nx) (a.put o.dst v) w' φ' fz' → next (a.put o.dst v) w') → o.wp P a w next Q

theorem wp_value {P : Program} {o : Oper} {a : Act} {w w' : World} {next : Act → World → Prop} {Q : Exit → Act → World → Prop} {v : Value} (hr : (execOp a.eval o).run P w = .ok (.value v) w') (h : next (a.put o.dst v) w') :
    o.wp P a w next Q := by
  unfold Oper.wp; rw [hr]; exact h
theorem wp_done {P : Program} {o : Oper} {a : Act} {w w' : World} {next : Act → World → Prop} {Q : Exit → Act → World → Prop} (hr : (execOp a.eval o).run P w = .ok .skip w') (h : next (a.put o.dst undef) w') :
    o.wp P a w next Q := by
  unfold Oper.wp; rw [hr]; exact h
theorem updS_nil (σ : Sg) : updS σ [] = σ := rfl

theorem OpOk.pure {P : Program} {o : Oper} {rd : Operand → Option PV} {st : Sg} {nx : Nat} {v : PV}
    (H : ∀ (F : Fix) (ρ : Rd) (σ : Sg) (born : Nat → Prop) (a : Act) (w : World) (φ : Nat → Value) (fz : Nat → Prop), Inv F ρ σ born a w φ fz →
      (∀ x v, x ∈ o.op.operands.toList → rd x = some v → rdOf ρ x = some v) → (∀ k c, st k = some c → σ k = some c) →
      ∃ cv, (execOp a.eval o).run P w = .ok (.value cv) w ∧ RepV w fz F.bz φ v.t v.x cv ∧ ∀ k ∈ v.t.toks, born k) : OpOk P o rd st nx ⟨v, []⟩ := by
  intro F ρ σ born a w φ fz hI hrd hst hfresh hd next Q hnext
  obtain ⟨cv, hr, hv, hb⟩ := H F ρ σ born a w φ fz hI hrd hst
  refine wp_value hr ?_
  obtain ⟨φ', _, hI'⟩ := (hI.put hd hv hb).bornMono (born' := bornTo born nx) (fun k hk => .inl hk)
  exact hnext cv w φ' fz hI'

structure TOk (P : Program) (t : Nat) (i : TInfo) : Prop where
  und : ∃ d, P.underlying t = some d ∧ match i.k, d with
    | .int k, .int k' => k = k'
    | .bool, .bool => True
    | .str, .string => True
    | .sl e, .slice e' => e = e'
    | .st fs, .struct fields => fs = fields.toList.map (fun f => (f.type, f.offset))
    | .ar n e, .array n' e' => n = n' ∧ e = e'
    | .oth, .struct _ => False
    | .oth, .array _ _ => False
    | .oth, _ => True
    | _, _ => False
  info : ∃ j, P.info? t = some j ∧ j.size = i.sz ∧ j.bytes = i.byt ∧ ∃ zv, j.zero = some zv ∧ ∀ w fz bz φ, RepV0 w fz bz φ i.z.t i.z.x zv
  zsz : i.z.t.sz = i.sz
  zst : i.z.t.stor = true
  zcl : i.z.t.toks = []
  zagg : i.z.t.isAgg = i.k.agg
  cl : i.ty.closed = true
  tsz : i.ty.sz = i.sz
  pos : 0 < i.sz → 0 < i.byt

section
variable {P : Program} {R : Type} {r : R}

theorem rep_int {w : World} {fz bz : Nat → Prop} {φ : Nat → Value} {k : IntKind} {x : Int} {v : Value} : RepV w fz bz φ (.int k) x v ↔ v = .int k x := by simp [RepV, RepV0, RepC]
theorem rep_bool {w : World} {fz bz : Nat → Prop} {φ : Nat → Value} {x : Bool} {v : Value} : RepV w fz bz φ .bool x v ↔ v = .bool x := by simp [RepV, RepV0, RepC]
theorem rep_str {w : World} {fz bz : Nat → Prop} {φ : Nat → Value} {x : ByteArray} {v : Value} : RepV w fz bz φ .str x v ↔ v = .string x := by simp [RepV, RepV0, RepC]

theorem cond_some {b : Bool} {x : Option R} (h : cond b x none = some r) : b = true ∧ x = some r := by cases b <;> simp_all
theorem cond_none {b : Bool} {x : Option R} (h : cond b none x = some r) : b = false ∧ x = some r := by cases b <;> simp_all

theorem ok_move {o : Oper} {rd : Operand → Option PV} {st : Sg} {nx : Nat} {x : Operand} {v : PV} (ho : o.op = .move x ∨ o.op = .assign x) (hx : rd x = some v) : OpOk P o rd st nx ⟨v, []⟩ := by
  refine OpOk.pure fun F ρ σ born a w φ fz hI hrd hst => ?_
  have hm : x ∈ o.op.operands.toList := by rcases ho with ho | ho <;> rw [ho] <;> simp [Op.operands]
  have hx' := hrd x v hm hx
  exact ⟨a.eval x, by rcases ho with ho | ho <;> simp [execOp, ho], hI.rd hx', hI.rdb hx'⟩

theorem evBin_ok {op : BinOp} {t t' : Nat} {x y : Operand} {u v : PV} {o : Oper} {rd : Operand → Option PV} {st : Sg} {nx : Nat} {K : PV → Option R} (ho : o.op = .binOp op t x y t') (hx : rd x = some u) (hy : rd y = some v)
    (h : evBin op u v K = some r) : ∃ z, K z = some r ∧ OpOk P o rd st nx ⟨z, []⟩ := by
  have hmx : x ∈ o.op.operands.toList := by rw [ho]; simp [Op.operands]
  have hmy : y ∈ o.op.operands.toList := by rw [ho]; simp [Op.operands]
  obtain ⟨tu, xu⟩ := u
  obtain ⟨tv, xv⟩ := v
  unfold evBin at h
  split at h
  · -- two whole numbers
    rename_i k p j q h1 h2
    injection h1 with h1a h1b
    subst h1a; subst h1b
    injection h2 with h2a h2b
    subst h2a; subst h2b
    have base : ∀ {z : PV} (cv : Value), (∀ (a : Act) (w : World), a.eval x = .int k xu → a.eval y = .int j xv → (execOp a.eval o).run P w = .ok (.value cv) w) → z.t.toks = [] →
        (∀ w fz bz φ, RepV w fz bz φ z.t z.x cv) → OpOk P o rd st nx ⟨z, []⟩ := by
      intro z cv hr ht hz
      refine OpOk.pure fun F ρ σ born a w φ fz hI hrd hst => ?_
      have h1 := rep_int.1 (hI.rd (hrd x _ hmx hx))
      have h2 := rep_int.1 (hI.rd (hrd y _ hmy hy))
      exact ⟨cv, hr a w h1 h2, hz _ _ _ _, by rw [ht]; simp⟩
    cases op <;> simp only [] at h
    case add => obtain ⟨hk, h⟩ := cond_some h; cases kbeq_eq hk; exact ⟨_, h, base (.int k (k.wrap (xu + xv))) (fun a w h1 h2 => by simp [execOp, ho, h1, h2, eqGuard, binOp, Op.intArith]) rfl (fun _ _ _ _ => rep_int.2 rfl)⟩
    case sub => obtain ⟨hk, h⟩ := cond_some h; cases kbeq_eq hk; exact ⟨_, h, base (.int k (k.wrap (xu - xv))) (fun a w h1 h2 => by simp [execOp, ho, h1, h2, eqGuard, binOp, Op.intArith]) rfl (fun _ _ _ _ => rep_int.2 rfl)⟩
    case mul => obtain ⟨hk, h⟩ := cond_some h; cases kbeq_eq hk; exact ⟨_, h, base (.int k (k.wrap (xu * xv))) (fun a w h1 h2 => by simp [execOp, ho, h1, h2, eqGuard, binOp, Op.intArith]) rfl (fun _ _ _ _ => rep_int.2 rfl)⟩
    case quo =>
      obtain ⟨hk, h⟩ := cond_some h; cases kbeq_eq hk; obtain ⟨h0, h⟩ := cond_none h
      have h0 : ¬ xv = 0 := of_decide_eq_false h0
      exact ⟨_, h, base (.int k (k.wrap (xu.tdiv xv))) (fun a w h1 h2 => by simp [execOp, ho, h1, h2, eqGuard, binOp, Op.intDiv, h0]) rfl (fun _ _ _ _ => rep_int.2 rfl)⟩
    case rem =>
      obtain ⟨hk, h⟩ := cond_some h; cases kbeq_eq hk; obtain ⟨h0, h⟩ := cond_none h
      have h0 : ¬ xv = 0 := of_decide_eq_false h0
      exact ⟨_, h, base (.int k (xu.tmod xv)) (fun a w h1 h2 => by simp [execOp, ho, h1, h2, eqGuard, binOp, Op.intDiv, h0]) rfl (fun _ _ _ _ => rep_int.2 rfl)⟩
    case and => obtain ⟨hk, h⟩ := cond_some h; cases kbeq_eq hk; exact ⟨_, h, base (.int k (k.wrap ((BitVec.ofInt k.bits xu &&& BitVec.ofInt k.bits xv).toNat))) (fun a w h1 h2 => by simp [execOp, ho, h1, h2, eqGuard, binOp, Op.intBits]) rfl (fun _ _ _ _ => rep_int.2 rfl)⟩
    case or => obtain ⟨hk, h⟩ := cond_some h; cases kbeq_eq hk; exact ⟨_, h, base (.int k (k.wrap ((BitVec.ofInt k.bits xu ||| BitVec.ofInt k.bits xv).toNat))) (fun a w h1 h2 => by simp [execOp, ho, h1, h2, eqGuard, binOp, Op.intBits]) rfl (fun _ _ _ _ => rep_int.2 rfl)⟩
    case xor => obtain ⟨hk, h⟩ := cond_some h; cases kbeq_eq hk; exact ⟨_, h, base (.int k (k.wrap ((BitVec.ofInt k.bits xu ^^^ BitVec.ofInt k.bits xv).toNat))) (fun a w h1 h2 => by simp [execOp, ho, h1, h2, eqGuard, binOp, Op.intBits]) rfl (fun _ _ _ _ => rep_int.2 rfl)⟩
    case shl =>
      obtain ⟨h0, h⟩ := cond_none h
      have h0 : ¬ xv < 0 := of_decide_eq_false h0
      exact ⟨_, h, base (.int k (k.wrap (xu * 2 ^ (min xv.toNat k.bits)))) (fun a w h1 h2 => by simp [execOp, ho, h1, h2, eqGuard, binOp, Op.shift, h0]) rfl (fun _ _ _ _ => rep_int.2 rfl)⟩
    case shr =>
      obtain ⟨h0, h⟩ := cond_none h
      have h0 : ¬ xv < 0 := of_decide_eq_false h0
      exact ⟨_, h, base (.int k (xu.fdiv (2 ^ (min xv.toNat k.bits)))) (fun a w h1 h2 => by simp [execOp, ho, h1, h2, eqGuard, binOp, Op.shift, h0]) rfl (fun _ _ _ _ => rep_int.2 rfl)⟩
    case andNot => cases h
    case eql => obtain ⟨hk, h⟩ := cond_some h; cases kbeq_eq hk; exact ⟨_, h, base (.bool (xu == xv)) (fun a w h1 h2 => by simp [execOp, ho, h1, h2, eqGuard, binOp, Op.intCmp]) rfl (fun _ _ _ _ => rep_bool.2 rfl)⟩
    case neq => obtain ⟨hk, h⟩ := cond_some h; cases kbeq_eq hk; exact ⟨_, h, base (.bool (xu != xv)) (fun a w h1 h2 => by simp [execOp, ho, h1, h2, eqGuard, binOp, Op.intCmp]) rfl (fun _ _ _ _ => rep_bool.2 rfl)⟩
    case lss => obtain ⟨hk, h⟩ := cond_some h; cases kbeq_eq hk; exact ⟨_, h, base (.bool (decide (xu < xv))) (fun a w h1 h2 => by simp [execOp, ho, h1, h2, eqGuard, binOp, Op.intCmp]) rfl (fun _ _ _ _ => rep_bool.2 rfl)⟩
    case leq => obtain ⟨hk, h⟩ := cond_some h; cases kbeq_eq hk; exact ⟨_, h, base (.bool (decide (xu ≤ xv))) (fun a w h1 h2 => by simp [execOp, ho, h1, h2, eqGuard, binOp, Op.intCmp]) rfl (fun _ _ _ _ => rep_bool.2 rfl)⟩
    case gtr => obtain ⟨hk, h⟩ := cond_some h; cases kbeq_eq hk; exact ⟨_, h, base (.bool (decide (xu > xv))) (fun a w h1 h2 => by simp [execOp, ho, h1, h2, eqGuard, binOp, Op.intCmp]) rfl (fun _ _ _ _ => rep_bool.2 rfl)⟩
    case geq => obtain ⟨hk, h⟩ := cond_some h; cases kbeq_eq hk; exact ⟨_, h, base (.bool (decide (xu ≥ xv))) (fun a w h1 h2 => by simp [execOp, ho, h1, h2, eqGuard, binOp, Op.intCmp]) rfl (fun _ _ _ _ => rep_bool.2 rfl)⟩
  · rename_i p q h1 h2
    injection h1 with h1a h1b
    subst h1a; subst h1b
    injection h2 with h2a h2b
    subst h2a; subst h2b
    have base : ∀ {z : PV} (cv : Value), (∀ (a : Act) (w : World), a.eval x = .string xu → a.eval y = .string xv → (execOp a.eval o).run P w = .ok (.value cv) w) → z.t.toks = [] →
        (∀ w fz bz φ, RepV w fz bz φ z.t z.x cv) → OpOk P o rd st nx ⟨z, []⟩ := by
      intro z cv hr ht hz
      refine OpOk.pure fun F ρ σ born a w φ fz hI hrd hst => ?_
      have h1 := rep_str.1 (hI.rd (hrd x _ hmx hx))
      have h2 := rep_str.1 (hI.rd (hrd y _ hmy hy))
      exact ⟨cv, hr a w h1 h2, hz _ _ _ _, by rw [ht]; simp⟩
    cases op <;> simp only [] at h <;> first | (cases h; done) | skip
    case add =>
      obtain ⟨h0, h⟩ := cond_none h
      have h0 : ¬ (((xu.size + xv.size : Nat) : Int) > IntKind.i64.max) := of_decide_eq_false h0
      exact ⟨_, h, base (.string (xu ++ xv)) (fun a w h1 h2 => by simp only [execOp, ho, h1, h2, eqGuard, binOp, Op.stringOp, if_neg h0]; rfl) rfl (fun _ _ _ _ => rep_str.2 rfl)⟩
    case eql => exact ⟨_, h, base (.bool (xu.toList == xv.toList)) (fun a w h1 h2 => by simp [execOp, ho, h1, h2, eqGuard, binOp, Op.stringOp]) rfl (fun _ _ _ _ => rep_bool.2 rfl)⟩
    case neq => exact ⟨_, h, base (.bool !(xu.toList == xv.toList)) (fun a w h1 h2 => by simp [execOp, ho, h1, h2, eqGuard, binOp, Op.stringOp]) rfl (fun _ _ _ _ => rep_bool.2 rfl)⟩
  · cases h

/-! ### types -/
theorem TOk.slice {t : Nat} {i : TInfo} (h : TOk P t i) {e : Nat} (hk : i.k = .sl e) : P.underlying t = some (.slice e) := by
  obtain ⟨d, hd, hm⟩ := h.und
  rw [hk] at hm
  cases d <;> simp only [] at hm
  rw [hd, hm]
theorem TOk.struct {t : Nat} {i : TInfo} (h : TOk P t i) {fs : List (Nat × Nat)} (hk : i.k = .st fs) : ∃ fields, P.underlying t = some (.struct fields) ∧ fs = fields.toList.map (fun f => (f.type, f.offset)) := by
  obtain ⟨d, hd, hm⟩ := h.und
  rw [hk] at hm
  cases d <;> simp only [] at hm
  exact ⟨_, hd, hm⟩
theorem TOk.array {t : Nat} {i : TInfo} (h : TOk P t i) {n e : Nat} (hk : i.k = .ar n e) : P.underlying t = some (.array n e) := by
  obtain ⟨d, hd, hm⟩ := h.und
  rw [hk] at hm
  cases d <;> simp only [] at hm
  rw [hd, hm.1, hm.2]
theorem TOk.string {t : Nat} {i : TInfo} (h : TOk P t i) (hk : i.k = .str) : P.underlying t = some .string := by
  obtain ⟨d, hd, hm⟩ := h.und
  rw [hk] at hm
  cases d <;> simp only [] at hm
  exact hd
theorem TOk.int {t : Nat} {i : TInfo} (h : TOk P t i) {k : IntKind} (hk : i.k = .int k) : P.underlying t = some (.int k) := by
  obtain ⟨d, hd, hm⟩ := h.und
  rw [hk] at hm
  cases d <;> simp only [] at hm
  rw [hd, hm]
theorem TOk.bool {t : Nat} {i : TInfo} (h : TOk P t i) (hk : i.k = .bool) : P.underlying t = some .bool := by
  obtain ⟨d, hd, hm⟩ := h.und
  rw [hk] at hm
  cases d <;> simp only [] at hm
  exact hd
theorem TOk.sizeOf {t : Nat} {i : TInfo} (h : TOk P t i) (w : World) : (Go.sizeOf t).run P w = .ok i.sz w := by
  obtain ⟨j, hj, hs, _⟩ := h.info
  simp [Go.sizeOf, typeInfo, hj, hs]
theorem TOk.isAgg {t : Nat} {i : TInfo} (h : TOk P t i) (w : World) : (Go.isAgg t).run P w = .ok i.k.agg w := by
  obtain ⟨d, hd, hm⟩ := h.und
  simp only [Go.isAgg, Sem.run_bind, run_underlying hd, Result.andThen_ok]
  cases hk : i.k <;> rw [hk] at hm <;> cases d <;> simp only [] at hm <;> first | rfl | (exact hm.elim)

theorem fieldOf_ok : ∀ {fs : List (Nat × Nat)} {n : Nat} {p : Nat × Nat}, fieldOf fs n = some p → fs[n]? = some p
  | [], 0, p, h => by simp [fieldOf] at h
  | f :: r, 0, p, h => by simpa [fieldOf] using h
  | [], n + 1, p, h => by simp [fieldOf] at h
  | f :: r, n + 1, p, h => by simp only [fieldOf] at h; simpa using fieldOf_ok h

theorem run_fieldAt {s f ft fo : Nat} {i fi : TInfo} (hs : TOk P s i) {fs : List (Nat × Nat)} (hk : i.k = .st fs) (hf : fieldOf fs f = some (ft, fo)) (hi : TOk P ft fi) (h0 : Nat.beq fi.sz 0 = false) (B off : Nat) (w : World) :
    (Instr.fieldAt s (.pointer (some ⟨B, off, none⟩)) f).run P w = .ok (.pointer (some ⟨B, off + fo, none⟩)) w := by
  obtain ⟨fields, hu, hfs⟩ := hs.struct hk
  have h1 := fieldOf_ok hf
  rw [hfs] at h1
  simp only [List.getElem?_map, Array.getElem?_toList, Option.map_eq_some_iff] at h1
  obtain ⟨fl, hfl, he⟩ := h1
  injection he with he1 he2
  have hz : ¬ fi.sz = 0 := by intro e; rw [e] at h0; cases h0
  have hsz := hi.sizeOf w
  simp only [Instr.fieldAt, Sem.run_bind, run_underlying hu, Result.andThen_ok, hfl, Instr.sureAddr, Sem.run_pure, fieldPlace, he1, hsz, Sem.run_ite, if_neg hz, he2, Addr.add_lit]

theorem run_sliceStruct_part {t : Nat} {i : TInfo} (h : TOk P t i) {cs : List Value} {c d e : List Value} (hcs : cs = c ++ (d ++ e)) (hd : d.length = i.sz) (w : World) :
    (Go.part t cs.toArray c.length).run P w = .ok (if i.k.agg = true then .agg d.toArray else (d ++ e).headD undef) w ∨ i.k.agg = false ∧ d ++ e = [] := by
  by_cases ha : i.k.agg = true
  · left
    simp only [Go.part, Sem.run_bind, h.isAgg w, Result.andThen_ok, ha, if_true, h.sizeOf w, Sem.run_pure]
    congr 2
    apply Array.ext'
    simp only [Array.toList_extract, hcs, List.extract_eq_take_drop]
    rw [List.drop_left' rfl, Nat.add_sub_cancel_left, ← hd, List.take_left' rfl]
  · have ha' : i.k.agg = false := by cases hh : i.k.agg <;> simp_all
    cases hde : d ++ e with
    | nil => exact .inr ⟨ha', rfl⟩
    | cons x y =>
      left
      have hx : cs.toArray[c.length]? = some x := by
        simp only [List.getElem?_toArray, hcs, hde]
        rw [List.getElem?_append_right (Nat.le_refl _)]; simp
      simp only [Go.part, Sem.run_bind, h.isAgg w, Result.andThen_ok, ha', Bool.false_eq_true, if_false, hx, Sem.run_pure, List.headD_cons]
end
end Go.Pv
