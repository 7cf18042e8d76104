/- Pv, seventh text: addresses, indexes, cuts, lengths, literals of structs. -/
import Derived.Test.YtdkinmgpclbedaaDoorPvOps1
set_option linter.unusedVariables false
set_option linter.unusedSimpArgs false
namespace Go.Pv
open Go

section
variable {P : Program} {R : Type} {r : R} {o : Oper} {rd : Operand → Option PV} {st : Sg} {nx : Nat} {K : Dl → Option R}

/-! ### fieldAddr -/
theorem ok_fieldAddr {s f ft fo : Nat} {i fi : TInfo} {x : Operand} {v : PV} (ho : o.op = .fieldAddr s x f) (hs : TOk P s i) {fs : List (Nat × Nat)} (hk : i.k = .st fs) (hf : fieldOf fs f = some (ft, fo)) (hi : TOk P ft fi) (hx : rd x = some v)
    (h0 : Nat.beq fi.sz 0 = false) (h : evFieldAddr f fo v K = some r) : Res P o rd st nx K r := by
  have hm : x ∈ o.op.operands.toList := by rw [ho]; simp [Op.operands]
  obtain ⟨tv, xv⟩ := v
  unfold evFieldAddr at h
  cases tv with
  | ptr k p q =>
    refine ⟨_, h, OpOk.pure fun F ρ σ born a w φ fz hI hrd hst => ?_⟩
    have hr := hI.rd (hrd x _ hm hx)
    have hb := hI.rdb (hrd x _ hm hx)
    simp only [RepV, RepV0, RepC] at hr
    obtain ⟨B, off, hφ, he⟩ := hr
    injection he with he
    exact ⟨.pointer (some ⟨B, off + q + fo, none⟩), by simp [execOp, ho, he, run_fieldAt hs hk hf hi h0], ⟨B, off, hφ, by rw [Nat.add_assoc]⟩, hb⟩
  | ep k p q z =>
    refine ⟨_, h, OpOk.pure fun F ρ σ born a w φ fz hI hrd hst => ?_⟩
    have hr := hI.rd (hrd x _ hm hx)
    have hb := hI.rdb (hrd x _ hm hx)
    simp only [RepV, RepV0, RepC] at hr
    obtain ⟨B, off, N, c, hφ, hj, he⟩ := hr
    injection he with he
    exact ⟨.pointer (some ⟨B, off + xv * z + q + fo, none⟩), by simp [execOp, ho, he, run_fieldAt hs hk hf hi h0], ⟨B, off, N, c, hφ, hj, by rw [Nat.add_assoc]⟩, hb⟩
  | rp t =>
    cases t <;> simp only [] at h <;> first | (cases h; done) | skip
    rename_i t
    split at h
    · rename_i u q hu hq
      obtain ⟨hqq, h⟩ := cond_some h
      refine ⟨_, h, OpOk.pure fun F ρ σ born a w φ fz hI hrd hst => ?_⟩
      have hr := hI.rd (hrd x _ hm hx)
      have hb := hI.rdb (hrd x _ hm hx)
      simp only [RepV, RepV0, RepC] at hr
      obtain ⟨B, off, ys, he, hz, hc, hat⟩ := hr
      injection he with he
      obtain ⟨c, d, e, rfl, hcl, hd, ht⟩ := nth_spec hu hq hc
      refine ⟨.pointer (some ⟨B, off + fo, none⟩), by simp [execOp, ho, he, run_fieldAt hs hk hf hi h0], ⟨B, off + fo, d, rfl, hz, hd, ?_⟩, by simp [Ty.toks]⟩
      intro j v hj
      have := hat (c.length + j) v (by rw [List.getElem?_append_right (by omega), Nat.add_sub_cancel_left, List.getElem?_append_left (List.getElem?_eq_some_iff.1 hj).1]; exact hj)
      rw [hcl, nbeq_eq hqq, ← Nat.add_assoc] at this
      exact this
    · cases h
  | _ => simp only [] at h; cases h

/-! ### indexAddr into a slice -/
theorem run_indexSlice {t e : Nat} {i ei : TInfo} (ht : TOk P t i) (hk : i.k = .sl e) (hei : TOk P e ei) {k : IntKind} {j : Int} {B off n c : Nat} (h0 : 0 ≤ j) (h1 : j < (n : Int)) (w : World) :
    (Instr.indexAt t (.slice (some ⟨B, off, none⟩) n c) (.int k j)).run P w = .ok (.pointer (some ⟨B, off + j.toNat * ei.sz, none⟩)) w := by
  simp [Instr.indexAt, asIntOf, run_underlying (ht.slice hk), hei.sizeOf, h0, h1, Addr.add_lit]

theorem bnd {i : Int} {n : Nat} {b : Bool} (h : cond (decide (0 ≤ i)) (decide (i < (n : Int))) false = true) : 0 ≤ i ∧ i < (n : Int) := by
  have h := cond_true_of h
  exact ⟨of_decide_eq_true h.1, of_decide_eq_true h.2⟩

theorem getD_get {α : Type} {l : List α} {n : Nat} {d : α} (h : n < l.length) : l[n]? = some (l.getD n d) := by
  rw [List.getElem?_eq_getElem h, List.getD_eq_getElem?_getD, List.getElem?_eq_getElem h]; rfl

theorem ok_indexRead {t e : Nat} {i ei : TInfo} {x y : Operand} {k : IntKind} {j : Int} {e' : Ty} {l : List e'.D} (ho : o.op = .indexAddr t x y) (ht : TOk P t i) (hk : i.k = .sl e) (hei : TOk P e ei)
    (hx : rd x = some ⟨.sl .frz e', l⟩ ∨ rd x = some ⟨.sl .bor e', l⟩) (hy : rd y = some ⟨.int k, j⟩) (hsz : Nat.beq e'.sz ei.sz = true) (hb : cond (decide (0 ≤ j)) (decide (j < (l.length : Int))) false = true) :
    OpOk P o rd st nx ⟨⟨.rp e', l.getD j.toNat e'.dflt⟩, []⟩ := by
  have hmx : x ∈ o.op.operands.toList := by rw [ho]; simp [Op.operands]
  have hmy : y ∈ o.op.operands.toList := by rw [ho]; simp [Op.operands]
  obtain ⟨b0, b1⟩ := bnd (b := true) hb
  refine OpOk.pure fun F ρ σ born a w φ fz hI hrd hst => ?_
  have hry := rep_int.1 (hI.rd (hrd y _ hmy hy))
  have hr : ∃ A c, a.eval x = .slice A l.length c ∧ (l.length = 0 ∨ ∃ B off, A = some ⟨B, off, none⟩ ∧ (fz B ∨ F.bz B) ∧ ∀ i x, l[i]? = some x → ∃ ys, RepC w fz F.bz noTok e' x ys ∧ CellsAt w B (off + i * e'.sz) ys) := by
    rcases hx with hx | hx
    · have hr := hI.rd (hrd x _ hmx hx)
      simp only [RepV, RepV0, RepC] at hr
      obtain ⟨A, c, he, _, h3⟩ := hr
      injection he with he
      refine ⟨A, c, he, h3.imp id ?_⟩
      rintro ⟨B, off, h4, h5, h6⟩
      exact ⟨B, off, h4, .inl h5, h6⟩
    · have hr := hI.rd (hrd x _ hmx hx)
      simp only [RepV, RepV0, RepC] at hr
      obtain ⟨A, c, he, _, h3⟩ := hr
      injection he with he
      exact ⟨A, c, he, h3⟩
  obtain ⟨A, c, he, h3⟩ := hr
  rcases h3 with h3 | ⟨B, off, rfl, hz, h4⟩
  · omega
  · obtain ⟨ys, h5, h6⟩ := h4 j.toNat _ (getD_get (d := e'.dflt) (by omega))
    refine ⟨.pointer (some ⟨B, off + j.toNat * ei.sz, none⟩), by simp [execOp, ho, he, hry, run_indexSlice ht hk hei b0 b1], ⟨B, off + j.toNat * ei.sz, ys, rfl, hz, h5, ?_⟩, by simp [Ty.toks]⟩
    rw [nbeq_eq hsz] at h6; exact h6

/-- The memory of an owned slice that is not empty. -/
theorem ArrAt.get {w : World} {fz bz : Nat → Prop} {h : Value} {e : Ty} {l : List e.D} (ha : ArrAt w fz bz h e l) (hl : 0 < l.length) :
    ∃ B off c ety ar, h = .slice (some ⟨B, off, none⟩) l.length c ∧ (l.length ≤ c ∧ c ≤ 9223372036854775807) ∧ w.heap[B]? = some (.cells ar ety (0, 0)) ∧ off + c * e.sz ≤ ar.size ∧
      ∀ i x, l[i]? = some x → ∃ ys, RepC w fz bz noTok e x ys ∧ ∀ j v, ys[j]? = some v → ar[off + i * e.sz + j]? = some v := by
  obtain ⟨A, c, rfl, h1, h2⟩ := ha
  rcases h2 with rfl | ⟨B, off, ety, ar, rfl, h3, h4, h5⟩
  · omega
  · exact ⟨B, off, c, ety, ar, rfl, h1, h3, h4, h5⟩

theorem ok_indexOwn {t e : Nat} {i ei : TInfo} {x y : Operand} {kk : IntKind} {j : Int} {k : Nat} {e0 e' : Ty} {l : List e'.D} (ho : o.op = .indexAddr t x y) (ht : TOk P t i) (hk : i.k = .sl e) (hei : TOk P e ei)
    (hx : rd x = some ⟨.sl (.own k) e0, ()⟩) (hs : st k = some (.arr e' l)) (hy : rd y = some ⟨.int kk, j⟩) (hsz : Nat.beq e'.sz ei.sz = true) (hb : cond (decide (0 ≤ j)) (decide (j < (l.length : Int))) false = true) :
    OpOk P o rd st nx ⟨⟨.ep k [] 0 e'.sz, j.toNat⟩, []⟩ := by
  have hmx : x ∈ o.op.operands.toList := by rw [ho]; simp [Op.operands]
  have hmy : y ∈ o.op.operands.toList := by rw [ho]; simp [Op.operands]
  obtain ⟨b0, b1⟩ := bnd (b := true) hb
  refine OpOk.pure fun F ρ σ born a w φ fz hI hrd hst => ?_
  have hry := rep_int.1 (hI.rd (hrd y _ hmy hy))
  have hr := hI.rd (hrd x _ hmx hx)
  simp only [RepV, RepV0, RepC] at hr
  injection hr with hr
  have hc := hI.sto k _ (hst _ _ hs)
  obtain ⟨hcl, hpos, ha⟩ := hc
  obtain ⟨B, off, c, ety, ar, hφ, _⟩ := ha.get (by omega)
  refine ⟨.pointer (some ⟨B, off + j.toNat * ei.sz, none⟩), by simp [execOp, ho, hr, hφ, hry, run_indexSlice ht hk hei b0 b1], ?_, ?_⟩
  · simp only [RepV, RepV0, RepC]
    exact ⟨B, off, l.length, c, hφ, (show j.toNat < l.length by omega), by rw [nbeq_eq hsz]; simp⟩
  · intro q hq
    have : q = k := by simpa [Ty.toks] using hq
    subst this; exact (hI.bs _ _ (hst _ _ hs)).1

theorem ok_indexSub {t e : Nat} {i ei : TInfo} {x y : Operand} {kk : IntKind} {j : Int} {k : Nat} {e0 e' : Ty} {p : Nat × Nat} {l : List e'.D} (ho : o.op = .indexAddr t x y) (ht : TOk P t i) (hk : i.k = .sl e) (hei : TOk P e ei)
    (hx : rd x = some ⟨.sl (.osub k) e0, p⟩) (hs : st k = some (.arr e' l)) (hy : rd y = some ⟨.int kk, j⟩) (hsz : Nat.beq e'.sz ei.sz = true) (hsz0 : Nat.beq e0.sz e'.sz = true) (hb : cond (decide (0 ≤ j)) (decide (j < (p.2 : Int))) false = true) :
    OpOk P o rd st nx ⟨⟨.ep k [] 0 e'.sz, p.1 + j.toNat⟩, []⟩ := by
  have hmx : x ∈ o.op.operands.toList := by rw [ho]; simp [Op.operands]
  have hmy : y ∈ o.op.operands.toList := by rw [ho]; simp [Op.operands]
  obtain ⟨b0, b1⟩ := bnd (b := true) hb
  refine OpOk.pure fun F ρ σ born a w φ fz hI hrd hst => ?_
  have hry := rep_int.1 (hI.rd (hrd y _ hmy hy))
  have hr := hI.rd (hrd x _ hmx hx)
  simp only [RepV, RepV0, RepC] at hr
  obtain ⟨v, hv, A, N, c, A', hφ, hN, rfl, hA⟩ := hr
  injection hv with hv
  have hc := hI.sto k _ (hst _ _ hs)
  obtain ⟨hcl, hpos, ha⟩ := hc
  have hNl : N = l.length := by obtain ⟨A2, c2, h2, _⟩ := ha; rw [hφ] at h2; injection h2
  obtain ⟨B, off, c2, ety, ar, hφ2, hlc, _⟩ := ha.get (by omega)
  rw [hφ] at hφ2; injection hφ2 with e1 e2 e3
  subst e1; subst e3
  have hA' : A' = some ⟨B, off + p.1 * e0.sz, none⟩ := by
    rcases hA with h | h
    · omega
    · rw [h]; simp [Addr.add_lit]
  subst hA'
  refine ⟨.pointer (some ⟨B, off + p.1 * e0.sz + j.toNat * ei.sz, none⟩), by simp [execOp, ho, hv, hry, run_indexSlice ht hk hei b0 b1], ?_, ?_⟩
  · simp only [RepV, RepV0, RepC]
    refine ⟨B, off, N, c, hφ, (show p.1 + j.toNat < N by omega), ?_⟩
    rw [nbeq_eq hsz0, nbeq_eq hsz, Nat.add_mul, Nat.add_zero, Nat.add_assoc]
  · intro q hq
    have : q = k := by simpa [Ty.toks] using hq
    subst this; exact (hI.bs _ _ (hst _ _ hs)).1

/-! ### indexAddr into an array -/
theorem run_indexArr {t e n : Nat} {i ei : TInfo} (ht : TOk P t i) (hk : i.k = .ar n e) (hei : TOk P e ei) {k : IntKind} {j B off : Nat} (h1 : j < n) (w : World) :
    (Instr.indexAt t (.pointer (some ⟨B, off, none⟩)) (.int k (j : Int))).run P w = .ok (.pointer (some ⟨B, off + j * ei.sz, none⟩)) w := by
  have hj : ((j : Int) < (n : Int)) := by omega
  simp [Instr.indexAt, asIntOf, run_underlying (ht.array hk), Instr.sureAddr, hei.sizeOf, hj, h1, Addr.add_lit]

theorem ok_indexArr {t e n : Nat} {i ei : TInfo} {x y : Operand} {kk : IntKind} {q : Int} {v : PV} (ho : o.op = .indexAddr t x y) (ht : TOk P t i) (hk : i.k = .ar n e) (hei : TOk P e ei) (hx : rd x = some v) (hy : rd y = some ⟨.int kk, q⟩)
    (h : split q (fun j => evIndexA ei.sz v j K) none n 0 = some r) : Res P o rd st nx K r := by
  have hmx : x ∈ o.op.operands.toList := by rw [ho]; simp [Op.operands]
  have hmy : y ∈ o.op.operands.toList := by rw [ho]; simp [Op.operands]
  obtain ⟨j, _, hj, rfl, h2⟩ := split_ok h
  clear h
  obtain ⟨tv, xv⟩ := v
  unfold evIndexA at h2
  cases tv with
  | ptr k p off =>
    refine ⟨_, h2, OpOk.pure fun F ρ σ born a w φ fz hI hrd hst => ?_⟩
    have hry := rep_int.1 (hI.rd (hrd y _ hmy hy))
    have hr := hI.rd (hrd x _ hmx hx)
    have hb := hI.rdb (hrd x _ hmx hx)
    simp only [RepV, RepV0, RepC] at hr
    obtain ⟨B, off', hφ, he⟩ := hr
    injection he with he
    exact ⟨.pointer (some ⟨B, off' + off + j * ei.sz, none⟩), by simp [execOp, ho, he, hry, run_indexArr ht hk hei (show j < n by omega)], ⟨B, off', hφ, by rw [Nat.add_assoc]⟩, hb⟩
  | ep k p off z =>
    refine ⟨_, h2, OpOk.pure fun F ρ σ born a w φ fz hI hrd hst => ?_⟩
    have hry := rep_int.1 (hI.rd (hrd y _ hmy hy))
    have hr := hI.rd (hrd x _ hmx hx)
    have hb := hI.rdb (hrd x _ hmx hx)
    simp only [RepV, RepV0, RepC] at hr
    obtain ⟨B, off', N, c, hφ, hj', he⟩ := hr
    injection he with he
    exact ⟨.pointer (some ⟨B, off' + xv * z + off + j * ei.sz, none⟩), by simp [execOp, ho, he, hry, run_indexArr ht hk hei (show j < n by omega)], ⟨B, off', N, c, hφ, hj', by rw [Nat.add_assoc]⟩, hb⟩
  | rp t' =>
    cases t' <;> simp only [] at h2 <;> first | (cases h2; done) | skip
    rename_i t'
    split at h2
    · rename_i u q hu hq
      obtain ⟨hqq, h2⟩ := cond_some h2
      refine ⟨_, h2, OpOk.pure fun F ρ σ born a w φ fz hI hrd hst => ?_⟩
      have hry := rep_int.1 (hI.rd (hrd y _ hmy hy))
      have hr := hI.rd (hrd x _ hmx hx)
      have hb := hI.rdb (hrd x _ hmx hx)
      simp only [RepV, RepV0, RepC] at hr
      obtain ⟨B, off, ys, he, hz, hc, hat⟩ := hr
      injection he with he
      obtain ⟨c, d, e2, rfl, hcl, hd, htt⟩ := nth_spec hu hq hc
      refine ⟨.pointer (some ⟨B, off + j * ei.sz, none⟩), by simp [execOp, ho, he, hry, run_indexArr ht hk hei (show j < n by omega)], ⟨B, off + j * ei.sz, d, rfl, hz, hd, ?_⟩, by simp [Ty.toks]⟩
      intro m v hm
      have := hat (c.length + m) v (by rw [List.getElem?_append_right (by omega), Nat.add_sub_cancel_left, List.getElem?_append_left (List.getElem?_eq_some_iff.1 hm).1]; exact hm)
      rw [hcl, nbeq_eq hqq, ← Nat.add_assoc] at this
      exact this
    · cases h2
  | _ => simp only [] at h2; cases h2

/-! ### index: strings, arrays by value -/
theorem byteAt_eq {s : ByteArray} {n : Nat} (h : n < s.size) : ∃ b : UInt8, s[n]? = some b ∧ byteAt s n = (b.toNat : Int) :=
  ⟨s[n], getElem?_pos s n h, by unfold byteAt; rw [dif_pos h]⟩
theorem ok_indexStr {t : Nat} {i : TInfo} {x y : Operand} {kk : IntKind} {j : Int} {s : ByteArray} (ho : o.op = .index t x y) (ht : TOk P t i) (hk : i.k = .str) (hx : rd x = some ⟨.str, s⟩) (hy : rd y = some ⟨.int kk, j⟩)
    (hb : cond (decide (0 ≤ j)) (decide (j < (s.size : Int))) false = true) : OpOk P o rd st nx ⟨⟨.int .u8, byteAt s j.toNat⟩, []⟩ := by
  have hmx : x ∈ o.op.operands.toList := by rw [ho]; simp [Op.operands]
  have hmy : y ∈ o.op.operands.toList := by rw [ho]; simp [Op.operands]
  obtain ⟨b0, b1⟩ := bnd (b := true) hb
  refine OpOk.pure fun F ρ σ born a w φ fz hI hrd hst => ?_
  have hry := rep_int.1 (hI.rd (hrd y _ hmy hy))
  have hrx := rep_str.1 (hI.rd (hrd x _ hmx hx))
  refine ⟨_, ?_, rep_int.2 rfl, by simp [Ty.toks]⟩
  obtain ⟨bb, hb1, hb2⟩ := byteAt_eq (s := s) (n := j.toNat) (by omega)
  simp [execOp, ho, hrx, hry, Instr.index, asIntOf, run_underlying (ht.string hk), b0, hb1, hb2]
theorem ok_indexAgg {t e n : Nat} {i ei : TInfo} {x y : Operand} {kk : IntKind} {q : Int} {t' : Ty} {z : t'.D} (ho : o.op = .index t x y) (ht : TOk P t i) (hk : i.k = .ar n e) (hei : TOk P e ei) (hx : rd x = some ⟨.agg t', z⟩) (hy : rd y = some ⟨.int kk, q⟩)
    (h : split q (fun j => evIndexV ei t' z j K) none n 0 = some r) : Res P o rd st nx K r := by
  have hmx : x ∈ o.op.operands.toList := by rw [ho]; simp [Op.operands]
  have hmy : y ∈ o.op.operands.toList := by rw [ho]; simp [Op.operands]
  obtain ⟨j, _, hj, rfl, h2⟩ := split_ok h
  clear h
  unfold evIndexV at h2
  split at h2
  · rename_i u q hu hq
    obtain ⟨hqq, h2⟩ := cond_some h2
    obtain ⟨h2, hsz, hs, hag⟩ := fitK_ok h2
    refine ⟨_, h2, OpOk.pure fun F ρ σ born a w φ fz hI hrd hst => ?_⟩
    have hry := rep_int.1 (hI.rd (hrd y _ hmy hy))
    have hr := hI.rd (hrd x _ hmx hx)
    have hb := hI.rdb (hrd x _ hmx hx)
    simp only [RepV, RepV0] at hr
    obtain ⟨cs, he, hc⟩ := hr
    obtain ⟨c, d, e2, rfl, hcl, hd, htt⟩ := nth_spec hu hq hc
    obtain ⟨v, h1, h2⟩ := run_part (P := P) (c := c) (e := e2) hei hd hs hsz hag w
    rw [hcl, nbeq_eq hqq] at h1
    have hjn : ((j : Int) < (n : Int)) := by omega
    refine ⟨v, ?_, h2, fun k hk => hb k (by simpa [Ty.toks] using htt k hk)⟩
    simp [execOp, ho, he, hry, Instr.index, asIntOf, run_underlying (ht.array hk), hjn, hei.sizeOf]
    rw [if_pos (show j < n by omega)]
    rw [h1]; rfl
  · cases h2
end
end Go.Pv
