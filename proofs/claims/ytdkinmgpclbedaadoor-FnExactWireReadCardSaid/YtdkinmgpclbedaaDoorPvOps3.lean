/- Pv, eighth text: cuts, lengths, least and greatest, function values, structs put together. -/
import Derived.Test.YtdkinmgpclbedaaDoorPvOps2
set_option linter.unusedVariables false
set_option linter.unusedSimpArgs false
namespace Go.Pv
open Go

section
variable {P : Program} {R : Type} {r : R} {o : Oper} {rd : Operand → Option PV} {st : Sg} {nx : Nat} {K : Dl → Option R}

theorem addAdd (a : Addr) (m n : Nat) : (a.add m).add n = a.add (m + n) := by
  unfold Addr.add
  split <;> split <;> simp_all <;> (try split) <;> (try simp_all) <;> omega
/-- A bound as the machine has it. -/
def BndIs (v : Option Value) (x : Option Int) : Prop := match v, x with
  | none, none => True
  | some v, some x => ∃ k, v = .int k x
  | _, _ => False

theorem optRd_ok {F : Fix} {ρ : Rd} {σ : Sg} {born : Nat → Prop} {a : Act} {w : World} {φ : Nat → Value} {fz : Nat → Prop} (hI : Inv F ρ σ born a w φ fz) {x : Option Operand} {n : Option Int}
    (h : optRd rd x = some n) (hrd : ∀ y v, x = some y → rd y = some v → rdOf ρ y = some v) : BndIs (x.map a.eval) n := by
  cases x with
  | none => simp only [optRd] at h; injection h with h; subst h; trivial
  | some y =>
    simp only [optRd] at h
    split at h
    · rename_i k m hy
      injection h with h; subst h
      exact ⟨k, rep_int.1 (hI.rd (hrd y _ rfl hy))⟩
    · cases h

theorem cut_facts {n : Nat} {lo hi : Option Int} (h : cutOk n lo hi = true) : cutH n hi ≤ n ∧ cutL lo ≤ cutH n hi ∧ (∀ x, hi = some x → 0 ≤ x ∧ x ≤ n) ∧ (∀ x, lo = some x → 0 ≤ x ∧ x.toNat ≤ cutH n hi) := by
  unfold cutOk at h
  obtain ⟨h1, h2⟩ := cond_true_of h
  cases hi with
  | none =>
    cases lo with
    | none => simp [cutH, cutL]
    | some l =>
      simp only [] at h2
      have h2 := cond_true_of h2
      have a1 := of_decide_eq_true h2.1
      have a2 := of_decide_eq_true h2.2
      simp only [cutH, cutL]
      refine ⟨Nat.le_refl _, by omega, by simp, ?_⟩
      intro x hx; injection hx with hx; subst hx; omega
  | some q =>
    simp only [] at h1
    have h1 := cond_true_of h1
    have b1 := of_decide_eq_true h1.1
    have b2 := of_decide_eq_true h1.2
    cases lo with
    | none =>
      simp only [cutH, cutL]
      refine ⟨by omega, by omega, ?_, by simp⟩
      intro x hx; injection hx with hx; subst hx; omega
    | some l =>
      simp only [] at h2
      have h2 := cond_true_of h2
      have a1 := of_decide_eq_true h2.1
      have a2 := of_decide_eq_true h2.2
      simp only [cutH, cutL]
      refine ⟨by omega, by omega, ?_, ?_⟩
      · intro x hx; injection hx with hx; subst hx; omega
      · intro x hx; injection hx with hx; subst hx; omega

theorem run_bounds {b : Bool} {n c : Nat} (hn : n ≤ c) {lo hi : Option Int} {vl vh : Option Value} (hl : BndIs vl lo) (hh : BndIs vh hi) (hok : cutOk n lo hi = true) (w : World) :
    (Instr.sliceBounds b n c vl vh none).run P w = .ok (cutL lo, cutH n hi, c) w := by
  obtain ⟨h1, h2, h3, h4⟩ := cut_facts hok
  cases vh with
  | none =>
    cases hi with
    | some q => exact hh.elim
    | none =>
      cases vl with
      | none =>
        cases lo with
        | some q => exact hl.elim
        | none => simp [Instr.sliceBounds, cutL, cutH]
      | some v =>
        cases lo with
        | none => exact hl.elim
        | some q =>
          obtain ⟨k, rfl⟩ := hl
          have a1 := h4 q rfl
          simp only [cutH] at a1
          have a2 : q ≤ (n : Int) := by omega
          simp [Instr.sliceBounds, Instr.sliceBound, asIntOf, cutL, cutH, a1.1, a2]
  | some v =>
    cases hi with
    | none => exact hh.elim
    | some q =>
      obtain ⟨k, rfl⟩ := hh
      have a3 := h3 q rfl
      have a4 : q ≤ (c : Int) := by omega
      cases vl with
      | none =>
        cases lo with
        | some q => exact hl.elim
        | none => simp [Instr.sliceBounds, Instr.sliceBound, asIntOf, cutL, cutH, a3.1, a4]
      | some v =>
        cases lo with
        | none => exact hl.elim
        | some p =>
          obtain ⟨k', rfl⟩ := hl
          have a1 := h4 p rfl
          simp only [cutH] at a1
          have a2 : p ≤ max q 0 := by omega
          simp [Instr.sliceBounds, Instr.sliceBound, asIntOf, cutL, cutH, a3.1, a4, a1.1, a2]

theorem run_cut {t e : Nat} {i ei : TInfo} (ht : TOk P t i) (hk : i.k = .sl e) (hei : TOk P e ei) {n c : Nat} {A : Option Addr} (hn : n ≤ c) {lo hi : Option Int} {vl vh : Option Value} (hl : BndIs vl lo) (hh : BndIs vh hi) (hok : cutOk n lo hi = true) (w : World) :
    (Instr.sliceAt t (.slice A n c) vl vh none).run P w = .ok (.slice (if c = cutL lo then A else A.map (·.add (cutL lo * ei.sz))) (cutH n hi - cutL lo) (c - cutL lo)) w := by
  simp only [Instr.sliceAt, Sem.run_bind, run_underlying (ht.slice hk), Result.andThen_ok, Instr.slice, run_bounds hn hl hh hok, hei.sizeOf, Sem.run_pure]

theorem take_drop_get {α : Type} {l : List α} {h d i : Nat} {x : α} (hx : ((l.take h).drop d)[i]? = some x) : l[d + i]? = some x := by
  rw [List.getElem?_drop, List.getElem?_take] at hx
  split at hx
  · exact hx
  · cases hx
theorem take_drop_len {α : Type} {l : List α} {h d : Nat} (hh : h ≤ l.length) : ((l.take h).drop d).length = h - d := by
  rw [List.length_drop, List.length_take, Nat.min_eq_left hh]

theorem ok_slice {t e : Nat} {i ei : TInfo} {x : Operand} {lo hi : Option Operand} {v : PV} {l h : Option Int} (ho : o.op = .slice t x lo hi none) (ht : TOk P t i) (hk : i.k = .sl e) (hei : TOk P e ei) (hx : rd x = some v)
    (hlo : optRd rd lo = some l) (hhi : optRd rd hi = some h) (hh : evSlice st ei.sz v l h (fun u => K ⟨u, []⟩) = some r) : Res P o rd st nx K r := by
  have hmx : x ∈ o.op.operands.toList := by rw [ho]; simp [Op.operands]
  have hml : ∀ y, lo = some y → y ∈ o.op.operands.toList := by intro y hy; subst hy; rw [ho]; simp [Op.operands]
  have hmh : ∀ y, hi = some y → y ∈ o.op.operands.toList := by intro y hy; subst hy; rw [ho]; simp [Op.operands]
  have bl : ∀ {F ρ σ born a w φ fz}, Inv F ρ σ born a w φ fz → (∀ x v, x ∈ o.op.operands.toList → rd x = some v → rdOf ρ x = some v) → BndIs (lo.map a.eval) l ∧ BndIs (hi.map a.eval) h := by
    intro F ρ σ born a w φ fz hI hrd
    exact ⟨optRd_ok hI hlo fun y v hy hv => hrd y v (hml y hy) hv, optRd_ok hI hhi fun y v hy hv => hrd y v (hmh y hy) hv⟩
  have ex : ∀ (a : Act) (w : World) (v' : Value), (Instr.sliceAt t (a.eval x) (lo.map a.eval) (hi.map a.eval) none).run P w = .ok v' w → (execOp a.eval o).run P w = .ok (.value v') w := by
    intro a w v' hv'
    simp only [execOp, ho, Sem.run_bind, Option.map_none, hv', Result.andThen_ok, Sem.run_pure]
  obtain ⟨tv, xv⟩ := v
  cases tv with
  | sl m e' =>
    cases m with
    | frz =>
      simp only [evSlice] at hh
      obtain ⟨hs, hh⟩ := cond_some hh
      obtain ⟨hc, hh⟩ := cond_some hh
      refine ⟨_, hh, OpOk.pure fun F ρ σ born a w φ fz hI hrd hst => ?_⟩
      have hr := hI.rd (hrd x _ hmx hx)
      simp only [RepV, RepV0, RepC] at hr
      obtain ⟨A, c, he, hlc, h3⟩ := hr
      injection he with he
      obtain ⟨b1, b2⟩ := bl hI hrd
      obtain ⟨f1, f2, _⟩ := cut_facts hc
      refine ⟨_, ex a w _ (by rw [he]; exact run_cut ht hk hei hlc b1 b2 hc w), ?_, by simp [Ty.toks]⟩
      simp only [RepV, RepV0, RepC]
      rw [take_drop_len f1]
      refine ⟨_, _, rfl, by omega, ?_⟩
      by_cases h0 : cutH xv.length h - cutL l = 0
      · exact .inl h0
      · right
        rcases h3 with h3 | ⟨B, off, rfl, hz, h4⟩
        · omega
        · rw [if_neg (by omega)]
          refine ⟨B, off + cutL l * ei.sz, by simp [Addr.add_lit], hz, fun j y hj => ?_⟩
          obtain ⟨ys, h5, h6⟩ := h4 _ y (take_drop_get hj)
          refine ⟨ys, h5, ?_⟩
          have := nbeq_eq hs
          rw [← this, Nat.add_assoc, ← Nat.add_mul]; exact h6
    | bor =>
      simp only [evSlice] at hh
      obtain ⟨hs, hh⟩ := cond_some hh
      obtain ⟨hc, hh⟩ := cond_some hh
      refine ⟨_, hh, OpOk.pure fun F ρ σ born a w φ fz hI hrd hst => ?_⟩
      have hr := hI.rd (hrd x _ hmx hx)
      simp only [RepV, RepV0, RepC] at hr
      obtain ⟨A, c, he, hlc, h3⟩ := hr
      injection he with he
      obtain ⟨b1, b2⟩ := bl hI hrd
      obtain ⟨f1, f2, _⟩ := cut_facts hc
      refine ⟨_, ex a w _ (by rw [he]; exact run_cut ht hk hei hlc b1 b2 hc w), ?_, by simp [Ty.toks]⟩
      simp only [RepV, RepV0, RepC]
      rw [take_drop_len f1]
      refine ⟨_, _, rfl, by omega, ?_⟩
      by_cases h0 : cutH xv.length h - cutL l = 0
      · exact .inl h0
      · right
        rcases h3 with h3 | ⟨B, off, rfl, hz, h4⟩
        · omega
        · rw [if_neg (by omega)]
          refine ⟨B, off + cutL l * ei.sz, by simp [Addr.add_lit], hz, fun j y hj => ?_⟩
          obtain ⟨ys, h5, h6⟩ := h4 _ y (take_drop_get hj)
          refine ⟨ys, h5, ?_⟩
          have := nbeq_eq hs
          rw [← this, Nat.add_assoc, ← Nat.add_mul]; exact h6
    | own k =>
      simp only [evSlice] at hh
      split at hh
      · rename_i e2 lst hk2
        obtain ⟨hs, hh⟩ := cond_some hh
        obtain ⟨hc, hh⟩ := cond_some hh
        refine ⟨_, hh, OpOk.pure fun F ρ σ born a w φ fz hI hrd hst => ?_⟩
        have hr := hI.rd (hrd x _ hmx hx)
        have hb := hI.rdb (hrd x _ hmx hx)
        simp only [RepV, RepV0, RepC] at hr
        injection hr with hr
        obtain ⟨_, _, A, c, hφ, hlc, _⟩ := hI.sto k _ (hst _ _ hk2)
        obtain ⟨b1, b2⟩ := bl hI hrd
        obtain ⟨f1, f2, _⟩ := cut_facts hc
        refine ⟨_, ex a w _ (by rw [hr, hφ]; exact run_cut ht hk hei hlc.1 b1 b2 hc w), ?_, by simpa [Ty.toks] using hb⟩
        simp only [RepV, RepV0, RepC]
        refine ⟨_, rfl, A, lst.length, c, _, hφ, by omega, rfl, ?_⟩
        by_cases h0 : c = cutL l
        · exact .inl h0
        · right; rw [if_neg h0, nbeq_eq hs]
      · cases hh
    | osub k =>
      simp only [evSlice] at hh
      split at hh
      · rename_i e2 lst hk2
        obtain ⟨hs, hh⟩ := cond_some hh
        obtain ⟨hc, hh⟩ := cond_some hh
        refine ⟨_, hh, OpOk.pure fun F ρ σ born a w φ fz hI hrd hst => ?_⟩
        have hr := hI.rd (hrd x _ hmx hx)
        have hb := hI.rdb (hrd x _ hmx hx)
        simp only [RepV, RepV0, RepC] at hr
        obtain ⟨v, hv, A, N, c, A', hφ, hN, rfl, hA⟩ := hr
        injection hv with hv
        obtain ⟨_, _, A2, c2, hφ2, hlc, _⟩ := hI.sto k _ (hst _ _ hk2)
        rw [hφ] at hφ2; injection hφ2 with e1 e2 e3
        subst e1; subst e3
        obtain ⟨b1, b2⟩ := bl hI hrd
        obtain ⟨f1, f2, _⟩ := cut_facts hc
        refine ⟨_, ex a w _ (by rw [hv]; exact run_cut ht hk hei (show xv.2 ≤ c - xv.1 by omega) b1 b2 hc w), ?_, by simpa [Ty.toks] using hb⟩
        simp only [RepV, RepV0, RepC]
        refine ⟨_, rfl, A, N, c, _, hφ, by omega, by rw [Nat.sub_sub], ?_⟩
        by_cases h0 : c - xv.1 = cutL l
        · left; omega
        · right; rw [if_neg h0]
          rcases hA with hA | hA
          · omega
          · rw [hA, nbeq_eq hs]
            cases A with
            | none => rfl
            | some ad => simp [addAdd, Nat.add_mul]
      · cases hh
    | emp =>
      simp only [evSlice] at hh
      obtain ⟨hc, hh⟩ := cond_some hh
      refine ⟨_, hh, OpOk.pure fun F ρ σ born a w φ fz hI hrd hst => ?_⟩
      have hr := hI.rd (hrd x _ hmx hx)
      simp only [RepV, RepV0, RepC] at hr
      obtain ⟨A, he⟩ := hr
      injection he with he
      obtain ⟨b1, b2⟩ := bl hI hrd
      obtain ⟨f1, f2, _⟩ := cut_facts hc
      refine ⟨_, ex a w _ (by rw [he]; exact run_cut ht hk hei (Nat.le_refl _) b1 b2 hc w), ?_, by simp [Ty.toks]⟩
      simp only [RepV, RepV0, RepC]
      refine ⟨A, ?_⟩
      rw [if_pos (by omega), show cutH 0 h - cutL l = 0 by omega, Nat.zero_sub]
  | _ => simp only [evSlice] at hh; cases hh

theorem ok_cutStr {t : Nat} {i : TInfo} {x : Operand} {lo hi : Option Operand} {s : ByteArray} {l h : Option Int} (ho : o.op = .slice t x lo hi none) (ht : TOk P t i) (hk : i.k = .str) (hx : rd x = some ⟨.str, s⟩)
    (hlo : optRd rd lo = some l) (hhi : optRd rd hi = some h) (hh : evCutStr s l h (fun u => K ⟨u, []⟩) = some r) : Res P o rd st nx K r := by
  have hmx : x ∈ o.op.operands.toList := by rw [ho]; simp [Op.operands]
  have hml : ∀ y, lo = some y → y ∈ o.op.operands.toList := by intro y hy; subst hy; rw [ho]; simp [Op.operands]
  have hmh : ∀ y, hi = some y → y ∈ o.op.operands.toList := by intro y hy; subst hy; rw [ho]; simp [Op.operands]
  unfold evCutStr at hh
  obtain ⟨hc, hh⟩ := cond_some hh
  refine ⟨_, hh, OpOk.pure fun F ρ σ born a w φ fz hI hrd hst => ?_⟩
  have hr := rep_str.1 (hI.rd (hrd x _ hmx hx))
  have b1 := optRd_ok hI hlo fun y v hy hv => hrd y v (hml y hy) hv
  have b2 := optRd_ok hI hhi fun y v hy hv => hrd y v (hmh y hy) hv
  refine ⟨_, ?_, rep_str.2 rfl, by simp [Ty.toks]⟩
  simp only [execOp, ho, Sem.run_bind, Option.map_none, hr, Instr.sliceAt, run_underlying (ht.string hk), Result.andThen_ok, Instr.slice, Option.isSome_none, Bool.false_eq_true, if_false, run_bounds (Nat.le_refl _) b1 b2 hc, Sem.run_pure]

theorem ok_slice3 {t e : Nat} {i ei : TInfo} {x h m : Operand} {v : PV} {kh km : IntKind} (ho : o.op = .slice t x none (some h) (some m)) (ht : TOk P t i) (hk : i.k = .sl e) (hei : TOk P e ei) (hx : rd x = some v)
    (hh : rd h = some ⟨.int kh, (0 : Int)⟩) (hm : rd m = some ⟨.int km, (0 : Int)⟩) (hr' : evSlice3 st v K = some r) : Res P o rd st nx K r := by
  have hmx : x ∈ o.op.operands.toList := by rw [ho]; simp [Op.operands]
  have hmh : h ∈ o.op.operands.toList := by rw [ho]; simp [Op.operands]
  have hmm : m ∈ o.op.operands.toList := by rw [ho]; simp [Op.operands]
  obtain ⟨tv, xv⟩ := v
  have base : ∀ e', (∀ (F : Fix) (ρ : Rd) (σ : Sg) (born : Nat → Prop) (a : Act) (w : World) (φ : Nat → Value) (fz : Nat → Prop), Inv F ρ σ born a w φ fz →
      (∀ x v, x ∈ o.op.operands.toList → rd x = some v → rdOf ρ x = some v) → (∀ k c, st k = some c → σ k = some c) → ∃ A n c, a.eval x = .slice A n c) → OpOk P o rd st nx ⟨⟨.sl .emp e', ()⟩, []⟩ := by
    intro e' H
    refine OpOk.pure fun F ρ σ born a w φ fz hI hrd hst => ?_
    have r1 := rep_int.1 (hI.rd (hrd h _ hmh hh))
    have r2 := rep_int.1 (hI.rd (hrd m _ hmm hm))
    obtain ⟨A, n, c, he⟩ := H F ρ σ born a w φ fz hI hrd hst
    have hc : (0 : Int) ≤ (c : Int) := by omega
    refine ⟨.slice A 0 0, ?_, ⟨A, rfl⟩, by simp [Ty.toks]⟩
    simp [execOp, ho, he, r1, r2, Instr.sliceAt, run_underlying (ht.slice hk), Instr.slice, Instr.sliceBounds, Instr.sliceBound, asIntOf, hei.sizeOf, hc]
  unfold evSlice3 at hr'
  cases tv with
  | sl md e' =>
    cases md <;> simp only [] at hr'
    · refine ⟨_, hr', base e' fun F ρ σ born a w φ fz hI hrd hst => ?_⟩
      have hr := hI.rd (hrd x _ hmx hx)
      simp only [RepV, RepV0, RepC] at hr
      obtain ⟨A, c, he, _⟩ := hr; injection he with he; exact ⟨A, _, c, he⟩
    · refine ⟨_, hr', base e' fun F ρ σ born a w φ fz hI hrd hst => ?_⟩
      have hr := hI.rd (hrd x _ hmx hx)
      simp only [RepV, RepV0, RepC] at hr
      obtain ⟨A, c, he, _⟩ := hr; injection he with he; exact ⟨A, _, c, he⟩
    · split at hr'
      · rename_i k _ e2 l2 hk2
        refine ⟨_, hr', base e' fun F ρ σ born a w φ fz hI hrd hst => ?_⟩
        have hr := hI.rd (hrd x _ hmx hx)
        simp only [RepV, RepV0, RepC] at hr
        injection hr with hr
        obtain ⟨_, _, A, c, hφ, _⟩ := hI.sto _ _ (hst _ _ hk2)
        exact ⟨A, _, c, hr.trans hφ⟩
      · cases hr'
    · refine ⟨_, hr', base e' fun F ρ σ born a w φ fz hI hrd hst => ?_⟩
      have hr := hI.rd (hrd x _ hmx hx)
      simp only [RepV, RepV0, RepC] at hr
      obtain ⟨v, hv, A, N, c, A', _, _, rfl, _⟩ := hr; injection hv with hv; exact ⟨A', _, _, hv⟩
    · refine ⟨_, hr', base e' fun F ρ σ born a w φ fz hI hrd hst => ?_⟩
      have hr := hI.rd (hrd x _ hmx hx)
      simp only [RepV, RepV0, RepC] at hr
      obtain ⟨A, he⟩ := hr; injection he with he; exact ⟨A, 0, 0, he⟩
  | _ => simp only [] at hr'; cases hr'

/-! ### values in a row -/
/-- Values one by one. -/
def RepAll (w : World) (fz bz : Nat → Prop) (φ : Nat → Value) : List PV → List Value → Prop
  | [], vs => vs = []
  | v :: r, vs => ∃ u us, vs = u :: us ∧ RepV w fz bz φ v.t v.x u ∧ RepAll w fz bz φ r us
theorem rds_all : ∀ {l : List Operand} {vs : List PV}, rds rd l = some vs → ∀ {F : Fix} {ρ : Rd} {σ : Sg} {born : Nat → Prop} {a : Act} {w : World} {φ : Nat → Value} {fz : Nat → Prop}, Inv F ρ σ born a w φ fz →
    (∀ x v, x ∈ l → rd x = some v → rdOf ρ x = some v) → RepAll w fz F.bz φ vs (l.map a.eval) ∧ ∀ v ∈ vs, ∀ k ∈ v.t.toks, born k
  | [], vs, h, F, ρ, σ, born, a, w, φ, fz, hI, hrd => by simp only [rds] at h; injection h with h; subst h; exact ⟨rfl, by simp⟩
  | x :: l, vs, h, F, ρ, σ, born, a, w, φ, fz, hI, hrd => by
    simp only [rds] at h
    cases hx : rd x with
    | none => rw [hx] at h; cases h
    | some v =>
      rw [hx] at h
      simp only [] at h
      cases hl : rds rd l with
      | none => rw [hl] at h; cases h
      | some us =>
        rw [hl] at h; injection h with h; subst h
        obtain ⟨h1, h2⟩ := rds_all hl hI (fun y u hy hu => hrd y u (by simp [hy]) hu)
        have hx' := hrd x v (by simp) hx
        refine ⟨⟨_, _, rfl, hI.rd hx', h1⟩, ?_⟩
        intro u hu
        rcases List.mem_cons.1 hu with rfl | hu
        · exact hI.rdb hx'
        · exact h2 u hu

theorem repAll_caps {w : World} {fz bz : Nat → Prop} {φ : Nat → Value} : ∀ {l : List PV} {vs : List Value}, ptrs l = true → RepAll w fz bz φ l vs → RepC w fz bz φ (pvs l).t (pvs l).x vs ∧ ∀ k ∈ (pvs l).t.toks, ∃ v ∈ l, k ∈ v.t.toks
  | [], vs, _, h => by simp only [RepAll] at h; subst h; exact ⟨rfl, by simp [pvs, Ty.toks]⟩
  | [v], vs, hp, h => by
    obtain ⟨u, us, rfl, h1, h2⟩ := h
    simp only [RepAll] at h2; subst h2
    obtain ⟨t, x⟩ := v
    cases t <;> simp only [ptrs] at hp <;> first | (cases hp; done) | skip
    all_goals exact ⟨h1, fun k hk => ⟨_, List.mem_cons_self, hk⟩⟩
  | v :: v2 :: r, vs, hp, h => by
    obtain ⟨u, us, rfl, h1, h2⟩ := h
    obtain ⟨t, x⟩ := v
    cases t <;> simp only [ptrs] at hp <;> first | (cases hp; done) | skip
    all_goals
      obtain ⟨h3, h4⟩ := repAll_caps (l := v2 :: r) hp h2
      refine ⟨⟨[u], us, rfl, h1, h3⟩, fun k hk => ?_⟩
      have hk : k ∈ _ ++ _ := hk
      rcases List.mem_append.1 hk with hk | hk
      · exact ⟨_, List.mem_cons_self, hk⟩
      · obtain ⟨q, hq, hk⟩ := h4 k hk
        exact ⟨q, List.mem_cons_of_mem _ hq, hk⟩

theorem ok_makeFunc {f : Nat} {cs : Array Operand} {l : List PV} (ho : o.op = .makeFunc (.func f) #[] cs) (hl : rds rd cs.toList = some l) (hp : ptrs l = true) : OpOk P o rd st nx ⟨⟨.fn f (pvs l).t, (pvs l).x⟩, []⟩ := by
  refine OpOk.pure fun F ρ σ born a w φ fz hI hrd hst => ?_
  obtain ⟨h1, h2⟩ := rds_all hl hI (fun x v hx hv => hrd x v (by rw [ho]; simpa [Op.operands] using hx) hv)
  obtain ⟨h3, h4⟩ := repAll_caps hp h1
  refine ⟨.func (.func f) #[] (cs.map a.eval), by simp [execOp, ho, Instr.makeFunc], ?_, ?_⟩
  · refine ⟨_, ?_, h3⟩
    congr 2
    apply Array.ext'
    simp
  · intro k hk
    obtain ⟨v, hv, hk⟩ := h4 k (by simpa [Ty.toks] using hk)
    exact h2 v hv k hk

/-! ### min, max, len -/
theorem ok_min {b : Bool} {c : Call} {k : IntKind} {x y : Int} (ho : o.op = .call c) (hb : c.callee = .builtin (if b then .min else .max)) (hl : rds rd c.args.toList = some [⟨.int k, x⟩, ⟨.int k, y⟩]) :
    OpOk P o rd st nx ⟨⟨.int k, if b then (if y < x then y else x) else (if y > x then y else x)⟩, []⟩ := by
  refine OpOk.pure fun F ρ σ born a w φ fz hI hrd hst => ?_
  obtain ⟨h1, h2⟩ := rds_all hl hI (fun x v hx hv => hrd x v (by rw [ho]; simp only [Op.operands, Call.operands]; simp; exact .inr (by simpa using hx)) hv)
  obtain ⟨u, us, he, r1, u2, us2, he2, r2, he3⟩ := h1
  have r1 := rep_int.1 r1
  have r2 := rep_int.1 r2
  subst r1; subst r2; subst he2
  simp only [RepAll] at he3; subst he3
  have hargs : c.args.map a.eval = #[.int k x, .int k y] := by apply Array.ext'; simpa using he
  refine ⟨.int k (if b then (if y < x then y else x) else (if y > x then y else x)), ?_, rep_int.2 rfl, by simp [Ty.toks]⟩
  cases b <;> simp only [Bool.false_eq_true, if_false, if_true] at hb ⊢
  · simp [execOp, ho, resolve, hb, invoke, builtin, hargs, Builtin.max_, Builtin.max2]
  · simp [execOp, ho, resolve, hb, invoke, builtin, hargs, Builtin.min_, Builtin.min2]

end
end Go.Pv
