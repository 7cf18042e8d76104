/- Pv, ninth text: loads, stores, new variables. -/
import Derived.Test.YtdkinmgpclbedaaDoorPvOps3
import Derived.Laws.NewBlocks
set_option linter.unusedVariables false
set_option linter.unusedSimpArgs false
namespace Go.Pv
open Go Go.RowKit

section
variable {P : Program} {R : Type} {r : R} {o : Oper} {rd : Operand → Option PV} {st : Sg} {nx : Nat} {K : Dl → Option R}

/-! ### load -/
theorem run_load_rep {t : Nat} {i : TInfo} (h : TOk P t i) {w : World} {fz bz : Nat → Prop} {φ : Nat → Value} {u : PV} {d : List Value} (hd : RepC w fz bz φ u.t u.x d) (hs : u.t.stor = true) (hsz : u.t.sz = i.sz) (hag : u.t.isAgg = i.k.agg)
    {B off : Nat} (hc : CellsAt w B off d) : ∃ v, (Instr.loadAt t (.pointer (some ⟨B, off, none⟩))).run P w = .ok v w ∧ RepV w fz bz φ u.t u.x v := by
  have hv := RepV.ofCells hs hd
  have hl : d.length = i.sz := by rw [hd.len, hsz]
  have hc' : ∀ j v, d[j]? = some v → w.cell? ((⟨B, off, none⟩ : Addr).add j) = some v := by intro j v hj; rw [Addr.add_lit]; exact hc j v hj
  refine ⟨_, ?_, hv⟩
  rw [hag]
  simp only [Instr.loadAt, Instr.sureAddr, Sem.run_bind, Sem.run_pure, Result.andThen_ok, loadVar, h.isAgg]
  cases ha : i.k.agg with
  | true =>
    simp only [if_true, Sem.run_bind, h.sizeOf, Result.andThen_ok, Sem.run_pure]
    rw [← hl, run_loadCells_list w _ d hc']
    rfl
  | false =>
    have h1 := RepV.store hs (by rw [hag, ha])
    simp only [Bool.false_eq_true, if_false]
    obtain ⟨v, rfl⟩ : ∃ v, d = [v] := by
      have : d.length = 1 := by rw [hd.len, h1]
      cases d with
      | nil => cases this
      | cons v q => cases q with
        | nil => exact ⟨v, rfl⟩
        | cons _ _ => simp at this
    have := hc' 0 v rfl
    simp only [Addr.add, if_true] at this
    simp only [run_load, this, List.headD_cons]

theorem ok_load {t : Nat} {i : TInfo} {x : Operand} {v : PV} (ho : o.op = .load t x) (ht : TOk P t i) (hx : rd x = some v) (h : evLoad st i v (fun u => K ⟨u, []⟩) = some r) : Res P o rd st nx K r := by
  have hm : x ∈ o.op.operands.toList := by rw [ho]; simp [Op.operands]
  have ex : ∀ (a : Act) (w : World) (v' : Value), (Instr.loadAt t (a.eval x)).run P w = .ok v' w → (execOp a.eval o).run P w = .ok (.value v') w := by
    intro a w v' hv'
    simp only [execOp, ho, Sem.run_bind, hv', Result.andThen_ok, Sem.run_pure]
  obtain ⟨tv, xv⟩ := v
  unfold evLoad at h
  cases tv with
  | ptr k p q =>
    simp only [] at h
    split at h
    · rename_i bt bx hk
      split at h
      · rename_i q' hq
        obtain ⟨hqq, h⟩ := cond_some h
        split at h
        · rename_i u hu
          obtain ⟨h, hsz, hs, hag⟩ := fitK_ok h
          refine ⟨_, h, OpOk.pure fun F ρ σ born a w φ fz hI hrd hst => ?_⟩
          have hr := hI.rd (hrd x _ hm hx)
          simp only [RepV, RepV0, RepC] at hr
          obtain ⟨B, off, hφ, he⟩ := hr
          injection he with he
          have hb := (hI.bs _ _ (hst _ _ hk)).2
          obtain ⟨B', off', ety, ar, ys, hφ', hg, hc, hat⟩ := hI.sto _ _ (hst _ _ hk)
          rw [hφ] at hφ'; injection hφ' with e; injection e with e; injection e with e1 e2 _; subst e1; subst e2
          obtain ⟨c, d, e, rfl, hcl, hd, htt⟩ := getP_spec hu hq hc
          have hcells : CellsAt w B (off + q) d := by
            intro j v hj
            have := hat (c.length + j) v (by rw [List.getElem?_append_right (by omega), Nat.add_sub_cancel_left, List.getElem?_append_left (List.getElem?_eq_some_iff.1 hj).1]; exact hj)
            rw [hcl, ← nbeq_eq hqq, ← Nat.add_assoc] at this
            simp only [World.cell?, hg, Option.isSome_none, Bool.false_eq_true, if_false]
            exact this
          obtain ⟨v', h1, h2⟩ := run_load_rep ht hd hs hsz hag hcells
          exact ⟨v', ex a w v' (by rw [he]; exact h1), h2, fun k hk => hb k (htt k hk)⟩
        · cases h
      · cases h
    · cases h
  | ep k p q s =>
    obtain ⟨xn, hxn⟩ : ∃ xn : Nat, xn = xv := ⟨xv, rfl⟩
    subst hxn
    simp only [] at h
    split at h
    · rename_i e l hk
      obtain ⟨hes, h⟩ := cond_some h
      split at h
      · rename_i q' hq
        obtain ⟨hqq, h⟩ := cond_some h
        split at h
        · rename_i u hu
          obtain ⟨h, hsz, hs, hag⟩ := fitK_ok h
          refine ⟨_, h, OpOk.pure fun F ρ σ born a w φ fz hI hrd hst => ?_⟩
          have hr := hI.rd (hrd x _ hm hx)
          simp only [RepV, RepV0, RepC] at hr
          obtain ⟨B, off, N, c0, hφ, hj, he⟩ := hr
          injection he with he
          obtain ⟨hcl, hpos, ha⟩ := hI.sto _ _ (hst _ _ hk)
          have hN : N = l.length := by obtain ⟨A2, c2, h2, _⟩ := ha; rw [hφ] at h2; injection h2
          have hj : xn < N := hj
          obtain ⟨B', off', c2, ety, ar, hφ', _, hg, _, hat⟩ := ha.get (by omega)
          rw [hφ] at hφ'; injection hφ' with e1 e2 e3; injection e1 with e1; injection e1 with e1 e4 _; subst e1; subst e4
          obtain ⟨ys, hc, hat'⟩ := hat xn _ (getD_get (d := e.dflt) (by omega))
          obtain ⟨c, d, e', rfl, hcl', hd, htt⟩ := getP_spec hu hq hc
          have hnt : u.t.toks = [] := by
            have := Ty.closed_toks hcl
            rw [this] at htt
            exact List.eq_nil_iff_forall_not_mem.2 fun k hk => by simpa using htt k hk
          have hcells : CellsAt w B (off + xn * s + q) d := by
            intro j v hj
            have := hat' (c.length + j) v (by rw [List.getElem?_append_right (by omega), Nat.add_sub_cancel_left, List.getElem?_append_left (List.getElem?_eq_some_iff.1 hj).1]; exact hj)
            rw [hcl', ← nbeq_eq hqq, ← Nat.add_assoc, nbeq_eq hes] at this
            simp only [World.cell?, hg, Option.isSome_none, Bool.false_eq_true, if_false]
            exact this
          obtain ⟨v', h1, h2⟩ := run_load_rep (φ := φ) ht (hd.toks (by rw [hnt]; simp)) hs hsz hag hcells
          exact ⟨v', ex a w v' (by rw [he]; exact h1), h2, by rw [hnt]; simp⟩
        · cases h
      · cases h
    · cases h
  | rp t' =>
    simp only [] at h
    obtain ⟨hcl, h⟩ := cond_some h
    obtain ⟨h, hsz, hs, hag⟩ := fitK_ok h
    refine ⟨_, h, OpOk.pure fun F ρ σ born a w φ fz hI hrd hst => ?_⟩
    have hr := hI.rd (hrd x _ hm hx)
    simp only [RepV, RepV0, RepC] at hr
    obtain ⟨B, off, ys, he, hz, hc, hat⟩ := hr
    injection he with he
    have hnt := Ty.noToks_eq hcl
    obtain ⟨v', h1, h2⟩ := run_load_rep (φ := φ) (u := ⟨t', xv⟩) ht (hc.toks (by rw [hnt]; simp)) hs hsz hag hat
    exact ⟨v', ex a w v' (by rw [he]; exact h1), h2, by simp [hnt]⟩
  | _ => simp only [] at h; cases h

/-! ### new blocks -/
theorem cells_cellsAt {w : World} {B : Nat} {ar : Array Value} {ety : TypeId} {fr : Nat × Nat} (hg : w.heap[B]? = some (.cells ar ety fr)) {o : Nat} {cs : List Value} (h : ∀ j v, cs[j]? = some v → ar[o + j]? = some v) : CellsAt w B o cs := by
  intro j v hj
  simp only [World.cell?, hg, Option.isSome_none, Bool.false_eq_true, if_false]
  exact h j v hj
theorem bornTo_nx {born : Nat → Prop} {nx : Nat} : bornTo born nx nx := .inr ⟨Nat.le_refl _, by omega⟩

/-- A new block, for one new token. -/
theorem Inv.alloc {F : Fix} {ρ : Rd} {σ : Sg} {born : Nat → Prop} {a : Act} {w : World} {φ : Nat → Value} {fz : Nat → Prop} (hI : Inv F ρ σ born a w φ fz) {ob : Obj} {c : Cell} {h : Value} {d : PV} {cv : Value} {dst : Option Nat}
    (hfresh : ∀ k, nx ≤ k → k < nx + 64 → ¬ born k) (hd : ∀ t, dst = some t → t < F.nt) (hb : blkOf h = some w.heap.size ∨ blkOf h = none) (h1 : h.oneCell' = true) (hbc : ∀ j ∈ c.toks, born j) (kl : List Nat)
    (hc : ∀ φ' fz', (∀ k, born k → φ' k = φ k) → (∀ b, fz b → fz' b) → (∀ k ∈ kl, ∀ c b, σ k = some c → blkOf (φ k) = some b → fz' b) → CellAt (w.alloc ob) fz' F.bz φ' h c)
    (hv : ∀ φ' fz', φ' nx = h → (∀ k, born k → φ' k = φ k) → RepV (w.alloc ob) fz' F.bz φ' d.t d.x cv) (hvb : ∀ k ∈ d.t.toks, bornTo born nx k) :
    ∃ φ' fz', Inv F (upd ρ dst d) (updS σ ((nx, some c) :: killed kl)) (bornTo born nx) (a.put dst cv) (w.alloc ob) φ' fz' := by
  classical
  let fz' : Nat → Prop := fun b => fz b ∨ ∃ k ∈ kl, ∃ c, σ k = some c ∧ blkOf (φ k) = some b
  let φ' : Nat → Value := fun k => if k = nx then h else if born k then φ k else .slice none 0 0
  have hnx : ¬ born nx := hfresh nx (Nat.le_refl _) (by omega)
  have eφ : ∀ k, born k → φ' k = φ k := by intro k hk; simp only [φ']; rw [if_neg (fun e => hnx (by rw [← e]; exact hk)), if_pos hk]
  have enx : φ' nx = h := if_pos rfl
  have eσ : ∀ k c', updS σ ((nx, some c) :: killed kl) k = some c' → (k = nx ∧ c' = c) ∨ (k ≠ nx ∧ σ k = some c' ∧ k ∉ kl) := by
    intro k c' hk
    unfold updS at hk
    simp only [lk] at hk
    by_cases hn : nx = k
    · subst hn
      rw [show Nat.beq nx nx = true from Nat.beq_refl nx] at hk
      simp only [cond_true] at hk
      injection hk with hk
      exact .inl ⟨rfl, hk.symm⟩
    · have : Nat.beq nx k = false := by cases hbq : Nat.beq nx k with
        | false => rfl
        | true => exact absurd (nbeq_eq hbq) hn
      rw [this] at hk
      simp only [cond_false] at hk
      have key : ∀ l : List Nat, (match lk k (killed l) with | some c => c | none => σ k) = some c' → σ k = some c' ∧ k ∉ l := by
        intro l
        induction l with
        | nil => intro h; exact ⟨h, by simp⟩
        | cons j l ih =>
          intro h
          simp only [killed, lk] at h
          by_cases hj : j = k
          · subst hj
            rw [show Nat.beq j j = true from Nat.beq_refl j] at h
            simp only [cond_true] at h
            cases h
          · have : Nat.beq j k = false := by cases hbq : Nat.beq j k with
              | false => rfl
              | true => exact absurd (nbeq_eq hbq) hj
            rw [this] at h
            simp only [cond_false] at h
            obtain ⟨g1, g2⟩ := ih h
            exact ⟨g1, by simp [Ne.symm hj, g2]⟩
      obtain ⟨g1, g2⟩ := key kl hk
      exact .inr ⟨fun e => hn e.symm, g1, g2⟩
  have hm : Moved σ φ w (w.alloc ob) := ⟨by simp, rfl, rfl, rfl, fun b hb _ => Below.heap_alloc _ _ _ hb⟩
  have lt : ∀ k c b, σ k = some c → blkOf (φ k) = some b → b < w.heap.size := fun k c b h1 h2 => (hI.sto k c h1).lt h2
  refine ⟨φ', fz', hI.step hm eφ (fun k hk => .inl hk) (fun b hb => .inl hb) ?_ ?_ ?_ ?_ ?_ ?_ hd (hv φ' fz' enx eφ) hvb⟩
  · intro b hb
    rcases hb with hb | ⟨k, hk, c', h1, h2⟩
    · exact .inl hb
    · exact .inr (.inl ⟨k, c', h1, h2⟩)
  · intro k c' hk
    rcases eσ k c' hk with ⟨rfl, rfl⟩ | ⟨hn, hs, _⟩
    · rw [enx]
      exact hc φ' fz' eφ (fun b hb => .inl hb) (fun k hk c b h1 h2 => .inr ⟨k, hk, c, h1, h2⟩)
    · rw [eφ k (hI.bs k c' hs).1]
      have hz : ∀ b, fz b ∨ F.bz b → (w.alloc ob).heap[b]? = w.heap[b]? := fun b hb => Below.heap_alloc _ _ _ (hb.elim (hI.fzlt b) (hI.bzlt b))
      exact CellAt.mono (fun b hb => Below.heap_alloc _ _ _ (lt k c' b hs hb)) hz (fun b hb => .inl hb) (fun b hb => .inr hb) (fun j hj => eφ j ((hI.bs k c' hs).2 j hj)) (hI.sto k c' hs)
  · intro k c' hk
    rcases eσ k c' hk with ⟨rfl, rfl⟩ | ⟨hn, hs, _⟩
    · exact ⟨bornTo_nx, fun j hj => .inl (hbc j hj)⟩
    · exact ⟨.inl (hI.bs k c' hs).1, fun j hj => .inl ((hI.bs k c' hs).2 j hj)⟩
  · intro j k c1 c2 b hj hk hbj hbk
    rcases eσ j c1 hj with ⟨rfl, rfl⟩ | ⟨hnj, hsj, _⟩ <;> rcases eσ k c2 hk with ⟨rfl, rfl⟩ | ⟨hnk, hsk, _⟩
    · rfl
    · rw [enx] at hbj; rw [eφ k (hI.bs k c2 hsk).1] at hbk
      have := lt k c2 b hsk hbk
      rcases hb with hb | hb <;> rw [hb] at hbj
      · injection hbj with hbj; omega
      · cases hbj
    · rw [enx] at hbk; rw [eφ j (hI.bs j c1 hsj).1] at hbj
      have := lt j c1 b hsj hbj
      rcases hb with hb | hb <;> rw [hb] at hbk
      · injection hbk with hbk; omega
      · cases hbk
    · rw [eφ j (hI.bs j c1 hsj).1] at hbj; rw [eφ k (hI.bs k c2 hsk).1] at hbk
      exact hI.inj j k c1 c2 b hsj hsk hbj hbk
  · intro k c' b hk hbk
    rcases eσ k c' hk with ⟨rfl, rfl⟩ | ⟨hn, hs, hkl⟩
    · rw [enx] at hbk
      rcases hb with hb | hb <;> rw [hb] at hbk
      · injection hbk with hbk
        subst hbk
        refine ⟨?_, .inr (Nat.le_refl _)⟩
        rintro (hf | ⟨j, _, cj, h1, h2⟩)
        · exact Nat.lt_irrefl _ (hI.fzlt _ hf)
        · exact Nat.lt_irrefl _ (lt j cj _ h1 h2)
      · cases hbk
    · rw [eφ k (hI.bs k c' hs).1] at hbk
      refine ⟨?_, .inl ⟨k, c', hs, hbk⟩⟩
      rintro (hf | ⟨j, hj, cj, h1, h2⟩)
      · exact (hI.own k c' b hs hbk).1 hf
      · have := hI.inj j k cj c' b h1 hs h2 hbk
        subst this
        exact hkl hj
  · intro k hk
    by_cases hn : k = nx
    · subst hn; rw [enx]; exact h1
    · by_cases hbk : born k
      · rw [eφ k hbk]; exact hI.one k hbk
      · simp only [φ']; rw [if_neg hn, if_neg hbk]; rfl
end
end Go.Pv
