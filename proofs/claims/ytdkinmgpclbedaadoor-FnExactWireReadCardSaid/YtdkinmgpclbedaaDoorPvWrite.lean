/- Pv, twelfth text: what writes memory. -/
import Derived.Test.YtdkinmgpclbedaaDoorPvPack
import Derived.Laws.CopyRow
set_option linter.unusedVariables false
set_option linter.unusedSimpArgs false
namespace Go.Pv
open Go Go.RowKit

section
variable {P : Program} {R : Type} {r : R} {o : Oper} {rd : Operand → Option PV} {st : Sg} {nx : Nat} {K : Dl → Option R}

theorem lk_killed {k : Nat} : ∀ {l : List Nat}, lk k (killed l) = if k ∈ l then some none else none
  | [] => rfl
  | j :: l => by
    simp only [killed, lk_cons, lk_killed]
    by_cases h : j = k
    · subst h; simp
    · rw [if_neg h]; simp [Ne.symm h]
theorem updS_cons {σ : Sg} {j k : Nat} {c : Option Cell} {l : List (Nat × Option Cell)} : updS σ ((j, c) :: l) k = if j = k then c else updS σ l k := by
  unfold updS
  rw [lk_cons]
  by_cases h : j = k
  · rw [if_pos h, if_pos h]
  · rw [if_neg h, if_neg h]
theorem updS_killed {σ : Sg} {k : Nat} {l : List Nat} : updS σ (killed l) k = if k ∈ l then none else σ k := by
  unfold updS
  rw [lk_killed]
  by_cases h : k ∈ l
  · rw [if_pos h, if_pos h]
  · rw [if_neg h, if_neg h]

/-- What an owned token's memory holds turns, and no more. -/
theorem Inv.write {F : Fix} {ρ : Rd} {σ : Sg} {born : Nat → Prop} {a : Act} {w w' : World} {φ : Nat → Value} {fz : Nat → Prop} (hI : Inv F ρ σ born a w φ fz) {k B : Nat} {c c' : Cell} (hk : σ k = some c) (hB : blkOf (φ k) = some B)
    (hsz : w'.heap.size = w.heap.size) (hos : w'.os = w.os) (htp : w'.tape = w.tape) (hout : w'.output = w.output) (hother : ∀ b, b ≠ B → w'.heap[b]? = w.heap[b]?) {kl : List Nat} (hkl : k ∉ kl)
    (hc : ∀ fz' : Nat → Prop, (∀ b, fz b → fz' b) → (∀ j ∈ kl, ∀ c b, σ j = some c → blkOf (φ j) = some b → fz' b) → CellAt w' fz' F.bz φ (φ k) c') (hct : ∀ j ∈ c'.toks, born j)
    {dst : Option Nat} (hd : ∀ t, dst = some t → t < F.nt) {d : PV} {v : Value} (hv : ∀ fz', RepV w' fz' F.bz φ d.t d.x v) (hvb : d.t.toks = []) :
    ∃ fz', Inv F (upd ρ dst d) (updS σ ((k, some c') :: killed kl)) born (a.put dst v) w' φ fz' := by
  let fz' : Nat → Prop := fun b => fz b ∨ ∃ j ∈ kl, ∃ c, σ j = some c ∧ blkOf (φ j) = some b
  have eσ : ∀ i c2, updS σ ((k, some c') :: killed kl) i = some c2 → (i = k ∧ c2 = c') ∨ (i ≠ k ∧ σ i = some c2 ∧ i ∉ kl) := by
    intro i c2 h
    rw [updS_cons] at h
    by_cases hi : k = i
    · rw [if_pos hi] at h; injection h with h; exact .inl ⟨hi.symm, h.symm⟩
    · rw [if_neg hi, updS_killed] at h
      by_cases hl : i ∈ kl
      · rw [if_pos hl] at h; cases h
      · rw [if_neg hl] at h; exact .inr ⟨fun e => hi e.symm, h, hl⟩
  have live : ∀ i c2, updS σ ((k, some c') :: killed kl) i = some c2 → ∃ c, σ i = some c ∧ i ∉ kl := by
    intro i c2 h
    rcases eσ i c2 h with ⟨rfl, _⟩ | ⟨_, h, hl⟩
    · exact ⟨c, hk, hkl⟩
    · exact ⟨c2, h, hl⟩
  have hz : ∀ b, fz b ∨ F.bz b → w'.heap[b]? = w.heap[b]? := by
    intro b hb
    refine hother b fun e => ?_
    subst e
    have := hI.own k c b hk hB
    exact hb.elim this.1 this.2.1
  refine ⟨fz', hI.step ⟨Nat.le_of_eq hsz.symm, hos, htp, hout, fun b _ h => hother b (fun e => h k c hk (by rw [e]; exact hB))⟩ (fun _ _ => rfl) (fun _ h => h) (fun b h => .inl h) ?_ ?_ ?_ ?_ ?_ hI.one hd (hv fz') (by rw [hvb]; simp)⟩
  · rintro b (hb | ⟨j, _, cj, h1, h2⟩)
    · exact .inl hb
    · exact .inr (.inl ⟨j, cj, h1, h2⟩)
  · intro i c2 h
    rcases eσ i c2 h with ⟨rfl, rfl⟩ | ⟨hi, h, hl⟩
    · exact hc fz' (fun b h => .inl h) (fun j hj c b h1 h2 => .inr ⟨j, hj, c, h1, h2⟩)
    · refine CellAt.mono (fun b hb => hother b fun e => ?_) hz (fun b h => .inl h) (fun b h => .inr h) (fun _ _ => rfl) (hI.sto i c2 h)
      subst e
      exact hi (hI.inj i k c2 c b h hk hb hB)
  · intro i c2 h
    rcases eσ i c2 h with ⟨rfl, rfl⟩ | ⟨hi, h, hl⟩
    · exact ⟨(hI.bs _ _ hk).1, hct⟩
    · exact hI.bs i c2 h
  · intro i j c1 c2 b h1 h2 hb1 hb2
    obtain ⟨d1, g1, _⟩ := live i c1 h1
    obtain ⟨d2, g2, _⟩ := live j c2 h2
    exact hI.inj i j d1 d2 b g1 g2 hb1 hb2
  · intro i c2 b h hb
    obtain ⟨d1, g1, hl⟩ := live i c2 h
    refine ⟨?_, .inl ⟨i, d1, g1, hb⟩⟩
    rintro (hf | ⟨j, hj, cj, q1, q2⟩)
    · exact (hI.own i d1 b g1 hb).1 hf
    · have := hI.inj j i cj d1 b q1 g1 q2 hb
      subst this; exact hl hj

/-! ### new variables -/
theorem ok_alloc {t : Nat} {i : TInfo} (ho : o.op = .alloc t) (ht : TOk P t i) : OpOk P o rd st nx ⟨⟨.ptr nx [] 0, ()⟩, [(nx, some (.box i.z.t i.z.x))]⟩ := by
  intro F ρ σ born a w φ fz hI hrd hst hfresh hd next Q hnext
  obtain ⟨j, hj, hjs, hjb, zv, hz, hzr⟩ := ht.info
  have hcells : ∀ fz' bz' φ', ∃ cs, zv.cells.toList = cs ∧ RepC (w.alloc (.cells zv.cells t)) fz' bz' φ' i.z.t i.z.x cs := by
    intro fz' bz' φ'
    exact RepV.cells (φ := φ') ht.zst (by rw [ht.zcl]; simp) (RepV.of0 (hzr _ _ _ _))
  obtain ⟨φ', fz', hI'⟩ := hI.alloc (nx := nx) (ob := .cells zv.cells t) (c := .box i.z.t i.z.x) (h := .pointer (some ⟨w.heap.size, 0, none⟩)) (d := ⟨.ptr nx [] 0, ()⟩) (cv := .pointer (some ⟨w.heap.size, 0, none⟩)) (dst := o.dst)
    hfresh hd (.inl rfl) rfl (by simp [Cell.toks, ht.zcl]) []
    (by
      intro φ' fz' _ _ _
      obtain ⟨cs, h1, h2⟩ := hcells fz' F.bz φ'
      refine ⟨w.heap.size, 0, t, zv.cells, cs, rfl, heap_alloc_new w _, h2, fun j v hj => ?_⟩
      rw [Nat.zero_add, ← Array.getElem?_toList, h1]; exact hj)
    (by intro φ' fz' h _; exact ⟨w.heap.size, 0, h, rfl⟩)
    (by simp [Ty.toks, bornTo_nx])
  refine wp_value (v := .pointer (some ⟨w.heap.size, 0, none⟩)) (w' := w.alloc (.cells zv.cells t)) ?_ (hnext _ _ φ' fz' hI')
  simp [execOp, ho, Instr.alloc, zeroValue, typeInfo, hj, hz, newVar, newRow]

theorem ok_box {t : Nat} {x : Operand} {v : PV} (ho : o.op = .box t x) (hx : rd x = some v) (hs : v.t.stor = true) : OpOk P o rd st nx ⟨⟨.ptr nx [] 0, ()⟩, [(nx, some (.box v.t v.x))]⟩ := by
  intro F ρ σ born a w φ fz hI hrd hst hfresh hd next Q hnext
  have hm : x ∈ o.op.operands.toList := by rw [ho]; simp [Op.operands]
  have hr := hI.rd (hrd x _ hm hx)
  have hb := hI.rdb (hrd x _ hm hx)
  obtain ⟨cs, h1, h2⟩ := RepV.cells hs (fun k hk => hI.one k (hb k hk)) hr
  obtain ⟨φ', fz', hI'⟩ := hI.alloc (nx := nx) (ob := .cells (a.eval x).cells t) (c := .box v.t v.x) (h := .pointer (some ⟨w.heap.size, 0, none⟩)) (d := ⟨.ptr nx [] 0, ()⟩) (cv := .pointer (some ⟨w.heap.size, 0, none⟩)) (dst := o.dst)
    hfresh hd (.inl rfl) rfl (by simpa [Cell.toks] using hb) []
    (by
      intro φ' fz' hφ hfz _
      refine ⟨w.heap.size, 0, t, (a.eval x).cells, cs, rfl, heap_alloc_new w _, ?_, fun j v hj => ?_⟩
      · exact RepC.mono (fun b hb => Below.heap_alloc _ _ _ (hb.elim (hI.fzlt b) (hI.bzlt b))) hfz (fun b h => .inr h) (fun k hk => hφ k (hb k hk)) h2
      · rw [Nat.zero_add, ← Array.getElem?_toList, h1]; exact hj)
    (by intro φ' fz' h _; exact ⟨w.heap.size, 0, h, rfl⟩)
    (by simp [Ty.toks, bornTo_nx])
  refine wp_value (v := .pointer (some ⟨w.heap.size, 0, none⟩)) (w' := w.alloc (.cells (a.eval x).cells t)) ?_ (hnext _ _ φ' fz' hI')
  simp [execOp, ho, Instr.box, newVar, newRow]

/-! ### store -/
theorem splice_get {α : Type} {cur : List α} {o q : Nat} {c d e d' : List α} (h : ∀ j v, (c ++ (d ++ e))[j]? = some v → cur[o + j]? = some v) (hc : c.length = q) (hd : d'.length = d.length) :
    ∀ j v, (c ++ (d' ++ e))[j]? = some v → (cur.take (o + q) ++ d' ++ cur.drop (o + q + d'.length))[o + j]? = some v := by
  intro j v hj
  have hfit : 0 < d.length → o + q + d.length ≤ cur.length := by
    intro h0
    have hlt : q + (d.length - 1) < (c ++ (d ++ e)).length := by simp only [List.length_append]; omega
    have := h (q + (d.length - 1)) _ (List.getElem?_eq_getElem hlt)
    have := (List.getElem?_eq_some_iff.1 this).1
    omega
  by_cases h1 : j < q
  · rw [List.getElem?_append_left (by omega)] at hj
    have := h j v (by rw [List.getElem?_append_left (by omega)]; exact hj)
    have hlt := (List.getElem?_eq_some_iff.1 this).1
    rw [List.append_assoc, List.getElem?_append_left (by rw [List.length_take]; omega), List.getElem?_take, if_pos (by omega)]
    exact this
  · rw [List.getElem?_append_right (by omega)] at hj
    by_cases h2 : j - q < d'.length
    · rw [hc, List.getElem?_append_left h2] at hj
      have := hfit (by omega)
      have ht : (cur.take (o + q)).length = o + q := by rw [List.length_take]; omega
      rw [List.append_assoc, List.getElem?_append_right (by omega), ht, List.getElem?_append_left (by omega)]
      rw [show o + j - (o + q) = j - q by omega]; exact hj
    · rw [hc, List.getElem?_append_right (by omega)] at hj
      have := h j v (by rw [List.getElem?_append_right (by omega), hc, List.getElem?_append_right (by omega), ← hd]; exact hj)
      have hlt := (List.getElem?_eq_some_iff.1 this).1
      have ht : (cur.take (o + q)).length = o + q := by rw [List.length_take]; omega
      rw [List.append_assoc, List.getElem?_append_right (by omega), ht, List.getElem?_append_right (by omega), List.getElem?_drop]
      rw [show o + q + d'.length + (o + j - (o + q) - d'.length) = o + j by omega]; exact this
theorem splice_fit {α : Type} {cur : List α} {o q : Nat} {c d e : List α} (h : ∀ j v, (c ++ (d ++ e))[j]? = some v → cur[o + j]? = some v) (hc : c.length = q) (h0 : 0 < d.length) : o + q + d.length ≤ cur.length := by
  have hlt : q + (d.length - 1) < (c ++ (d ++ e)).length := by simp only [List.length_append]; omega
  have := h (q + (d.length - 1)) _ (List.getElem?_eq_getElem hlt)
  have := (List.getElem?_eq_some_iff.1 this).1
  omega

theorem run_store_rep {t : Nat} {i : TInfo} (h : TOk P t i) {w : World} {B off : Nat} {cur : Array Value} {ety : TypeId} (hg : w.heap[B]? = some (.cells cur ety (0, 0))) {v : Value} {d : List Value} (hd : v.cells.toList = d) (hl : d.length = i.sz)
    (hfit : off + d.length ≤ cur.size) (h1 : ∀ u ∈ d, u.oneCell' = true) :
    (Instr.storeAt t (.pointer (some ⟨B, off, none⟩)) v).run P w = .ok () (w.setRow B (cur.toList.take off ++ d ++ cur.toList.drop (off + d.length)).toArray) := by
  have hsz : v.cells.size = i.sz := by rw [← hl, ← hd, Array.length_toList]
  have := run_storeCells_at P B off ety d 0 cur w hg (by simpa using hfit) h1
  simp only [Nat.add_zero] at this
  simp only [Instr.storeAt, Instr.sureAddr, Sem.run_bind, Sem.run_pure, Result.andThen_ok, storeVar, h.sizeOf, hsz, ne_eq, not_true, if_false, hd, this]

theorem elemN_of_mem {k : Nat} : ∀ {l : List Nat}, k ∈ l → elemN k l = true
  | [], h => by cases h
  | j :: l, h => by
    simp only [elemN]
    rcases List.mem_cons.1 h with rfl | h
    · rw [show Nat.beq k k = true from Nat.beq_refl k]; rfl
    · rw [elemN_of_mem h]; cases Nat.beq j k <;> rfl
theorem mem_of_elemN {k : Nat} : ∀ {l : List Nat}, elemN k l = true → k ∈ l
  | [], h => by cases h
  | j :: l, h => by
    simp only [elemN] at h
    cases hb : Nat.beq j k with
    | true => rw [nbeq_eq hb]; exact List.mem_cons_self
    | false => rw [hb] at h; exact List.mem_cons_of_mem _ (mem_of_elemN h)
theorem splice_far {α : Type} {cur d' : List α} {lo idx : Nat} (hfit : lo + d'.length ≤ cur.length) (h : idx < lo ∨ lo + d'.length ≤ idx) : (cur.take lo ++ d' ++ cur.drop (lo + d'.length))[idx]? = cur[idx]? := by
  have ht : (cur.take lo).length = lo := by rw [List.length_take]; omega
  rcases h with h | h
  · rw [List.append_assoc, List.getElem?_append_left (by omega), List.getElem?_take, if_pos h]
  · rw [List.append_assoc, List.getElem?_append_right (by omega), ht, List.getElem?_append_right (by omega), List.getElem?_drop]
    congr 1; omega

theorem setRow_size (w : World) (g : Nat) (cs : Array Value) : (w.setRow g cs).heap.size = w.heap.size := by simp [World.setRow]

theorem ok_store {t : Nat} {i : TInfo} {x y : Operand} {v u : PV} (ho : o.op = .store t x y) (ht : TOk P t i) (hx : rd x = some v) (hy : rd y = some u) (h : evStore st i v u K = some r) : Res P o rd st nx K r := by
  have hmx : x ∈ o.op.operands.toList := by rw [ho]; simp [Op.operands]
  have hmy : y ∈ o.op.operands.toList := by rw [ho]; simp [Op.operands]
  have ex : ∀ (a : Act) (w w' : World), (Instr.storeAt t (a.eval x) (a.eval y)).run P w = .ok () w' → (execOp a.eval o).run P w = .ok .skip w' := by
    intro a w w' hv'
    simp only [execOp, ho, Sem.run_bind, hv', Result.andThen_ok, Sem.run_pure]
  unfold evStore at h
  obtain ⟨hi0, h⟩ := cond_none h
  obtain ⟨husz, h⟩ := cond_some h
  obtain ⟨hust, h⟩ := cond_some h
  have husz := nbeq_eq husz
  have hpos : 0 < i.sz := by
    rcases Nat.eq_zero_or_pos i.sz with e | e
    · rw [e] at hi0; cases hi0
    · exact e
  obtain ⟨tv, xv⟩ := v
  cases tv with
  | ptr k p q =>
    simp only [] at h
    split at h
    · rename_i bt bx hk
      split at h
      · rename_i q' old hq hold
        obtain ⟨hqq, h⟩ := cond_some h
        obtain ⟨hosz, h⟩ := cond_some h
        obtain ⟨host, h⟩ := cond_some h
        split at h
        · rename_i z hz
          refine ⟨_, h, ?_⟩
          intro F ρ σ born a w φ fz hI hrd hst hfresh hd next Q hnext
          have hr := hI.rd (hrd x _ hmx hx)
          have hru := hI.rd (hrd y _ hmy hy)
          have hbu := hI.rdb (hrd y _ hmy hy)
          simp only [RepV, RepV0, RepC] at hr
          obtain ⟨B, off, hφ, he⟩ := hr
          injection he with he
          have hσk := hst _ _ hk
          have hbc := hI.bs _ _ hσk
          obtain ⟨B', off', ety, ar, ys, hφ', hg, hc, hat⟩ := hI.sto _ _ hσk
          rw [hφ] at hφ'; injection hφ' with e; injection e with e; injection e with e1 e2 _; subst e1; subst e2
          obtain ⟨c, d, e, rfl, hcl, hdr, htt⟩ := getP_spec hold hq hc
          obtain ⟨d', hd1, hd2⟩ := RepV.cells hust (fun k hk => hI.one k (hbu k hk)) hru
          have hdl : d.length = old.t.sz := hdr.len
          have hdl' : d'.length = d.length := by rw [hd2.len, hdl, nbeq_eq hosz]
          have hat2 : ∀ j v, (c ++ (d ++ e))[j]? = some v → ar.toList[off + j]? = some v := by intro j v hj; rw [Array.getElem?_toList]; exact hat j v hj
          have hfit : off + q + d'.length ≤ ar.size := by
            have := splice_fit hat2 hcl (by rw [hdl, nbeq_eq hosz, husz]; exact hpos)
            rw [hdl', nbeq_eq hqq, ← Array.length_toList]; exact this
          have hrun := run_store_rep ht hg hd1 (by rw [hd2.len, husz]) hfit (RepC.one (fun k hk => hI.one k (hbu k hk)) hd2)
          obtain ⟨fz', hI'⟩ := hI.write (w' := w.setRow B (ar.toList.take (off + q) ++ d' ++ ar.toList.drop (off + q + d'.length)).toArray) (c' := .box z.t z.x) hσk (show blkOf (φ k) = some B by rw [hφ]; rfl)
            (setRow_size _ _ _) rfl rfl rfl (fun b hb => setRow_other w B b _ hb) (kl := []) (by simp)
            (by
              intro fz' hf _
              obtain ⟨g1, _, _⟩ := setP_spec hold hq hz hc hcl hdl hd2 (nbeq_eq hosz).symm
              refine ⟨B, off, ety, _, c ++ (d' ++ e), hφ, setRow_heap w B ar _ ety (0, 0) hg, ?_, ?_⟩
              · refine RepC.mono (fun b hb => setRow_other w B b _ fun e => ?_) hf (fun b h => .inr h) (fun _ _ => rfl) g1
                subst e
                have := hI.own k _ b hσk (by rw [hφ]; rfl)
                exact hb.elim this.1 this.2.1
              · intro j v hj
                have := splice_get hat2 (q := q) (by rw [hcl, nbeq_eq hqq]) hdl' j v hj
                simpa using this)
            (by
              obtain ⟨_, _, g3⟩ := setP_spec hold hq hz hc hcl hdl hd2 (nbeq_eq hosz).symm
              intro j hj
              rcases g3 j hj with h | h
              · exact hbc.2 j h
              · exact hbu j h)
            hd (d := undefPV) (v := undef) (fun _ => rfl) rfl
          obtain ⟨φ'', _, hI''⟩ := hI'.bornMono (born' := bornTo born nx) (fun k hk => .inl hk)
          exact wp_done (ex a w _ (by rw [he]; exact hrun)) (hnext _ _ _ _ hI'')
        · cases h
      · cases h
    · cases h
  | ep k p q s =>
    obtain ⟨xn, hxn⟩ : ∃ xn : Nat, xn = xv := ⟨xv, rfl⟩
    subst hxn
    simp only [] at h
    split at h
    · rename_i e l hk
      obtain ⟨hes, h⟩ := cond_some h
      split at h
      · rename_i q' old hq hold
        obtain ⟨hqq, h⟩ := cond_some h
        split at h
        · rename_i cx ca hcv
          split at h
          · rename_i hcm
            split at h
            · rename_i z hz
              split at h
              · rename_i z2 hz2
                obtain ⟨hkf, h⟩ := cond_none h
                refine ⟨_, h, ?_⟩
                intro F ρ σ born a w φ fz hI hrd hst hfresh hd next Q hnext
                have hr := hI.rd (hrd x _ hmx hx)
                have hru := hI.rd (hrd y _ hmy hy)
                have hbu := hI.rdb (hrd y _ hmy hy)
                simp only [RepV, RepV0, RepC] at hr
                obtain ⟨B, off, N, c0, hφ, hj, he⟩ := hr
                injection he with he
                have hσk := hst _ _ hk
                obtain ⟨hcl, hpe, ha⟩ := hI.sto _ _ hσk
                have hN : N = l.length := by obtain ⟨A2, c2, h2, _⟩ := ha; rw [hφ] at h2; injection h2
                have hj : xn < N := hj
                obtain ⟨B', off', c2, ety, ar, hφ', hlc, hg, hcap, hat⟩ := ha.get (by omega)
                rw [hφ] at hφ'; injection hφ' with e1 e2 e3; injection e1 with e1; injection e1 with e1 e4 _; subst e1; subst e4; subst e3
                obtain ⟨ys, hc, hat'⟩ := hat xn _ (getD_get (d := e.dflt) (by omega))
                obtain ⟨c, d, e', rfl, hcl', hdr, htt⟩ := getP_spec hold hq hc
                obtain ⟨d', hd1, hd2⟩ := RepV.cells hust (fun k hk => hI.one k (hbu k hk)) hru
                obtain ⟨hs', _, _, told, _⟩ := conv_ok hst hI.sto hcv (hs := []) rfl hd2
                have hnt : old.t.toks = [] := by
                  have := Ty.closed_toks hcl
                  rw [this] at htt
                  exact List.eq_nil_iff_forall_not_mem.2 fun k hk => by simpa using htt k hk
                have hd3 : ∀ fz' : Nat → Prop, (∀ b, fz b → fz' b) → (∀ j ∈ ca.f, ∀ c b, σ j = some c → blkOf (φ j) = some b → fz' b) → RepC w fz' (fun b => True) noTok old.t cx d' := by
                  intro fz' h1 h2
                  have := told fz' (fun _ => True) (fun j => (lk j hs').getD undef) ⟨h1, fun _ _ => .inr trivial, h2, fun _ _ _ _ _ _ => .inr trivial⟩ (fun j v hv => by rw [hv]; rfl)
                  exact this.toks (by rw [hnt]; simp)
                have hdl : d.length = old.t.sz := hdr.len
                have hdl2 : d'.length = old.t.sz := (hd3 (fun _ => True) (fun _ _ => trivial) (fun _ _ _ _ _ _ => trivial)).len
                have hdl' : d'.length = d.length := by rw [hdl2, hdl]
                have hsze : (c ++ (d ++ e')).length = e.sz := hc.len
                have hat2 : ∀ j v, (c ++ (d ++ e'))[j]? = some v → ar.toList[off + xn * e.sz + j]? = some v := by intro j v hj; rw [Array.getElem?_toList]; exact hat' j v hj
                have hfit : off + xn * e.sz + q + d'.length ≤ ar.toList.length := by
                  have := splice_fit hat2 hcl' (by rw [← hdl', hd2.len, husz]; exact hpos)
                  rw [hdl', nbeq_eq hqq]; exact this
                have hes := nbeq_eq hes
                subst hes
                have hrun := run_store_rep ht hg hd1 (by rw [hd2.len, husz]) (by simpa using hfit) (RepC.one (fun k hk => hI.one k (hbu k hk)) hd2)
                have hBk : blkOf (φ k) = some B := by rw [hφ]; simp only [blkOf]; rw [if_neg (by omega)]
                obtain ⟨rfl, hz2⟩ : z.t = e ∧ HEq z.x z2 := castD_ok hz2
                obtain ⟨tz, zx⟩ := z
                simp only [] at hz2
                cases hz2
                obtain ⟨fz', hI'⟩ := hI.write (w' := w.setRow B (ar.toList.take (off + xn * tz.sz + q) ++ d' ++ ar.toList.drop (off + xn * tz.sz + q + d'.length)).toArray) (c' := .arr tz (l.set xn zx)) hσk hBk
                  (setRow_size _ _ _) rfl rfl rfl (fun b hb => setRow_other w B b _ hb) (kl := ca.f)
                  (by
                    intro hmem
                    have : elemN k ca.f = true := elemN_of_mem hmem
                    rw [hkf] at this; cases this)
                  (by
                    intro fz' hf hkl
                    have hnB : ∀ b, fz b → (w.setRow B (ar.toList.take (off + xn * tz.sz + q) ++ d' ++ ar.toList.drop (off + xn * tz.sz + q + d'.length)).toArray).heap[b]? = w.heap[b]? := by
                      intro b hb
                      refine setRow_other w B b _ fun e => ?_
                      subst e; exact (hI.own k _ b hσk hBk).1 hb
                    have hnB2 : ∀ b, (fz b ∨ ∃ j ∈ ca.f, ∃ c, σ j = some c ∧ blkOf (φ j) = some b) → (w.setRow B (ar.toList.take (off + xn * tz.sz + q) ++ d' ++ ar.toList.drop (off + xn * tz.sz + q + d'.length)).toArray).heap[b]? = w.heap[b]? := by
                      rintro b (hb | ⟨j, hj, cj, q1, q2⟩)
                      · exact hnB b hb
                      · refine setRow_other w B b _ fun e => ?_
                        subst e
                        have hm2 := elemN_of_mem hj
                        rw [hI.inj j k cj _ b q1 hσk q2 hBk, hkf] at hm2
                        cases hm2
                    refine ⟨hcl, hpe, some ⟨B, off, none⟩, c0, by rw [hφ, List.length_set, hN], by rw [List.length_set]; omega, .inr ⟨B, off, ety, _, rfl, setRow_heap w B ar _ ety (0, 0) hg, ?_, ?_⟩⟩
                    · have : ar.toList.length = ar.size := Array.length_toList
                      have hcap' : off + c0 * tz.sz ≤ ar.size := hcap
                      have hfit' : off + xn * tz.sz + q + d'.length ≤ ar.toList.length := hfit
                      simp only [List.size_toArray, List.length_append, List.length_take, List.length_drop]
                      omega
                    · intro m y hm
                      by_cases hmx : m = xn
                      · subst hmx
                        have hy : y = zx := by
                          rw [List.getElem?_set_self (by omega)] at hm
                          injection hm with hm; exact hm.symm
                        subst hy
                        have h3 := hd3 (fun b => fz b ∨ ∃ j ∈ ca.f, ∃ c, σ j = some c ∧ blkOf (φ j) = some b) (fun b h => .inl h) (fun j hj c b h1 h2 => .inr ⟨j, hj, c, h1, h2⟩)
                        have hc2 : RepC w (fun b => fz b ∨ ∃ j ∈ ca.f, ∃ c, σ j = some c ∧ blkOf (φ j) = some b) (fun _ => True) noTok tz (l.getD m tz.dflt) (c ++ (d ++ e')) := hc.zone (fun b h => .inl h) (fun _ _ => .inr trivial) (fun _ _ => rfl)
                        obtain ⟨g1, _, _⟩ := setP_spec hold hq hz hc2 hcl' hdl h3 rfl
                        refine ⟨c ++ (d' ++ e'), RepC.closed hnB2 ?_ hcl g1, ?_⟩
                        · rintro b (hb | ⟨j, hj, cj, q1, q2⟩)
                          · exact hf b hb
                          · exact hkl j hj cj b q1 q2
                        · intro j v hj
                          have := splice_get hat2 (q := q) (by rw [hcl', nbeq_eq hqq]) hdl' j v hj
                          simpa using this
                      · have hm : l[m]? = some y := by rw [List.getElem?_set_ne (by omega)] at hm; exact hm
                        obtain ⟨ys2, g1, g2⟩ := hat m y hm
                        have hml := (List.getElem?_eq_some_iff.1 hm).1
                        refine ⟨ys2, RepC.closed hnB hf hcl g1, fun j v hj => ?_⟩
                        have hjl : j < tz.sz := by rw [← g1.len]; exact (List.getElem?_eq_some_iff.1 hj).1
                        have hqd : q + d'.length ≤ tz.sz := by
                          rw [← hsze, hdl', nbeq_eq hqq, ← hcl']; simp only [List.length_append]; omega
                        have far : off + m * tz.sz + j < off + xn * tz.sz + q ∨ off + xn * tz.sz + q + d'.length ≤ off + m * tz.sz + j := by
                          rcases Nat.lt_or_gt_of_ne hmx with h | h
                          · left
                            have : (m + 1) * tz.sz ≤ xn * tz.sz := Nat.mul_le_mul_right _ h
                            rw [Nat.add_mul, Nat.one_mul] at this; omega
                          · right
                            have : (xn + 1) * tz.sz ≤ m * tz.sz := Nat.mul_le_mul_right _ h
                            rw [Nat.add_mul, Nat.one_mul] at this; omega
                        have := splice_far hfit far
                        rw [List.getElem?_toArray, this, Array.getElem?_toList]
                        exact g2 j v hj)
                  (by simp [Cell.toks]) hd (d := undefPV) (v := undef) (fun _ => rfl) rfl
                obtain ⟨φ'', _, hI''⟩ := hI'.bornMono (born' := bornTo born nx) (fun k hk => .inl hk)
                exact wp_done (ex a w _ (by rw [he]; exact hrun)) (hnext _ _ _ _ hI'')
              · cases h
            · cases h
          · cases h
        · cases h
      · cases h
    · cases h
  | _ => simp only [] at h; cases h
end
end Go.Pv
