/- Pv: copy. -/
import Derived.Test.YtdkinmgpclbedaaDoorPvSlice2
import Derived.Laws.CopyRow
import Derived.Laws.IdiomCopy
set_option linter.unusedVariables false
set_option linter.unusedSimpArgs false
namespace Go.Pv
open Go Go.RowKit
section
variable {P : Program} {R : Type} {r : R} {o : Oper} {rd : Operand → Option PV} {st : Sg} {nx : Nat} {K : Dl → Option R}

theorem cpy_len {α : Type} {x y : List α} {o n : Nat} (h1 : o + n ≤ x.length) (h2 : n ≤ y.length) : (cpy x o n y).length = x.length := by
  simp only [cpy, List.length_append, List.length_take, List.length_drop]; omega
theorem cpy_get {α : Type} {x y : List α} {o n : Nat} (h1 : o + n ≤ x.length) (h2 : n ≤ y.length) {i : Nat} {v : α} (h : (cpy x o n y)[i]? = some v) :
    (o ≤ i ∧ i < o + n ∧ y[i - o]? = some v) ∨ ((i < o ∨ o + n ≤ i) ∧ x[i]? = some v) := by
  unfold cpy at h
  by_cases c : i < o
  · right
    rw [List.getElem?_append_left (by rw [List.length_take]; omega), List.getElem?_take, if_pos c] at h
    exact ⟨.inl c, h⟩
  · rw [List.getElem?_append_right (by rw [List.length_take]; omega), List.length_take, Nat.min_eq_left (by omega)] at h
    by_cases c2 : i < o + n
    · left
      rw [List.getElem?_append_left (by rw [List.length_take]; omega), List.getElem?_take, if_pos (by omega)] at h
      exact ⟨by omega, c2, h⟩
    · right
      rw [List.getElem?_append_right (by rw [List.length_take]; omega), List.length_take, Nat.min_eq_left h2, List.getElem?_drop, show o + n + (i - o - n) = i by omega] at h
      exact ⟨.inr (by omega), h⟩
theorem cpy_zero {α : Type} {x y : List α} {o : Nat} : cpy x o 0 y = x := by simp [cpy]
theorem own_sub {w : World} {fz bz : Nat → Prop} {h : Value} {e : Ty} {l : List e.D} (ha : ArrAt w fz bz h e l) : SubHdr h e.sz 0 l.length h := by
  obtain ⟨A, c, rfl, hlc, _⟩ := ha
  refine ⟨A, l.length, c, A, rfl, by omega, rfl, .inr ?_⟩
  cases A with
  | none => rfl
  | some ad => simp [Addr.add]
theorem updS_same {σ : Sg} {k : Nat} {c : Cell} (h : σ k = some c) : updS σ [(k, some c)] = σ := by
  funext j
  rw [updS_cons]
  by_cases e : k = j
  · rw [if_pos e, ← e, h]
  · rw [if_neg e]; rfl

theorem row_in {α : Type} {L cs : List α} {o i : Nat} (hf : o + cs.length ≤ L.length) (h : o ≤ i) (h2 : i < o + cs.length) : (L.take o ++ cs ++ L.drop (o + cs.length))[i]? = cs[i - o]? := by
  rw [List.append_assoc, List.getElem?_append_right (by rw [List.length_take]; omega), List.length_take, Nat.min_eq_left (by omega), List.getElem?_append_left (by omega)]
theorem row_out {α : Type} {L cs : List α} {o i : Nat} (hf : o + cs.length ≤ L.length) (h : i < o ∨ o + cs.length ≤ i) : (L.take o ++ cs ++ L.drop (o + cs.length))[i]? = L[i]? := by
  rcases h with h | h
  · rw [List.append_assoc, List.getElem?_append_left (by rw [List.length_take]; omega), List.getElem?_take, if_pos h]
  · rw [List.getElem?_append_right (by rw [List.length_append, List.length_take]; omega), List.getElem?_drop, List.length_append, List.length_take, Nat.min_eq_left (by omega)]
    congr 1; omega
theorem copy_core {c : Call} {t t2 e : Nat} {i i1 : TInfo} {v u : PV} (ho : o.op = .call c) (hb : c.callee = .builtin .copy) (hts : c.argTypes = #[t, t2]) (ht : TOk P t i1) (hk1 : i1.k = .sl e) (hi : TOk P e i) (hi1 : i.sz = 1)
    (hl : rds rd c.args.toList = some [v, u]) {k : Nat} {ee : Ty} {x y : List ee.D} (hs : st k = some (.arr ee x)) (he1 : ee.sz = 1) (hy : lst st ee u = some y) {oo m : Nat}
    (hv : ∀ (F : Fix) (ρ : Rd) (σ : Sg) (born : Nat → Prop) (a : Act) (w : World) (φ : Nat → Value) (fz : Nat → Prop), Inv F ρ σ born a w φ fz → (∀ k c, st k = some c → σ k = some c) → ∀ cv, RepV w fz F.bz φ v.t v.x cv → SubHdr (φ k) ee.sz oo m cv) :
    OpOk P o rd st nx ⟨⟨.int .i64, ((min y.length m : Nat) : Int)⟩, [(k, some (.arr ee (cpy x oo (min y.length m) y)))]⟩ := by
  intro F ρ σ born a w φ fz hI hrd hst hfresh hd next Q hnext
  obtain ⟨hall, hbn⟩ := rds_all hl hI (fun z q hz hq => hrd z q (by rw [ho]; exact call_operands hz) hq)
  obtain ⟨cv, us, he, r1, cu, us2, he2, r2, he3⟩ := hall
  subst he2
  simp only [RepAll] at he3; subst he3
  have hargs : c.args.map a.eval = #[cv, cu] := by apply Array.ext'; simpa using he
  have hsub := hv F ρ σ born a w φ fz hI hst cv r1
  have hσk := hst _ _ hs
  have hcell := hI.sto k _ hσk
  obtain ⟨hcl, hpe, harr⟩ := hcell
  obtain ⟨ho1, harr1, _⟩ := sub_arr (hI.sto k _ hσk) hsub
  have hsrc := flat_bor hpe (lst_val hI hst hy r2)
  obtain ⟨A2, c2, cs2, rfl, hlc2, hfl2, hat2⟩ := hsrc
  obtain ⟨A, N, c0, A', hφk, hN, rfl, hA⟩ := hsub
  have hNl : N = x.length := by obtain ⟨A3, c3, h3, _⟩ := harr; rw [hφk] at h3; injection h3
  obtain ⟨j, hj, hjs, _⟩ := hi.info
  have hjz : (P.info? e).map (·.size) = some 1 := by rw [hj]; simp [hjs, hi1]
  have ex : ∀ w' : World, (Builtin.copy_ #[t, t2] o.type #[.slice A' m (c0 - oo), .slice A2 y.length c2]).run P w = .ok (goInt ((min y.length m : Nat) : Int)) w' → (execOp a.eval o).run P w = .ok (.value (.int .i64 ((min y.length m : Nat) : Int))) w' := by
    intro w' hrun
    simp only [execOp, ho, resolve, hb, invoke, builtin, hargs, hts]
    simp [hrun, goInt]
  by_cases h0 : min y.length m = 0
  · have hrun := run_copy_none (P := P) w t t2 o.type e A' A2 m (c0 - oo) y.length c2 (ht.slice hk1) hjz (by simpa using h0)
    have e0 : goInt 0 = goInt ((min y.length m : Nat) : Int) := by rw [h0]; rfl
    rw [e0] at hrun
    obtain ⟨φ', _, hI'⟩ := (hI.put (d := ⟨.int .i64, ((min y.length m : Nat) : Int)⟩) hd (by simp [RepV, RepV0, RepC]; rfl) (by simp [Ty.toks])).bornMono (born' := bornTo born nx) (fun k hk => .inl hk)
    refine wp_value (ex w hrun) (hnext _ w φ' fz ?_)
    have : updS σ [(k, some (.arr ee (cpy x oo (min y.length m) y)))] = σ := by rw [h0, cpy_zero]; exact updS_same hσk
    rw [this]
    exact hI'
  · obtain ⟨B, off, c1, ety, ar, hφ, hlc, hg, hcap, hel⟩ := harr.get (by omega)
    rw [hφk] at hφ
    injection hφ with eA eN ec
    subst eA; subst ec
    rcases hA with hA | rfl
    · omega
    rcases hat2 with hz | ⟨B2, off2, rfl, hcs2⟩
    · omega
    have hcs2l : cs2.length = y.length := by rw [hfl2.1, he1, Nat.mul_one]
    have hone := hfl2.one hpe hcl
    obtain ⟨n, hnn⟩ : ∃ n, n = min y.length m := ⟨_, rfl⟩
    rw [← hnn] at h0 ex hnext
    have hny : n ≤ y.length := by omega
    have hnm : n ≤ m := by omega
    obtain ⟨cs, hcs⟩ : ∃ cs, cs = cs2.take n := ⟨_, rfl⟩
    have hlen : cs.length = n := by rw [hcs, List.length_take]; omega
    have hn : cs.length = Nat.min y.length m := by rw [hlen, hnn]
    have hcsg : ∀ q, q < n → cs[q]? = cs2[q]? := by intro q hq; rw [hcs, List.getElem?_take, if_pos hq]
    have hadd : (some (⟨B, off, none⟩ : Addr)).map (fun ad => ad.add (oo * ee.sz)) = some ⟨B, off + oo, none⟩ := by simp [Addr.add, he1]
    have hcap' : off + c0 ≤ ar.size := by rw [he1, Nat.mul_one] at hcap; exact hcap
    have hL : ar.toList.length = ar.size := Array.length_toList
    have hrun := run_copy_row (P := P) w t t2 o.type e B (off + oo) m (c0 - oo) ⟨B2, off2, none⟩ y.length c2 ar ety cs (ht.slice hk1) hjz hg hn
      (fun q u hq => by
        rw [Addr.add_lit]
        have hqn : q < n := by rw [← hlen]; exact (List.getElem?_eq_some_iff.1 hq).1
        rw [hcsg q hqn] at hq
        exact hcs2 q u hq)
      (by omega) (fun v hv => hone v (by rw [hcs] at hv; exact List.mem_of_mem_take hv))
    have hBk : blkOf (φ k) = some B := by rw [hφk]; simp only [blkOf]; rw [if_neg (by omega)]
    obtain ⟨new, hnew⟩ : ∃ new, new = (ar.toList.take (off + oo) ++ cs ++ ar.toList.drop (off + oo + cs.length)) := ⟨_, rfl⟩
    rw [← hnew] at hrun
    have hset := setRow_heap w B ar new.toArray ety (0, 0) hg
    have hsize : new.length = ar.size := by
      rw [hnew]
      simp only [List.length_append, List.length_take, List.length_drop]
      omega
    obtain ⟨fz', hI'⟩ := hI.write (w' := w.setRow B new.toArray) (c' := .arr ee (cpy x oo n y)) hσk hBk
      (setRow_size _ _ _) rfl rfl rfl (fun b hb => setRow_other w B b _ hb) (kl := []) (by simp)
      (by
        intro fz' hf _
        have hnB : ∀ b, fz b → (w.setRow B new.toArray).heap[b]? = w.heap[b]? := by
          intro b hb
          refine setRow_other w B b _ fun e => ?_
          subst e; exact (hI.own k _ b hσk hBk).1 hb
        refine ⟨hcl, hpe, some ⟨B, off, none⟩, c0, ?_, ?_, .inr ⟨B, off, ety, _, rfl, hset, ?_, ?_⟩⟩
        · rw [cpy_len (by omega) hny, hφk, hNl]
        · rw [cpy_len (by omega) hny]; omega
        · rw [List.size_toArray, hsize, he1, Nat.mul_one]; exact hcap'
        · intro q z hq
          rw [he1, Nat.mul_one]
          rcases cpy_get (by omega) hny hq with ⟨g1, g2, g3⟩ | ⟨g1, g3⟩
          · obtain ⟨ys, p1, p2⟩ := hfl2.2 (q - oo) z g3
            refine ⟨ys, RepC.closed hnB hf hcl p1, fun d v hv => ?_⟩
            have hd0 : d < 1 := by rw [← he1, ← p1.len]; exact (List.getElem?_eq_some_iff.1 hv).1
            obtain rfl : d = 0 := by omega
            have := p2 0 v hv
            rw [he1, Nat.mul_one, Nat.add_zero] at this
            rw [Nat.add_zero, List.getElem?_toArray, hnew, row_in (by omega) (by omega) (by omega), show off + q - (off + oo) = q - oo by omega, hcsg _ (by omega)]
            exact this
          · obtain ⟨ys, p1, p2⟩ := hel q z g3
            refine ⟨ys, RepC.closed hnB hf hcl p1, fun d v hv => ?_⟩
            have hd0 : d < 1 := by rw [← he1, ← p1.len]; exact (List.getElem?_eq_some_iff.1 hv).1
            obtain rfl : d = 0 := by omega
            have := p2 0 v hv
            rw [he1, Nat.mul_one, Nat.add_zero] at this
            rw [Nat.add_zero, List.getElem?_toArray, hnew, row_out (by omega) (by omega), Array.getElem?_toList]
            exact this)
      (by simp [Cell.toks]) hd (d := ⟨.int .i64, (n : Int)⟩) (v := .int .i64 (n : Int)) (fun _ => by simp [RepV, RepV0, RepC]) rfl
    obtain ⟨φ'', _, hI''⟩ := hI'.bornMono (born' := bornTo born nx) (fun k hk => .inl hk)
    have ex2 := ex (w.setRow B new.toArray)
    rw [hadd] at ex2
    rw [hlen] at hrun
    exact wp_value (ex2 hrun) (hnext _ _ _ _ hI'')
theorem ok_copy {c : Call} {t t2 e : Nat} {i i1 : TInfo} {v u : PV} (ho : o.op = .call c) (hb : c.callee = .builtin .copy) (hts : c.argTypes = #[t, t2]) (ht : TOk P t i1) (hk1 : i1.k = .sl e) (hi : TOk P e i)
    (hl : rds rd c.args.toList = some [v, u]) (h : evCopy i st v u K = some r) : Res P o rd st nx K r := by
  unfold evCopy at h
  obtain ⟨hi1, h⟩ := cond_some h
  split at h
  · rename_i k e0 xu xv
    split at h
    · rename_i ee x hs
      obtain ⟨he1, h⟩ := cond_some h
      split at h
      · rename_i y hy
        refine ⟨_, h, copy_core ho hb hts ht hk1 hi (nbeq_eq hi1) hl hs (nbeq_eq he1) hy ?_⟩
        intro F ρ σ born a w φ fz hI hst cv hr
        simp only [RepV, RepV0, RepC] at hr
        injection hr with hr
        subst hr
        exact own_sub (hI.sto k _ (hst _ _ hs)).2.2
      · cases h
    · cases h
  · rename_i k e0 p
    split at h
    · rename_i ee x hs
      obtain ⟨he1, h⟩ := cond_some h
      obtain ⟨he2, h⟩ := cond_some h
      split at h
      · rename_i y hy
        refine ⟨_, h, copy_core ho hb hts ht hk1 hi (nbeq_eq hi1) hl hs (nbeq_eq he1) hy ?_⟩
        intro F ρ σ born a w φ fz hI hst cv hr
        simp only [RepV, RepV0, RepC] at hr
        obtain ⟨v, hv, hs2⟩ := hr
        injection hv with hv
        subst hv
        rw [nbeq_eq he2] at hs2
        exact hs2
      · cases h
    · cases h
  · cases h
end
end Go.Pv
