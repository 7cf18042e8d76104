/- Pv: clear. -/
import Derived.Test.YtdkinmgpclbedaaDoorPvCopy
import Derived.Test.YtdkinmgpclbedaaDoorPvBuild
set_option linter.unusedVariables false
set_option linter.unusedSimpArgs false
namespace Go.Pv
open Go Go.RowKit
section
variable {P : Program} {R : Type} {r : R} {o : Oper} {rd : Operand → Option PV} {st : Sg} {nx : Nat} {K : Dl → Option R}

theorem zeroCells_one {z : Array Value} {v : Value} (h : z = #[v]) (n : Nat) : (Builtin.zeroCells z n).toList = List.replicate n v := by
  subst h
  apply List.ext_getElem?
  intro j
  simp only [Builtin.zeroCells, List.getElem?_replicate, Array.getElem?_toList, Array.getElem?_map, Array.getElem?_range]
  have e : (#[v] : Array Value).size = 1 := rfl
  rw [e, Nat.mul_one]
  by_cases c : j < n
  · rw [if_pos c, if_pos c, Option.map_some, Nat.mod_one]; rfl
  · rw [if_neg c, if_neg c]; rfl
theorem run_clear_none (w : World) (t ty elem : TypeId) (A : Option Addr) (c : Nat) (hu : P.underlying t = some (.slice elem)) :
    (Builtin.clear_ #[t] ty #[.slice A 0 c]).run P w = .ok (.tuple #[]) w := by
  cases A <;> simp [Builtin.clear_, run_underlying hu]
theorem run_clear_row (w : World) (t ty elem : TypeId) (g o m c : Nat) (cur : Array Value) (tt : TypeId) (j : TypeInfo) (zv u : Value) (hu : P.underlying t = some (.slice elem))
    (hj : P.info? elem = some j) (hz : j.zero = some zv) (hzc : zv.cells = #[u]) (hg : w.heap[g]? = some (.cells cur tt (0, 0))) (hfit : o + m ≤ cur.size) (h1 : u.oneCell' = true) (hm : 0 < m) :
    (Builtin.clear_ #[t] ty #[.slice (some ⟨g, o, none⟩) m c]).run P w = .ok (.tuple #[]) (w.setRow g (cur.toList.take o ++ List.replicate m u ++ cur.toList.drop (o + m)).toArray) := by
  obtain ⟨m, rfl⟩ : ∃ q, m = q + 1 := ⟨m - 1, by omega⟩
  have hst := run_storeCells_at (P := P) g o tt (List.replicate (m + 1) u) 0 cur w hg (by rw [List.length_replicate]; omega) (by intro v hv; rw [List.eq_of_mem_replicate hv]; exact h1)
  rw [List.length_replicate, Nat.add_zero] at hst
  simp [Builtin.clear_, run_underlying hu, zeroValue, typeInfo, hj, hz, zeroCells_one hzc, hst]
theorem clear_core {c : Call} {t e : Nat} {i i1 : TInfo} {v : PV} (ho : o.op = .call c) (hb : c.callee = .builtin .clear) (hts : c.argTypes = #[t]) (ht : TOk P t i1) (hk1 : i1.k = .sl e) (hi : TOk P e i) (hi1 : i.sz = 1)
    (hl : rds rd c.args.toList = some [v]) {k : Nat} {x : List i.ty.D} (hs : st k = some (.arr i.ty x)) {z : i.ty.D} (hz : zeroOf st i = some z) {oo m : Nat}
    (hv : ∀ (F : Fix) (ρ : Rd) (σ : Sg) (born : Nat → Prop) (a : Act) (w : World) (φ : Nat → Value) (fz : Nat → Prop), Inv F ρ σ born a w φ fz → (∀ k c, st k = some c → σ k = some c) → ∀ cv, RepV w fz F.bz φ v.t v.x cv → SubHdr (φ k) i.ty.sz oo m cv) :
    OpOk P o rd st nx ⟨⟨.tup .unit, ()⟩, [(k, some (.arr i.ty (cpy x oo m (List.replicate m z))))]⟩ := by
  intro F ρ σ born a w φ fz hI hrd hst hfresh hd next Q hnext
  obtain ⟨hall, hbn⟩ := rds_all hl hI (fun z q hz hq => hrd z q (by rw [ho]; exact call_operands hz) hq)
  obtain ⟨cv, us, he, r1, he2⟩ := hall
  simp only [RepAll] at he2; subst he2
  have hargs : c.args.map a.eval = #[cv] := by apply Array.ext'; simpa using he
  have he1 : i.ty.sz = 1 := by rw [hi.tsz]; exact hi1
  have hsub := hv F ρ σ born a w φ fz hI hst cv r1
  have hσk := hst _ _ hs
  have hcell := hI.sto k _ hσk
  obtain ⟨hcl, hpe, harr⟩ := hcell
  obtain ⟨ho1, harr1, _⟩ := sub_arr (hI.sto k _ hσk) hsub
  obtain ⟨A, N, c0, A', hφk, hN, rfl, hA⟩ := hsub
  have hNl : N = x.length := by obtain ⟨A3, c3, h3, _⟩ := harr; rw [hφk] at h3; injection h3
  obtain ⟨j, zv, hj, hjs, hjb, hjz, hzs, hzr⟩ := zeroOf_ok hI hst hi hz
  rw [hi1] at hzs
  obtain ⟨u, hzc⟩ : ∃ u, zv.cells = #[u] := Array.size_eq_one_iff.1 hzs
  have hone : u.oneCell' = true := RepC.one (fun k hk => by rw [Ty.closed_toks hi.cl] at hk; cases hk) hzr u (by rw [hzc]; simp)
  have ex : ∀ w' : World, (Builtin.clear_ #[t] o.type #[.slice A' m (c0 - oo)]).run P w = .ok (.tuple #[]) w' → (execOp a.eval o).run P w = .ok (.value (.tuple #[])) w' := by
    intro w' hrun
    simp only [execOp, ho, resolve, hb, invoke, builtin, hargs, hts]
    simp [hrun]
  by_cases h0 : m = 0
  · subst h0
    have hrun := run_clear_none (P := P) w t o.type e A' (c0 - oo) (ht.slice hk1)
    obtain ⟨φ', _, hI'⟩ := (hI.put (d := ⟨.tup .unit, ()⟩) (v := .tuple #[]) hd ⟨[], rfl, rfl⟩ (by simp [Ty.toks])).bornMono (born' := bornTo born nx) (fun k hk => .inl hk)
    refine wp_value (ex w hrun) (hnext _ w φ' fz ?_)
    have : updS σ [(k, some (.arr i.ty (cpy x oo 0 (List.replicate 0 z))))] = σ := by rw [cpy_zero]; exact updS_same hσk
    rw [this]
    exact hI'
  · obtain ⟨B, off, c1, ety, ar, hφ, hlc, hg, hcap, hel⟩ := harr.get (by omega)
    rw [hφk] at hφ
    injection hφ with eA eN ec
    subst eA; subst ec
    rcases hA with hA | rfl
    · omega
    have hadd : (some (⟨B, off, none⟩ : Addr)).map (fun ad => ad.add (oo * i.ty.sz)) = some ⟨B, off + oo, none⟩ := by simp [Addr.add, he1]
    have hcap' : off + c0 ≤ ar.size := by rw [he1, Nat.mul_one] at hcap; exact hcap
    have hL : ar.toList.length = ar.size := Array.length_toList
    have hrun := run_clear_row (P := P) w t o.type e B (off + oo) m (c0 - oo) ar ety j zv u (ht.slice hk1) hj hjz hzc hg (by omega) hone (by omega)
    have hBk : blkOf (φ k) = some B := by rw [hφk]; simp only [blkOf]; rw [if_neg (by omega)]
    obtain ⟨cs, hcs⟩ : ∃ cs, cs = List.replicate m u := ⟨_, rfl⟩
    have hlen : cs.length = m := by rw [hcs, List.length_replicate]
    rw [← hcs, ← hlen] at hrun
    obtain ⟨new, hnew⟩ : ∃ new, new = (ar.toList.take (off + oo) ++ cs ++ ar.toList.drop (off + oo + cs.length)) := ⟨_, rfl⟩
    rw [← hnew] at hrun
    have hset := setRow_heap w B ar new.toArray ety (0, 0) hg
    have hsize : new.length = ar.size := by
      rw [hnew]
      simp only [List.length_append, List.length_take, List.length_drop]
      omega
    have hrl : (List.replicate m z).length = m := List.length_replicate
    obtain ⟨fz', hI'⟩ := hI.write (w' := w.setRow B new.toArray) (c' := .arr i.ty (cpy x oo m (List.replicate m z))) hσk hBk
      (setRow_size _ _ _) rfl rfl rfl (fun b hb => setRow_other w B b _ hb) (kl := []) (by simp)
      (by
        intro fz' hf _
        have hnB : ∀ b, fz b → (w.setRow B new.toArray).heap[b]? = w.heap[b]? := by
          intro b hb
          refine setRow_other w B b _ fun e => ?_
          subst e; exact (hI.own k _ b hσk hBk).1 hb
        refine ⟨hcl, hpe, some ⟨B, off, none⟩, c0, ?_, ?_, .inr ⟨B, off, ety, _, rfl, hset, ?_, ?_⟩⟩
        · rw [cpy_len (by omega) (by omega), hφk, hNl]
        · rw [cpy_len (by omega) (by omega)]; omega
        · rw [List.size_toArray, hsize, he1, Nat.mul_one]; exact hcap'
        · intro q zz hq
          rw [he1, Nat.mul_one]
          rcases cpy_get (by omega) (by omega) hq with ⟨g1, g2, g3⟩ | ⟨g1, g3⟩
          · rw [List.getElem?_replicate, if_pos (by omega)] at g3
            injection g3 with g3; subst g3
            refine ⟨zv.cells.toList, RepC.closed hnB hf hcl hzr, fun d v hv => ?_⟩
            rw [hzc] at hv
            have hd0 : d < 1 := (List.getElem?_eq_some_iff.1 hv).1
            obtain rfl : d = 0 := by omega
            rw [Nat.add_zero, List.getElem?_toArray, hnew, row_in (by omega) (by omega) (by omega), hcs, List.getElem?_replicate, if_pos (by omega)]
            exact hv
          · obtain ⟨ys, p1, p2⟩ := hel q zz g3
            refine ⟨ys, RepC.closed hnB hf hcl p1, fun d v hv => ?_⟩
            have hd0 : d < 1 := by rw [← he1, ← p1.len]; exact (List.getElem?_eq_some_iff.1 hv).1
            obtain rfl : d = 0 := by omega
            have := p2 0 v hv
            rw [he1, Nat.mul_one, Nat.add_zero] at this
            rw [Nat.add_zero, List.getElem?_toArray, hnew, row_out (by omega) (by omega), Array.getElem?_toList]
            exact this)
      (by simp [Cell.toks]) hd (d := ⟨.tup .unit, ()⟩) (v := .tuple #[]) (fun _ => ⟨[], rfl, rfl⟩) rfl
    obtain ⟨φ'', _, hI''⟩ := hI'.bornMono (born' := bornTo born nx) (fun k hk => .inl hk)
    have ex2 := ex (w.setRow B new.toArray)
    rw [hadd] at ex2
    rw [hlen] at hrun
    exact wp_value (ex2 hrun) (hnext _ _ _ _ hI'')
theorem ok_clear {c : Call} {t e : Nat} {i i1 : TInfo} {v : PV} (ho : o.op = .call c) (hb : c.callee = .builtin .clear) (hts : c.argTypes = #[t]) (ht : TOk P t i1) (hk1 : i1.k = .sl e) (hi : TOk P e i)
    (hl : rds rd c.args.toList = some [v]) (h : evClear i st v K = some r) : Res P o rd st nx K r := by
  unfold evClear at h
  obtain ⟨hi1, h⟩ := cond_some h
  split at h
  · rename_i z hz
    split at h
    · rename_i k e0 xu xv
      split at h
      · rename_i ee x hs
        split at h
        · rename_i y hy
          obtain ⟨rfl, hh⟩ := castD_ok hy
          obtain rfl := eq_of_heq hh
          refine ⟨_, h, clear_core ho hb hts ht hk1 hi (nbeq_eq hi1) hl hs hz ?_⟩
          intro F ρ σ born a w φ fz hI hst cv hr
          simp only [RepV, RepV0, RepC] at hr
          injection hr with hr
          subst hr
          exact own_sub (hI.sto k _ (hst _ _ hs)).2.2
        · cases h
      · cases h
    · rename_i k e0 p
      split at h
      · rename_i ee x hs
        obtain ⟨he2, h⟩ := cond_some h
        split at h
        · rename_i y hy
          obtain ⟨rfl, hh⟩ := castD_ok hy
          obtain rfl := eq_of_heq hh
          refine ⟨_, h, clear_core ho hb hts ht hk1 hi (nbeq_eq hi1) hl hs hz ?_⟩
          intro F ρ σ born a w φ fz hI hst cv hr
          simp only [RepV, RepV0, RepC] at hr
          obtain ⟨v, hv, hs2⟩ := hr
          injection hv with hv
          subst hv
          rw [nbeq_eq he2] at hs2
          exact hs2
        · cases h
      · cases h
    · cases h
  · cases h
end
end Go.Pv
