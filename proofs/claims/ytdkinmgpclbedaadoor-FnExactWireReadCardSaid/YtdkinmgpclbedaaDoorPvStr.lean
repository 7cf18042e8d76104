/- Pv: bytes turned to a string. -/
import Derived.Test.YtdkinmgpclbedaaDoorPvSlice2
import Derived.Laws.IdiomStrings
set_option linter.unusedVariables false
set_option linter.unusedSimpArgs false
namespace Go.Pv
open Go Go.RowKit
section
variable {P : Program} {R : Type} {r : R} {o : Oper} {rd : Operand → Option PV} {st : Sg} {nx : Nat} {K : Dl → Option R}

theorem allByte_ok : ∀ {l : List Int}, allByte l = true → ∀ x ∈ l, 0 ≤ x ∧ x < 256
  | [], _, x, h => by cases h
  | y :: l, h, x, hx => by
    have h1 := cond_true_of h
    have h2 := cond_true_of h1.2
    rcases List.mem_cons.1 hx with rfl | hx
    · exact ⟨of_decide_eq_true h1.1, of_decide_eq_true h2.1⟩
    · exact allByte_ok h2.2 x hx
theorem ok_toStr {x : Operand} {s t e : Nat} {i i2 i3 : TInfo} {v : PV} {l : List Int} (ho : o.op = .convert s t x) (hs : TOk P s i) (hk : i.k = .sl e) (ht : TOk P t i2) (hk2 : i2.k = .str) (he : TOk P e i3) (hk3 : i3.k = .int .u8)
    (hx : rd x = some v) (hl : lst st (.int .u8) v = some l) (hb : inBytes l = true) : OpOk P o rd st nx ⟨⟨.str, mkBytes l⟩, []⟩ := by
  have hm : x ∈ o.op.operands.toList := by rw [ho]; simp [Op.operands]
  refine OpOk.pure fun F ρ σ born a w φ fz hI hrd hst => ?_
  have hr := hI.rd (hrd x _ hm hx)
  have hv := lst_val hI hst hl hr
  simp only [RepC] at hv
  obtain ⟨A, c, he1, hlc, h0⟩ := hv
  injection he1 with he1
  have hne : l ≠ [] := by rintro rfl; cases hb
  have hab : allByte l = true := by
    unfold inBytes at hb
    split at hb
    · cases hb
    · exact hb
  have hlen : l.length ≠ 0 := fun h => hne (List.length_eq_zero_iff.1 h)
  rcases h0 with h0 | ⟨B, off, rfl, _, hc⟩
  · exact (hlen h0).elim
  refine ⟨.string (mkBytes l), ?_, rep_str.2 rfl, by simp [Ty.toks]⟩
  have hL : (l.map fun x => UInt8.ofNat x.toNat).length = l.length := List.length_map ..
  have hcv := run_convert_bytes_back (P := P) w s t e ⟨B, off, none⟩ c (l.map fun x => UInt8.ofNat x.toNat) (hs.slice hk) (he.int hk3) (ht.string hk2) (fun j hj => by
    rw [hL] at hj
    obtain ⟨ys, g1, g2⟩ := hc j l[j] (List.getElem?_eq_getElem hj)
    subst g1
    have g3 := g2 0 _ rfl
    have e1 : Ty.sz (.int .u8) = 1 := rfl
    rw [e1, Nat.mul_one, Nat.add_zero] at g3
    obtain ⟨q1, q2⟩ := allByte_ok hab l[j] (List.getElem_mem hj)
    have e2 : ((Addr.mk B off none).add j) = ⟨B, off + j, none⟩ := by simp [Addr.add]
    rw [e2, g3]
    congr 2
    rw [List.getElem_map, UInt8.toNat_ofNat']
    omega)
  rw [hL] at hcv
  simp only [execOp, ho, he1, hcv, Sem.run_bind, Result.andThen_ok, Sem.run_pure]
  rfl
end
end Go.Pv
