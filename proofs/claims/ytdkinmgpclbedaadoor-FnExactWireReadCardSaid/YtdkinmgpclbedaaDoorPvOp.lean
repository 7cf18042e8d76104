/- Pv, eighteenth text: every operation does what the evaluator says. -/
import Derived.Test.YtdkinmgpclbedaaDoorPvCall2
import Derived.Test.YtdkinmgpclbedaaDoorPvClear
import Derived.Test.YtdkinmgpclbedaaDoorPvStr
import Derived.Laws.Cover3
set_option linter.unusedVariables false
set_option linter.unusedSimpArgs false
namespace Go.Pv
open Go Go.RowKit

structure CxOk (P : Program) (C : Cx) : Prop where
  tt : TTOk P C.tt
  ents : TabOk P C.ents
  eqs : ∀ t ∈ C.eqs, EqOk P t

section
variable {P : Program} {R : Type} {r : R} {C : Cx} {o : Oper} {rd : Operand → Option PV} {st : Sg} {nx : Nat} {K : Dl → Option R}

theorem ok_indexS {t e : Nat} {i ei : TInfo} {x y : Operand} {kk : IntKind} {j : Int} {v : PV} (ho : o.op = .indexAddr t x y) (ht : TOk P t i) (hk : i.k = .sl e) (hei : TOk P e ei) (hx : rd x = some v) (hy : rd y = some ⟨.int kk, j⟩)
    (h : evIndexS st ei v j K = some r) : Res P o rd st nx K r := by
  unfold evIndexS at h
  split at h
  · obtain ⟨h1, h⟩ := cond_some h
    obtain ⟨h2, h⟩ := cond_some h
    exact ⟨_, h, ok_indexRead ho ht hk hei (.inl hx) hy h1 h2⟩
  · obtain ⟨h1, h⟩ := cond_some h
    obtain ⟨h2, h⟩ := cond_some h
    exact ⟨_, h, ok_indexRead ho ht hk hei (.inr hx) hy h1 h2⟩
  · split at h
    · rename_i hs
      obtain ⟨h1, h⟩ := cond_some h
      obtain ⟨h2, h⟩ := cond_some h
      exact ⟨_, h, ok_indexOwn ho ht hk hei hx hs hy h1 h2⟩
    · cases h
  · split at h
    · rename_i hs
      obtain ⟨h1, h⟩ := cond_some h
      obtain ⟨h3, h⟩ := cond_some h
      obtain ⟨h2, h⟩ := cond_some h
      exact ⟨_, h, ok_indexSub ho ht hk hei hx hs hy h1 h3 h2⟩
    · cases h
  · cases h

theorem ok_nil {t t' : Nat} {i : TInfo} {e : Nat} {x y : Operand} {v : PV} (ho : o.op = .binOp .eql t x y t') (ht : TOk P t i) (hk : i.k = .sl e) (hn : isNilC y = true) (hx : rd x = some v)
    (h : evNil st v K = some r) : Res P o rd st nx K r := by
  have hm : x ∈ o.op.operands.toList := by rw [ho]; simp [Op.operands]
  have hyn : y = .const (.slice none 0 0) := by
    unfold isNilC at hn
    split at hn
    · rfl
    · cases hn
  subst hyn
  have ex : ∀ (a : Act) (w : World) (A : Option Addr) (n c : Nat), a.eval x = .slice A n c → (execOp a.eval o).run P w = .ok (.value (.bool A.isNone)) w := by
    intro a w A n c he
    have e2 : a.eval (.const (.slice none 0 0)) = .slice none 0 0 := rfl
    simp only [execOp, ho, he, e2, Sem.run_bind]
    simp [eqGuard, binOp, run_equal_slice_nil (P := P) w t e A n c (ht.slice hk)]
  unfold evNil at h
  split at h
  · cases h
  rename_i hns
  have hlen : ∃ n, evLen st v (fun m => some m) = some n ∧ cond (decide (n = 0)) (K ⟨⟨.ubool, ()⟩, []⟩) (K ⟨⟨.bool, false⟩, []⟩) = some r := by
    unfold evLen at h ⊢
    split at h
    · exact ⟨_, rfl, h⟩
    · exact ⟨_, rfl, h⟩
    · split at h
      · exact ⟨_, rfl, h⟩
      · cases h
    · exact ⟨_, rfl, h⟩
    · exact ⟨_, rfl, h⟩
    · cases h
  obtain ⟨n, hl, h⟩ := hlen
  have hdr : ∀ (F : Fix) (ρ : Rd) (σ : Sg) (born : Nat → Prop) (a : Act) (w : World) (φ : Nat → Value) (fz : Nat → Prop), Inv F ρ σ born a w φ fz →
      (∀ x v, x ∈ o.op.operands.toList → rd x = some v → rdOf ρ x = some v) → (∀ k c, st k = some c → σ k = some c) →
      ∃ A c, a.eval x = .slice A n c ∧ (n ≠ 0 → A.isNone = false) := by
    intro F ρ σ born a w φ fz hI hrd hst
    have hr := hI.rd (hrd x _ hm hx)
    obtain ⟨tv, xv⟩ := v
    cases tv <;> simp only [evLen] at hl <;> first | (cases hl; done) | skip
    rename_i md e0
    cases md <;> simp only [] at hl
    · injection hl with hl
      simp only [RepV, RepV0, RepC] at hr
      obtain ⟨A, c, he, _, h0⟩ := hr
      injection he with he
      rw [hl] at he h0
      refine ⟨A, c, he, fun hne => ?_⟩
      rcases h0 with h0 | ⟨B, off, rfl, _⟩
      · exact (hne h0).elim
      · rfl
    · injection hl with hl
      simp only [RepV, RepV0, RepC] at hr
      obtain ⟨A, c, he, _, h0⟩ := hr
      injection he with he
      rw [hl] at he h0
      refine ⟨A, c, he, fun hne => ?_⟩
      rcases h0 with h0 | ⟨B, off, rfl, _⟩
      · exact (hne h0).elim
      · rfl
    · split at hl
      · rename_i e' l hs
        injection hl with hl
        simp only [RepV, RepV0, RepC] at hr
        injection hr with hr
        obtain ⟨_, _, A, c, hφ, hlc, h0⟩ := hI.sto _ _ (hst _ _ hs)
        rw [hr, hφ, hl]
        refine ⟨A, c, rfl, fun hne => ?_⟩
        rcases h0 with rfl | ⟨B, off, ety, ar, rfl, _⟩
        · omega
        · rfl
      · cases hl
    · exact (hns _ _ _ rfl).elim
    · injection hl with hl
      simp only [RepV, RepV0, RepC] at hr
      obtain ⟨A, he⟩ := hr
      injection he with he
      rw [he, ← hl]
      exact ⟨A, 0, rfl, fun h => (h rfl).elim⟩
  by_cases h0 : n = 0
  · rw [decide_eq_true h0] at h
    refine ⟨_, h, OpOk.pure fun F ρ σ born a w φ fz hI hrd hst => ?_⟩
    obtain ⟨A, c, he, _⟩ := hdr F ρ σ born a w φ fz hI hrd hst
    exact ⟨_, ex a w A n c he, ⟨_, rfl⟩, by simp [Ty.toks]⟩
  · rw [decide_eq_false h0] at h
    refine ⟨_, h, OpOk.pure fun F ρ σ born a w φ fz hI hrd hst => ?_⟩
    obtain ⟨A, c, he, hA⟩ := hdr F ρ σ born a w φ fz hI hrd hst
    refine ⟨_, ex a w A n c he, ?_, by simp [Ty.toks]⟩
    rw [hA h0]
    exact rep_bool.2 rfl
theorem evBuiltin_ok (hC : CxOk P C) {c : Call} {b : Builtin} {l : List PV} (ho : o.op = .call c) (hb : c.callee = .builtin b) (hl : rds rd c.args.toList = some l) (h : evBuiltin C b c.argTypes.toList st nx l K = some r) : Res P o rd st nx K r := by
  unfold evBuiltin at h
  split at h
  · -- len
    split at h
    · rename_i t ts hts
      split at h
      · rename_i i hi
        exact ok_len ho hb hts (hC.tt _ _ hi) hl h
      · cases h
    · cases h
  · split at h
    · rename_i t t2 hts
      split at h
      · rename_i e s1 b1 y1 z1 e2 s2 b2 y2 z2 h1 h2
        split at h
        · rename_i i hi
          exact ok_append ho hb (by apply Array.ext'; simpa using hts) (hC.tt _ _ h1) rfl (hC.tt _ _ h2) rfl (hC.tt _ _ hi) hl h
        · cases h
      · cases h
    · cases h
  · split at h
    · rename_i t t2 hts
      split at h
      · rename_i e s1 b1 y1 z1 h1
        split at h
        · rename_i i hi
          exact ok_copy ho hb (by apply Array.ext'; simpa using hts) (hC.tt _ _ h1) rfl (hC.tt _ _ hi) hl h
        · cases h
      · cases h
    · cases h
  · split at h
    · rename_i t hts
      split at h
      · rename_i e s1 b1 y1 z1 h1
        split at h
        · rename_i i hi
          exact ok_clear ho hb (by apply Array.ext'; simpa using hts) (hC.tt _ _ h1) rfl (hC.tt _ _ hi) hl h
        · cases h
      · cases h
    · cases h
  · obtain ⟨hk, h⟩ := cond_some h
    cases kbeq_eq hk
    have := ok_min (nx := nx) (P := P) (st := st) (b := true) ho (by simpa using hb) hl
    simp only [if_true] at this
    exact ⟨_, h, this⟩
  · obtain ⟨hk, h⟩ := cond_some h
    cases kbeq_eq hk
    have := ok_min (nx := nx) (P := P) (st := st) (b := false) ho (by simpa using hb) hl
    simp only [Bool.false_eq_true, if_false] at this
    exact ⟨_, h, this⟩
  · cases h

theorem evOp_ok (hC : CxOk P C) (h : evOp C o rd st nx K = some r) : Res P o rd st nx K r := by
  unfold evOp at h
  split at h
  · -- move
    rename_i x ho
    split at h
    · rename_i v hx; exact ⟨_, h, ok_move (.inl ho) hx⟩
    · cases h
  · rename_i x ho
    split at h
    · rename_i v hx; exact ⟨_, h, ok_move (.inr ho) hx⟩
    · cases h
  · rename_i c a b ho
    split at h
    · rename_i x u v h1 h2 h3
      exact ok_pick ho h1 h2 h3 h
    · cases h
  · rename_i t ho
    split at h
    · rename_i i hi; exact ⟨_, h, ok_alloc ho (hC.tt _ _ hi)⟩
    · cases h
  · rename_i t x ho
    split at h
    · rename_i v hx
      obtain ⟨hs, h⟩ := cond_some h
      exact ⟨_, h, ok_box ho hx hs⟩
    · cases h
  · -- build
    rename_i t ps ho
    split at h
    · rename_i i hi
      split at h
      · rename_i l hl
        split at h
        · rename_i fs hk
          split at h
          · rename_i pl hpl
            split at h
            · rename_i v hv
              exact ⟨_, h, ok_buildSt hC.tt ho (hC.tt _ _ hi) hk hl hpl hv⟩
            · cases h
          · cases h
        · rename_i n e hk
          split at h
          · rename_i ei hei
            split at h
            · rename_i v hv
              exact ⟨_, h, ok_buildAr ho (hC.tt _ _ hi) hk (hC.tt _ _ hei) hl hv⟩
            · cases h
          · cases h
        · cases h
      · cases h
    · cases h
  · -- buildSlice
    rename_i t n ps ho
    split at h
    · rename_i e s1 b1 y1 z1 hi1
      split at h
      · rename_i i hi
        obtain ⟨h0, h⟩ := cond_none h
        split at h
        · rename_i l hl
          obtain ⟨hn, h⟩ := cond_some h
          obtain ⟨hlim, h⟩ := cond_some h
          split at h
          · rename_i x f hx
            exact ⟨_, h, ok_buildSlice ho (hC.tt _ _ hi1) rfl (hC.tt _ _ hi) h0 hl hn (of_decide_eq_true hlim) hx⟩
          · cases h
        · cases h
      · cases h
    · cases h
  · -- load
    rename_i t x ho
    split at h
    · rename_i i v hi hx
      exact ok_load ho (hC.tt _ _ hi) hx h
    · cases h
  · rename_i t x y ho
    split at h
    · rename_i i v u hi hx hy
      exact ok_store ho (hC.tt _ _ hi) hx hy h
    · cases h
  · rename_i x ho
    split at h
    · rename_i v hx
      exact ok_nilCheck ho hx h
    · cases h
  · -- binOp
    rename_i op t x y t' ho
    split at h
    · rename_i u a v b hx hy
      split at h
      · rename_i fs s1 b1 y1 z1 hi
        obtain ⟨he, h⟩ := cond_some h
        split at h
        · rename_i q hq
          exact ok_eqSt hC.tt ho (hC.tt _ _ hi) rfl (hC.eqs _ (mem_of_elemN he)) hx hy hq h
        · cases h
      · cases h
    · rename_i a b hx hy
      split at h
      · rename_i s1 b1 y1 z1 hi
        exact ok_boolEq ho (hC.tt _ _ hi) rfl hx hy h
      · cases h
    · rename_i m e a e2 b2 hx hy
      obtain ⟨hn, h⟩ := cond_some h
      split at h
      · rename_i ee s1 b1 y1 z1 hi
        split at h
        · exact ok_nil ho (hC.tt _ _ hi) rfl hn hx h
        · cases h
      · cases h
    · rename_i u v _ _ _ hx hy
      obtain ⟨z, h1, h2⟩ := evBin_ok ho hx hy h
      exact ⟨_, h1, h2⟩
    · cases h
  · -- unOp
    rename_i op t x ho
    split at h
    · rename_i k n hx
      exact ⟨_, h, ok_neg ho hx⟩
    · rename_i b hx
      exact ⟨_, h, ok_not ho hx⟩
    · cases h
  · -- convert
    rename_i s t x ho
    split at h
    · rename_i si k s1 b1 y1 z1 j n h1 h2 h3
      obtain ⟨d, hd, _⟩ := (hC.tt _ _ h1).und
      exact ⟨_, h, ok_convert ho (hC.tt _ _ h2) rfl h3 ⟨d, hd⟩⟩
    · rename_i e s1 b1 y1 z1 s2 b2 y2 z2 v h1 h2 h3
      split at h
      · rename_i s3 b3 y3 z3 h4
        split at h
        · rename_i l hl
          obtain ⟨hb, h⟩ := cond_some h
          exact ⟨_, h, ok_toStr ho (hC.tt _ _ h1) rfl (hC.tt _ _ h2) rfl (hC.tt _ _ h4) rfl h3 hl hb⟩
        · cases h
      · cases h
    · cases h
  · -- makeFunc
    rename_i fn first cs ho
    split at h
    · rename_i f l h1 h2 h3
      obtain ⟨hp, h⟩ := cond_some h
      have hf : first = #[] := by apply Array.ext'; simpa using h2
      subst hf
      exact ⟨_, h, ok_makeFunc ho h3 hp⟩
    · cases h
  · -- makeSlice
    rename_i t x y ho
    split at h
    · rename_i e s1 b1 y1 z1 hi1
      split at h
      · rename_i i kn n km m hi hx hy
        split at h
        · rename_i z hz
          obtain ⟨h0, h⟩ := cond_none h
          obtain ⟨h1, h⟩ := cond_some h
          obtain ⟨h2, h⟩ := cond_some h
          obtain ⟨h3, h⟩ := cond_some h
          exact ⟨_, h, ok_makeSlice ho (hC.tt _ _ hi1) rfl (hC.tt _ _ hi) h0 hx hy hz (of_decide_eq_true h1) (of_decide_eq_true h2) (of_decide_eq_true h3)⟩
        · cases h
      · cases h
    · cases h
  · -- slice
    rename_i t x lo hi mx ho
    split at h
    · rename_i i v l hh hi' hx hlo hhi
      split at h
      · split at h
        · rename_i e hk
          split at h
          · rename_i ei hei
            exact ok_slice ho (hC.tt _ _ hi') hk (hC.tt _ _ hei) hx hlo hhi h
          · cases h
        · rename_i hk
          split at h
          · rename_i s
            exact ok_cutStr ho (hC.tt _ _ hi') hk hx hlo hhi h
          · cases h
        · cases h
      · rename_i m
        split at h
        · rename_i e km mm hv hk hm
          split at h
          · rename_i ei hei
            obtain ⟨h1, h⟩ := cond_some h
            obtain ⟨h2, h⟩ := cond_some h
            have h1 := of_decide_eq_true h1
            have h2 := of_decide_eq_true h2
            subst h1; subst h2
            cases hi with
            | none => simp [optRd] at hhi
            | some hx' =>
              have : ∃ kh, rd hx' = some ⟨.int kh, (0 : Int)⟩ := by
                simp only [optRd] at hhi
                split at hhi
                · rename_i kh n hn
                  injection hhi with hhi; injection hhi with hhi; subst hhi
                  exact ⟨kh, hn⟩
                · cases hhi
              obtain ⟨kh, hkh⟩ := this
              exact ok_slice3 ho (hC.tt _ _ hi') hk (hC.tt _ _ hei) hx hkh hm h
          · cases h
        · cases h
    · cases h
  · -- fieldAddr
    rename_i s x f ho
    split at h
    · rename_i fs s1 b1 y1 z1 v hi hx
      split at h
      · rename_i ft fo hf
        split at h
        · rename_i fi hfi
          obtain ⟨h0, h⟩ := cond_none h
          exact ok_fieldAddr ho (hC.tt _ _ hi) rfl hf (hC.tt _ _ hfi) hx h0 h
        · cases h
      · cases h
    · cases h
  · -- field
    rename_i s x f ho
    split at h
    · rename_i fs s1 b1 y1 z1 t y hi hx
      split at h
      · rename_i ft fo u q hf hn hq
        split at h
        · rename_i fi hfi
          obtain ⟨h0, h⟩ := cond_some h
          obtain ⟨h1, h2, h3, h4⟩ := fitK_ok h
          exact ⟨_, h1, ok_field ho (hC.tt _ _ hi) rfl hf (hC.tt _ _ hfi) hx hn hq h0 h2 h3 h4⟩
        · cases h
      · cases h
    · cases h
  · -- indexAddr
    rename_i t x y ho
    split at h
    · rename_i e s1 b1 y1 z1 v k i hi hx hy
      split at h
      · rename_i ei hei
        exact ok_indexS ho (hC.tt _ _ hi) rfl (hC.tt _ _ hei) hx hy h
      · cases h
    · rename_i n e s1 b1 y1 z1 v k i hi hx hy
      split at h
      · rename_i ei hei
        exact ok_indexArr ho (hC.tt _ _ hi) rfl (hC.tt _ _ hei) hx hy h
      · cases h
    · cases h
  · -- index
    rename_i t x y ho
    split at h
    · rename_i s1 b1 y1 z1 s k i hi hx hy
      obtain ⟨h1, h⟩ := cond_some h
      exact ⟨_, h, ok_indexStr ho (hC.tt _ _ hi) rfl hx hy h1⟩
    · rename_i n e s1 b1 y1 z1 t' z k i hi hx hy
      split at h
      · rename_i ei hei
        exact ok_indexAgg ho (hC.tt _ _ hi) rfl (hC.tt _ _ hei) hx hy h
      · cases h
    · cases h
  · -- extract
    rename_i x j ho
    split at h
    · rename_i t y hx
      split at h
      · rename_i u hu
        obtain ⟨h1, h⟩ := cond_some h
        exact ⟨_, h, ok_extract ho hx hu h1⟩
      · cases h
    · cases h
  · -- call
    rename_i c ho
    split at h
    · rename_i l hl
      split at h
      · rename_i b hb
        exact evBuiltin_ok hC ho hb hl h
      · rename_i f hb
        split at h
        · rename_i g cs y hf
          obtain ⟨h1, h⟩ := cond_some h
          obtain ⟨h2, h⟩ := cond_some h
          exact ok_call hC.ents ho hb hf hl h1 h2 h
        · cases h
      · cases h
    · cases h
  · cases h
end
end Go.Pv
