/- Pv, fifth text: parts of values, loads and stores. -/
import Derived.Test.YtdkinmgpclbedaaDoorPvPure
import Derived.Laws.Cells
import Derived.Laws.IdiomCopy
import Derived.ArgAppend
set_option linter.unusedVariables false
set_option linter.unusedSimpArgs false
namespace Go.Pv
open Go

section
variable {w : World} {fz bz : Nat → Prop} {φ : Nat → Value}

theorem nth_spec : ∀ {t : Ty} {n : Nat} {x : t.D} {u : PV} {o : Nat} {cs : List Value}, t.nth n x = some u → t.nthOff n = some o → RepC w fz bz φ t x cs →
    ∃ c d e, cs = c ++ (d ++ e) ∧ c.length = o ∧ RepC w fz bz φ u.t u.x d ∧ ∀ k ∈ u.t.toks, k ∈ t.toks := by
  intro t
  induction t with
  | pair a b iha ihb =>
    intro n x u o cs h1 h2 h
    simp only [RepC] at h
    obtain ⟨c, d, rfl, ha, hb⟩ := h
    cases n with
    | zero =>
      simp only [Ty.nth] at h1; injection h1 with h1; subst h1
      simp only [Ty.nthOff] at h2; injection h2 with h2; subst h2
      exact ⟨[], c, d, by simp, rfl, ha, fun k hk => by simp [Ty.toks, hk]⟩
    | succ n =>
      simp only [Ty.nth] at h1
      simp only [Ty.nthOff] at h2
      cases hb2 : b.nthOff n with
      | none => rw [hb2] at h2; cases h2
      | some q =>
        rw [hb2] at h2; injection h2 with h2; subst h2
        obtain ⟨c', d', e', rfl, hc, hd, ht⟩ := ihb h1 hb2 hb
        exact ⟨c ++ c', d', e', by simp, by rw [List.length_append, hc, ha.len], hd, fun k hk => by simp [Ty.toks, ht k hk]⟩
  | _ =>
    intro n x u o cs h1 h2 h
    cases n with
    | zero =>
      simp only [Ty.nth] at h1; injection h1 with h1; subst h1
      simp only [Ty.nthOff] at h2; injection h2 with h2; subst h2
      exact ⟨[], cs, [], by simp, rfl, h, fun k hk => hk⟩
    | succ n => simp [Ty.nth] at h1

theorem setNth_spec : ∀ {t : Ty} {n : Nat} {x : t.D} {u v y : PV} {o : Nat} {c d e d' : List Value}, t.nth n x = some u → t.nthOff n = some o → t.setNth n x v = some y → RepC w fz bz φ t x (c ++ (d ++ e)) →
    c.length = o → d.length = u.t.sz → RepC w fz bz φ v.t v.x d' → v.t.sz = u.t.sz →
    RepC w fz bz φ y.t y.x (c ++ (d' ++ e)) ∧ y.t.sz = t.sz ∧ ∀ k ∈ y.t.toks, k ∈ t.toks ∨ k ∈ v.t.toks := by
  intro t
  induction t with
  | pair a b iha ihb =>
    intro n x u v y o c d e d' h1 h2 h3 h hc hd hv hsz
    simp only [RepC] at h
    obtain ⟨c1, d1, he, ha, hb⟩ := h
    cases n with
    | zero =>
      simp only [Ty.nth] at h1; injection h1 with h1; subst h1
      simp only [Ty.nthOff] at h2; injection h2 with h2; subst h2
      simp only [Ty.setNth] at h3; injection h3 with h3; subst h3
      obtain rfl : c = [] := List.eq_nil_of_length_eq_zero hc
      simp only [List.nil_append] at he ⊢
      obtain ⟨rfl, rfl⟩ := List.append_inj he (by rw [hd, ha.len])
      refine ⟨⟨d', e, rfl, hv, hb⟩, ?_, fun k hk => ?_⟩
      · simp only [Ty.sz]; rw [hsz]
      · simp only [Ty.toks, List.mem_append] at hk ⊢
        rcases hk with hk | hk
        · exact .inr hk
        · exact .inl (.inr hk)
    | succ n =>
      simp only [Ty.nth] at h1
      simp only [Ty.nthOff] at h2
      simp only [Ty.setNth] at h3
      cases hb2 : b.nthOff n with
      | none => rw [hb2] at h2; cases h2
      | some q =>
        rw [hb2] at h2; injection h2 with h2; subst h2
        cases hs : b.setNth n x.2 v with
        | none => rw [hs] at h3; cases h3
        | some y' =>
          rw [hs] at h3; injection h3 with h3; subst h3
          obtain ⟨c2, rfl⟩ : ∃ c2, c = c1 ++ c2 := by
            refine ⟨c.drop c1.length, ?_⟩
            have := congrArg (List.take c1.length) he
            rw [List.take_left' rfl, List.take_append_of_le_length (by rw [hc, ha.len]; omega)] at this
            have key : c = c.take c1.length ++ c.drop c1.length := (List.take_append_drop _ _).symm
            rw [this] at key
            exact key
          rw [List.append_assoc] at he
          have he := List.append_cancel_left he
          subst he
          obtain ⟨g1, g2, g3⟩ := ihb h1 hb2 hs hb (by rw [List.length_append, ha.len] at hc; omega) hd hv hsz
          refine ⟨⟨c1, c2 ++ (d' ++ e), by simp, ha, g1⟩, ?_, fun k hk => ?_⟩
          · simp only [Ty.sz]; rw [g2]
          · simp only [Ty.toks, List.mem_append] at hk ⊢
            rcases hk with hk | hk
            · exact .inl (.inl hk)
            · rcases g3 k hk with h | h
              · exact .inl (.inr h)
              · exact .inr h
  | _ =>
    intro n x u v y o c d e d' h1 h2 h3 h hc hd hv hsz
    cases n with
    | zero =>
      simp only [Ty.nth] at h1; injection h1 with h1; subst h1
      simp only [Ty.nthOff] at h2; injection h2 with h2; subst h2
      simp only [Ty.setNth] at h3; injection h3 with h3; subst h3
      obtain rfl : c = [] := List.eq_nil_of_length_eq_zero hc
      have hl := h.len
      simp only [List.nil_append, List.length_append] at hl
      obtain rfl : e = [] := List.eq_nil_of_length_eq_zero (by simp only [] at hd; omega)
      refine ⟨by simpa using hv, hsz, fun k hk => .inr hk⟩
    | succ n => simp [Ty.nth] at h1

theorem getP_spec : ∀ {p : List Nat} {t : Ty} {x : t.D} {u : PV} {o : Nat} {cs : List Value}, getP p t x = some u → offP p t x = some o → RepC w fz bz φ t x cs →
    ∃ c d e, cs = c ++ (d ++ e) ∧ c.length = o ∧ RepC w fz bz φ u.t u.x d ∧ ∀ k ∈ u.t.toks, k ∈ t.toks := by
  intro p
  induction p with
  | nil =>
    intro t x u o cs h1 h2 h
    simp only [getP] at h1; injection h1 with h1; subst h1
    simp only [offP] at h2; injection h2 with h2; subst h2
    exact ⟨[], cs, [], by simp, rfl, h, fun k hk => hk⟩
  | cons i p ih =>
    intro t x u o cs h1 h2 h
    cases t <;> simp only [getP] at h1 <;> first | (cases h1; done) | skip
    rename_i t
    simp only [offP] at h2
    simp only [RepC] at h
    cases hn : t.nth i x with
    | none => rw [hn] at h1; cases h1
    | some v =>
      rw [hn] at h1 h2
      simp only [] at h1 h2
      cases ho : t.nthOff i with
      | none => rw [ho] at h2; cases h2
      | some q =>
        rw [ho] at h2
        simp only [] at h2
        cases hp : offP p v.t v.x with
        | none => rw [hp] at h2; cases h2
        | some q' =>
          rw [hp] at h2; injection h2 with h2; subst h2
          obtain ⟨c, d, e, rfl, hc, hd, ht⟩ := nth_spec hn ho h
          obtain ⟨c', d', e', rfl, hc', hd', ht'⟩ := ih h1 hp hd
          exact ⟨c ++ c', d', e' ++ e, by simp, by rw [List.length_append, hc, hc'], hd', fun k hk => ht k (ht' k hk)⟩

theorem setP_spec : ∀ {p : List Nat} {t : Ty} {x : t.D} {u v y : PV} {o : Nat} {c d e d' : List Value}, getP p t x = some u → offP p t x = some o → setP p t x v = some y → RepC w fz bz φ t x (c ++ (d ++ e)) →
    c.length = o → d.length = u.t.sz → RepC w fz bz φ v.t v.x d' → v.t.sz = u.t.sz →
    RepC w fz bz φ y.t y.x (c ++ (d' ++ e)) ∧ y.t.sz = t.sz ∧ ∀ k ∈ y.t.toks, k ∈ t.toks ∨ k ∈ v.t.toks := by
  intro p
  induction p with
  | nil =>
    intro t x u v y o c d e d' h1 h2 h3 h hc hd hv hsz
    simp only [getP] at h1; injection h1 with h1; subst h1
    simp only [offP] at h2; injection h2 with h2; subst h2
    simp only [setP] at h3; injection h3 with h3; subst h3
    obtain rfl : c = [] := List.eq_nil_of_length_eq_zero hc
    have hl := h.len
    simp only [List.nil_append, List.length_append] at hl
    obtain rfl : e = [] := List.eq_nil_of_length_eq_zero (by simp only [] at hd; omega)
    exact ⟨by simpa using hv, hsz, fun k hk => .inr hk⟩
  | cons i p ih =>
    intro t x u v y o c d e d' h1 h2 h3 h hc hd hv hsz
    cases t <;> simp only [getP] at h1 <;> first | (cases h1; done) | skip
    rename_i t
    simp only [offP] at h2
    simp only [setP] at h3
    simp only [RepC] at h
    cases hn : t.nth i x with
    | none => rw [hn] at h1; cases h1
    | some z =>
      rw [hn] at h1 h2 h3
      simp only [] at h1 h2 h3
      cases ho : t.nthOff i with
      | none => rw [ho] at h2; cases h2
      | some q =>
        rw [ho] at h2
        simp only [] at h2
        cases hp : offP p z.t z.x with
        | none => rw [hp] at h2; cases h2
        | some q' =>
          rw [hp] at h2; injection h2 with h2; subst h2
          cases hs : setP p z.t z.x v with
          | none => rw [hs] at h3; cases h3
          | some z' =>
            rw [hs] at h3; simp only [] at h3
            cases hs2 : t.setNth i x z' with
            | none => rw [hs2] at h3; cases h3
            | some y' =>
              rw [hs2] at h3; injection h3 with h3; subst h3
              obtain ⟨c1, d1, e1, he, hc1, hd1, ht1⟩ := nth_spec hn ho h
              obtain ⟨c2, d2, e2, rfl, hc2, hd2, ht2⟩ := getP_spec h1 hp hd1
              have e1' : c = c1 ++ c2 ∧ d ++ e = d2 ++ (e2 ++ e1) := by
                refine List.append_inj ?_ (by rw [hc, List.length_append, hc1, hc2])
                rw [he]; simp
              obtain ⟨rfl, e2'⟩ := e1'
              obtain ⟨rfl, rfl⟩ := List.append_inj e2' (by rw [hd, hd2.len])
              obtain ⟨g1, g2, g3⟩ := ih h1 hp hs hd1 hc2 hd hv hsz
              have h' : RepC w fz bz φ t x (c1 ++ ((c2 ++ (d ++ e2)) ++ e1)) := by rw [← he]; exact h
              obtain ⟨f1, f2, f3⟩ := setNth_spec hn ho hs2 h' hc1 hd1.len g1 g2
              refine ⟨?_, f2, fun k hk => ?_⟩
              · simp only [RepC]
                simpa using f1
              · rcases f3 k hk with h | h
                · exact .inl h
                · rcases g3 k h with h | h
                  · exact .inl (ht1 k h)
                  · exact .inr h

/-- A value that a variable can hold, by its cells. -/
theorem RepV.cells {t : Ty} {x : t.D} {v : Value} (hs : t.stor = true) (hφ : ∀ k ∈ t.toks, (φ k).oneCell' = true) (h : RepV w fz bz φ t x v) : ∃ cs, v.cells.toList = cs ∧ RepC w fz bz φ t x cs := by
  cases t <;> simp only [Ty.stor] at hs <;> simp only [RepV, RepV0] at h <;> first
    | (cases hs; done)
    | (obtain ⟨cs, rfl, h⟩ := h; exact ⟨cs, by simp [Value.cells], h⟩)
    | (refine ⟨[v], ?_, h⟩
       have h1 := RepC.one hφ h v (by simp)
       cases v <;> simp_all [Value.cells, Value.oneCell'])
theorem RepV.ofCells {t : Ty} {x : t.D} {cs : List Value} (hs : t.stor = true) (h : RepC w fz bz φ t x cs) : RepV w fz bz φ t x (if t.isAgg then .agg cs.toArray else cs.headD undef) := by
  cases t <;> simp only [Ty.stor] at hs <;> first | (cases hs; done) | skip
  all_goals simp only [Ty.isAgg, if_true, Bool.false_eq_true, if_false, RepV, RepV0]
  all_goals first
    | exact ⟨cs, rfl, h⟩
    | (have hl := h.len
       obtain ⟨v, rfl⟩ : ∃ v, cs = [v] := by
         cases cs with
         | nil => simp [Ty.sz] at hl
         | cons v r => cases r with
           | nil => exact ⟨v, rfl⟩
           | cons u r => simp [Ty.sz] at hl
       exact h)
theorem RepV.store {t : Ty} (hs : t.stor = true) (hA : t.isAgg = false) : t.sz = 1 := by
  cases t <;> simp_all [Ty.stor, Ty.isAgg, Ty.sz]
end
end Go.Pv
